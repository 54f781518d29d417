/- Networks: the nearest stop first: in plain Lean. -/
import Derived.Test.YtknbpnkonhniiaaNeP
import Derived.Test.YtknbpnkonhniiaaNeH
namespace Go.V

structure Rch where
  stop : Int
  far : Int
deriving DecidableEq, Inhabited

/-- A stop's links, the stop being A. -/
def adj (L : List Lnk) (u : Int) : List Lnk := L.flatMap fun l => (if l.a = u then [l] else []) ++ (if l.b = u then [⟨l.b, l.a, l.w⟩] else [])
theorem adj_mem {L : List Lnk} {u : Int} {l : Lnk} (h : l ∈ adj L u) : l.a = u ∧ Edge L u l.b l.w := by
  obtain ⟨x, hx, h1⟩ := List.mem_flatMap.1 h
  rcases List.mem_append.1 h1 with h2 | h2
  · split at h2
    · next e => simp at h2; subst h2; exact ⟨e, l, hx, .inl ⟨e, rfl⟩, rfl⟩
    · simp at h2
  · split at h2
    · next e => simp at h2; subst h2; exact ⟨e, x, hx, .inr ⟨rfl, e⟩, rfl⟩
    · simp at h2
theorem mem_adj {L : List Lnk} {u v w : Int} (h : Edge L u v w) : (⟨u, v, w⟩ : Lnk) ∈ adj L u := by
  obtain ⟨x, hx, h1, h2⟩ := h
  refine List.mem_flatMap.2 ⟨x, hx, ?_⟩
  rcases h1 with ⟨e1, e2⟩ | ⟨e1, e2⟩
  · rw [if_pos e1]
    refine List.mem_append_left _ ?_
    rw [← e1, ← e2, ← h2]; simp
  · rw [if_pos e2]
    refine List.mem_append_right _ ?_
    rw [← e1, ← e2, ← h2]; simp
theorem adj_len (L : List Lnk) (u : Int) : (adj L u).length ≤ 2 * L.length := by
  unfold adj
  induction L with
  | nil => simp
  | cons l L ih =>
    rw [List.flatMap_cons, List.length_append, List.length_append, List.length_cons]
    have h1 : (if l.a = u then [l] else []).length ≤ 1 := by split <;> simp
    have h2 : (if l.b = u then [(⟨l.b, l.a, l.w⟩ : Lnk)] else []).length ≤ 1 := by split <;> simp
    omega
theorem adj_snoc (L : List Lnk) (l : Lnk) (u : Int) : adj (L ++ [l]) u = adj L u ++ ((if l.a = u then [l] else []) ++ (if l.b = u then [⟨l.b, l.a, l.w⟩] else [])) := by
  unfold adj; rw [List.flatMap_append]; simp

/-- What is counted of the stops that are not yet reached. -/
def restF (f : Nat → Nat) : List Int → Nat → Nat
  | [], _ => 0
  | x :: xs, i => (if x < 0 then f i else 0) + restF f xs (i + 1)
theorem restF_set (f : Nat → Nat) : ∀ (xs : List Int) (i q : Nat) (x d : Int), xs[q]? = some x → x < 0 → 0 ≤ d → restF f (xs.set q d) i + f (i + q) = restF f xs i
  | [], _, _, _, _, h, _, _ => by simp at h
  | y :: xs, i, 0, x, d, h, h1, h2 => by
    simp at h; subst h
    simp only [List.set_cons_zero, restF]
    rw [if_neg (by omega), if_pos h1]; simp; omega
  | y :: xs, i, q + 1, x, d, h, h1, h2 => by
    have ih := restF_set f xs (i + 1) q x d (by simpa using h) h1 h2
    simp only [List.set_cons_succ, restF]
    rw [show i + (q + 1) = i + 1 + q by omega]; omega
theorem restF_le (f : Nat → Nat) (b : Nat) (hb : ∀ i, f i ≤ b) : ∀ (xs : List Int) (i : Nat), restF f xs i ≤ xs.length * b
  | [], _ => by simp [restF]
  | x :: xs, i => by
    have ih := restF_le f b hb xs (i + 1)
    have := hb i
    simp only [restF, List.length_cons]
    rw [Nat.add_mul]
    split <;> omega
def unset (out : List Int) : Nat := restF (fun _ => 1) out 0
def links (L : List Lnk) (out : List Int) : Nat := restF (fun v => (adj L v).length) out 0

def Set' (out : List Int) (v : Int) : Prop := ∃ e, out[v.toNat]? = some e ∧ 0 ≤ e
structure DInv (L : List Lnk) (k : Nat) (a : Int) (out : List Int) (H : List Rch) : Prop where
  len : out.length = k
  one : ∀ (v : Nat) d, out[v]? = some d → d = -1 ∨ 0 ≤ d ∧ DistAt L a v d
  ent : ∀ x ∈ H, 0 ≤ x.stop ∧ x.stop < k ∧ 0 ≤ x.far ∧ Wlk L a x.stop x.far ∧ x.far + (unset out : Int) * 1048576 ≤ (k : Int) * 1048576
  edge : ∀ (u : Nat) (d v w : Int), out[u]? = some d → 0 ≤ d → Edge L u v w → Set' out v ∨ ∃ x ∈ H, x.stop = v ∧ x.far ≤ d + w
  start : Set' out a ∨ ∃ x ∈ H, x.stop = a ∧ x.far ≤ 0
structure PInv (L : List Lnk) (k : Nat) (a : Int) (out : List Int) (H : List Rch) (x : Rch) (pre : List Lnk) : Prop where
  len : out.length = k
  one : ∀ (v : Nat) d, out[v]? = some d → d = -1 ∨ 0 ≤ d ∧ DistAt L a v d
  ent : ∀ x ∈ H, 0 ≤ x.stop ∧ x.stop < k ∧ 0 ≤ x.far ∧ Wlk L a x.stop x.far ∧ x.far + (unset out : Int) * 1048576 ≤ (k : Int) * 1048576
  edge : ∀ (u : Nat) (d v w : Int), out[u]? = some d → 0 ≤ d → Edge L u v w → ((u : Int) = x.stop → (⟨u, v, w⟩ : Lnk) ∈ pre) → Set' out v ∨ ∃ x ∈ H, x.stop = v ∧ x.far ≤ d + w
  start : Set' out a ∨ ∃ x ∈ H, x.stop = a ∧ x.far ≤ 0
  here : out[x.stop.toNat]? = some x.far ∧ 0 ≤ x.stop ∧ x.stop < k ∧ 0 ≤ x.far
  top : x.far + ((unset out : Int) + 1) * 1048576 ≤ (k : Int) * 1048576

section
variable {L : List Lnk} {k : Nat} {a : Int} {out : List Int} {H H' : List Rch} {x : Rch}
theorem DInv.perm (h : DInv L k a out H) (hp : H'.Perm H) : DInv L k a out H' := by
  refine ⟨h.len, h.one, fun x hx => h.ent x (hp.mem_iff.1 hx), fun u d v w h1 h2 h3 => ?_, ?_⟩
  · rcases h.edge u d v w h1 h2 h3 with h4 | ⟨y, h4, h5⟩
    · exact .inl h4
    · exact .inr ⟨y, hp.mem_iff.2 h4, h5⟩
  · rcases h.start with h4 | ⟨y, h4, h5⟩
    · exact .inl h4
    · exact .inr ⟨y, hp.mem_iff.2 h4, h5⟩
theorem PInv.perm {pre : List Lnk} (h : PInv L k a out H x pre) (hp : H'.Perm H) : PInv L k a out H' x pre := by
  refine ⟨h.len, h.one, fun x hx => h.ent x (hp.mem_iff.1 hx), fun u d v w h1 h2 h3 h0 => ?_, ?_, h.here, h.top⟩
  · rcases h.edge u d v w h1 h2 h3 h0 with h4 | ⟨y, h4, h5⟩
    · exact .inl h4
    · exact .inr ⟨y, hp.mem_iff.2 h4, h5⟩
  · rcases h.start with h4 | ⟨y, h4, h5⟩
    · exact .inl h4
    · exact .inr ⟨y, hp.mem_iff.2 h4, h5⟩
theorem unset_rep (k : Nat) (i : Nat) : restF (fun _ => 1) (List.replicate k (-1 : Int)) i = k := by
  induction k generalizing i with
  | zero => rfl
  | succ k ih => rw [List.replicate_succ]; simp only [restF]; rw [ih]; simp; omega
theorem DInv.begin (ha : 0 ≤ a ∧ a < k) : DInv L k a (List.replicate k (-1)) [⟨a, 0⟩] := by
  have h0 : ∀ (v : Nat) d, (List.replicate k (-1 : Int))[v]? = some d → d = -1 := by
    intro v d h
    rw [List.getElem?_replicate] at h
    split at h
    · cases h; rfl
    · cases h
  refine ⟨by simp, fun v d h => .inl (h0 v d h), fun x hx => ?_, fun u d v w h1 h2 _ => ?_, .inr ⟨_, List.mem_singleton.2 rfl, rfl, Int.le_refl _⟩⟩
  · simp at hx; subst hx
    refine ⟨ha.1, ha.2, Int.le_refl _, .nil, ?_⟩
    unfold unset; rw [unset_rep]; show (0 : Int) + _ ≤ _; omega
  · have := h0 u d h1; omega
theorem DInv.reach (h : DInv L k a out H) (hL : LinksOk L k) {v d : Int} (hw : Wlk L a v d) : Set' out v ∨ ∃ x ∈ H, x.far ≤ d := by
  induction hw with
  | nil =>
    rcases h.start with h1 | ⟨x, h1, h2, h3⟩
    · exact .inl h1
    · exact .inr ⟨x, h1, h3⟩
  | cons h1 he ih =>
    rename_i b c d w
    have hr := hL.edge he
    rcases ih with ⟨e, g1, g2⟩ | ⟨x, g1, g2⟩
    · have hb : ((b.toNat : Nat) : Int) = b := Int.toNat_of_nonneg hr.1
      rcases h.one _ _ g1 with g3 | ⟨g3, g4⟩
      · omega
      · rw [hb] at g4
        rcases g4 with ⟨g4, -⟩ | ⟨-, -, g5⟩
        · omega
        · have g6 := g5 _ h1
          rcases h.edge b.toNat e c w g1 g2 (by rw [hb]; exact he) with g7 | ⟨x, g7, g8, g9⟩
          · exact .inl g7
          · exact .inr ⟨x, g7, by omega⟩
    · exact .inr ⟨x, g1, by omega⟩
/-- Nothing is left: these are the distances. -/
theorem DInv.final (h : DInv L k a out []) (hL : LinksOk L k) (ha : 0 ≤ a ∧ a < k) : out = bf L k a := by
  have hf := far_is hL ha
  rw [bf_far hL ha]
  apply List.ext_getElem?
  intro v
  by_cases hv : v < k
  · rw [List.getElem?_map, List.getElem?_range hv]
    obtain ⟨d, hd⟩ : ∃ d, out[v]? = some d := ⟨_, List.getElem?_eq_getElem (by rw [h.len]; exact hv)⟩
    rw [hd]
    show some d = some (far L k a v)
    congr 1
    rcases h.one v d hd with h1 | ⟨h1, h2⟩
    · rcases hf.cases v with h3 | h3
      · rw [h1, h3]
      · rcases h.reach hL (hf.walk h3) with ⟨e, g1, g2⟩ | ⟨x, g1, -⟩
        · rw [Int.toNat_natCast, hd] at g1
          cases g1; omega
        · simp at g1
    · exact (hf.eq h2).symm
  · rw [List.getElem?_eq_none (by rw [h.len]; omega), List.getElem?_eq_none (by simp; omega)]
theorem DInv.skip (h : DInv L k a out H) (hp : (x :: H').Perm H) (hs : Set' out x.stop) (hx0 : 0 ≤ x.stop) : DInv L k a out H' := by
  have h1 := h.perm hp
  refine ⟨h1.len, h1.one, fun y hy => h1.ent y (by simp [hy]), fun u d v w g1 g2 g3 => ?_, ?_⟩
  · rcases h1.edge u d v w g1 g2 g3 with g4 | ⟨y, g4, g5, g6⟩
    · exact .inl g4
    · rcases List.mem_cons.1 g4 with e | e
      · subst e; rw [← g5]; exact .inl hs
      · exact .inr ⟨y, e, g5, g6⟩
  · rcases h1.start with g4 | ⟨y, g4, g5, g6⟩
    · exact .inl g4
    · rcases List.mem_cons.1 g4 with e | e
      · subst e; rw [← g5]; exact .inl hs
      · exact .inr ⟨y, e, g5, g6⟩
theorem unset_set {q : Nat} {y d : Int} (h : out[q]? = some y) (h1 : y < 0) (h2 : 0 ≤ d) : unset (out.set q d) + 1 = unset out := restF_set _ out 0 q y d h h1 h2
theorem set_at {q p : Nat} {d e : Int} (h : (out.set q d)[p]? = some e) : p = q ∧ e = d ∨ p ≠ q ∧ out[p]? = some e := by
  rw [List.getElem?_set] at h
  split at h
  · next hh =>
    split at h
    · cases h; exact .inl ⟨hh.symm, rfl⟩
    · cases h
  · next hh => exact .inr ⟨fun e => hh e.symm, h⟩
theorem Set'.set {q : Nat} {v d : Int} (h : Set' out v) (hd : 0 ≤ d) : Set' (out.set q d) v := by
  obtain ⟨e, h1, h2⟩ := h
  unfold Set'
  rw [List.getElem?_set]
  split
  · next hh =>
    subst hh
    rw [if_pos (List.getElem?_eq_some_iff.1 h1).1]; exact ⟨d, rfl, hd⟩
  · exact ⟨e, h1, h2⟩
theorem DInv.take (h : DInv L k a out H) (hL : LinksOk L k) (hp : (x :: H').Perm H) (hmin : ∀ y ∈ H, x.far ≤ y.far) {e : Int} (hs : out[x.stop.toNat]? = some e) (he : e < 0) : PInv L k a (out.set x.stop.toNat x.far) H' x [] := by
  have h1 := h.perm hp
  obtain ⟨x1, x2, x3, x4, x5⟩ := h1.ent x (by simp)
  have hlt : x.stop.toNat < out.length := (List.getElem?_eq_some_iff.1 hs).1
  have hu := unset_set hs he x3
  have hself : (out.set x.stop.toNat x.far)[x.stop.toNat]? = some x.far := List.getElem?_set_self hlt
  have hx : DistAt L a x.stop x.far := by
    refine .inr ⟨x3, x4, fun d hd => ?_⟩
    rcases h.reach hL hd with ⟨e', g1, g2⟩ | ⟨y, g1, g2⟩
    · rw [hs] at g1; cases g1; omega
    · have := hmin y g1; omega
  refine ⟨by simp [h.len], fun v d hd => ?_, fun y hy => ?_, fun u d v w g1 g2 g3 g4 => ?_, ?_, ⟨hself, x1, x2, x3⟩, by omega⟩
  · rcases set_at hd with ⟨e1, e2⟩ | ⟨e1, e2⟩
    · subst e1; subst e2
      rw [Int.toNat_of_nonneg x1]; exact .inr ⟨x3, hx⟩
    · exact h.one v d e2
  · obtain ⟨y1, y2, y3, y4, y5⟩ := h1.ent y (by simp [hy])
    exact ⟨y1, y2, y3, y4, by omega⟩
  · rcases set_at g1 with ⟨e1, e2⟩ | ⟨e1, e2⟩
    · have := g4 (by rw [e1]; exact Int.toNat_of_nonneg x1)
      simp at this
    · rcases h1.edge u d v w e2 g2 g3 with k1 | ⟨y, k1, k2, k3⟩
      · exact .inl (k1.set x3)
      · rcases List.mem_cons.1 k1 with e | e
        · subst e
          rw [← k2]
          exact .inl ⟨_, hself, x3⟩
        · exact .inr ⟨y, e, k2, k3⟩
  · rcases h1.start with k1 | ⟨y, k1, k2, k3⟩
    · exact .inl (k1.set x3)
    · rcases List.mem_cons.1 k1 with e | e
      · subst e
        rw [← k2]
        exact .inl ⟨_, hself, x3⟩
      · exact .inr ⟨y, e, k2, k3⟩
theorem PInv.done (h : PInv L k a out H x (adj L x.stop)) : DInv L k a out H :=
  ⟨h.len, h.one, h.ent, fun u d v w g1 g2 g3 => h.edge u d v w g1 g2 g3 (fun e => by rw [← e]; exact mem_adj g3), h.start⟩
theorem PInv.seen {pre : List Lnk} {l : Lnk} (h : PInv L k a out H x pre) (hs : Set' out l.b) : PInv L k a out H x (pre ++ [l]) := by
  refine ⟨h.len, h.one, h.ent, fun u d v w g1 g2 g3 g4 => ?_, h.start, h.here, h.top⟩
  by_cases e : (u : Int) = x.stop
  · rcases List.mem_append.1 (g4 e) with k1 | k1
    · exact h.edge u d v w g1 g2 g3 (fun _ => k1)
    · simp at k1
      rw [← k1] at hs
      exact .inl hs
  · exact h.edge u d v w g1 g2 g3 (fun e' => absurd e' e)
theorem PInv.push {pre : List Lnk} {l : Lnk} (h : PInv L k a out H x pre) (hL : LinksOk L k) (hl : l ∈ adj L x.stop) (hp : H'.Perm (⟨l.b, x.far + l.w⟩ :: H)) : PInv L k a out H' x (pre ++ [l]) := by
  obtain ⟨l1, l2⟩ := adj_mem hl
  have lr := hL.edge l2
  obtain ⟨x1, x2, x3, x4⟩ := h.here
  have hx4 : Wlk L a x.stop x.far := by
    rcases h.one _ _ x1 with g1 | ⟨-, g1⟩
    · omega
    · rw [Int.toNat_of_nonneg x2] at g1
      rcases g1 with ⟨g1, -⟩ | ⟨-, g1, -⟩
      · omega
      · exact g1
  refine PInv.perm (H := ⟨l.b, x.far + l.w⟩ :: H) ⟨h.len, h.one, fun y hy => ?_, fun u d v w g1 g2 g3 g4 => ?_, ?_, h.here, h.top⟩ hp
  · rcases List.mem_cons.1 hy with e | e
    · subst e
      have := h.top
      exact ⟨lr.2.2.1, lr.2.2.2.1, by show 0 ≤ x.far + l.w; omega, .cons hx4 l2, by show x.far + l.w + _ ≤ _; omega⟩
    · exact h.ent y e
  · by_cases e : (u : Int) = x.stop
    · rcases List.mem_append.1 (g4 e) with k1 | k1
      · rcases h.edge u d v w g1 g2 g3 (fun _ => k1) with q | ⟨y, q1, q2⟩
        · exact .inl q
        · exact .inr ⟨y, by simp [q1], q2⟩
      · simp at k1
        rw [show u = x.stop.toNat by omega, x1] at g1
        cases g1
        refine .inr ⟨_, List.mem_cons_self, ?_, ?_⟩
        · rw [← k1]
        · rw [← k1]; exact Int.le_refl _
    · rcases h.edge u d v w g1 g2 g3 (fun e' => absurd e' e) with q | ⟨y, q1, q2⟩
      · exact .inl q
      · exact .inr ⟨y, by simp [q1], q2⟩
  · rcases h.start with q | ⟨y, q1, q2⟩
    · exact .inl q
    · exact .inr ⟨y, by simp [q1], q2⟩
theorem links_set {q : Nat} {y d : Int} (h : out[q]? = some y) (h1 : y < 0) (h2 : 0 ≤ d) : links L (out.set q d) + (adj L q).length = links L out := by
  have := restF_set (fun v : Nat => (adj L v).length) out 0 q y d h h1 h2
  rw [Nat.zero_add] at this; exact this
theorem links_le (L : List Lnk) (out : List Int) : links L out ≤ out.length * (2 * L.length) := restF_le _ _ (fun i => adj_len L i) out 0
end
end Go.V
