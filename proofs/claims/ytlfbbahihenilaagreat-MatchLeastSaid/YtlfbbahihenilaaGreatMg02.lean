/- Networks: the nearest stop first: in plain Lean. -/
/- Networks: how they lie, and which are right. -/
/- A weighing; which there may be: walked. -/
/- Candidates: samples; which may be: walked. -/
/- Candidates: the document's words on samples: walked. -/
import Derived.Test.YtlfbbahihenilaaGreatMg01
import Derived.Test.YtlfbbahihenilaaGreatRows
import Derived.Test.YtlfbbahihenilaaGreatMg00
import Derived.Lib.QuietBelow
import Derived.Deep.Cut
import Derived.Deep.CutBlock
import Derived.Deep.CutRange
import Derived.Deep.DeepCutAuto
import Derived.Deep.DeepFit
import Derived.Laws.OwnMore
import Derived.Deep.OwnRows
import Derived.StillTailTactics
import Derived.Deep.RegionLaw
import Derived.BigQuiet
import Derived.Deep.QuietTactic
namespace Go.V

structure Rch where
  stop : Int
  far : Int
deriving DecidableEq, Inhabited

/-- A stop's links, the stop being A. -/
def adj (L : List Lnk) (u : Int) : List Lnk := L.flatMap fun l => (if l.a = u then [l] else []) ++ (if l.b = u then [⟨l.b, l.a, l.w⟩] else [])
theorem adj_mem {L : List Lnk} {u : Int} {l : Lnk} (h : l ∈ adj L u) : l.a = u ∧ Edge L u l.b l.w := by
  obtain ⟨x, hx, h1⟩ := List.mem_flatMap.1 h
  rcases List.mem_append.1 h1 with h2 | h2
  · split at h2
    · next e => simp at h2; subst h2; exact ⟨e, l, hx, .inl ⟨e, rfl⟩, rfl⟩
    · simp at h2
  · split at h2
    · next e => simp at h2; subst h2; exact ⟨e, x, hx, .inr ⟨rfl, e⟩, rfl⟩
    · simp at h2
theorem mem_adj {L : List Lnk} {u v w : Int} (h : Edge L u v w) : (⟨u, v, w⟩ : Lnk) ∈ adj L u := by
  obtain ⟨x, hx, h1, h2⟩ := h
  refine List.mem_flatMap.2 ⟨x, hx, ?_⟩
  rcases h1 with ⟨e1, e2⟩ | ⟨e1, e2⟩
  · rw [if_pos e1]
    refine List.mem_append_left _ ?_
    rw [← e1, ← e2, ← h2]; simp
  · rw [if_pos e2]
    refine List.mem_append_right _ ?_
    rw [← e1, ← e2, ← h2]; simp
theorem adj_len (L : List Lnk) (u : Int) : (adj L u).length ≤ 2 * L.length := by
  unfold adj
  induction L with
  | nil => simp
  | cons l L ih =>
    rw [List.flatMap_cons, List.length_append, List.length_append, List.length_cons]
    have h1 : (if l.a = u then [l] else []).length ≤ 1 := by split <;> simp
    have h2 : (if l.b = u then [(⟨l.b, l.a, l.w⟩ : Lnk)] else []).length ≤ 1 := by split <;> simp
    omega
theorem adj_snoc (L : List Lnk) (l : Lnk) (u : Int) : adj (L ++ [l]) u = adj L u ++ ((if l.a = u then [l] else []) ++ (if l.b = u then [⟨l.b, l.a, l.w⟩] else [])) := by
  unfold adj; rw [List.flatMap_append]; simp

/-- What is counted of the stops that are not yet reached. -/
def restF (f : Nat → Nat) : List Int → Nat → Nat
  | [], _ => 0
  | x :: xs, i => (if x < 0 then f i else 0) + restF f xs (i + 1)
theorem restF_set (f : Nat → Nat) : ∀ (xs : List Int) (i q : Nat) (x d : Int), xs[q]? = some x → x < 0 → 0 ≤ d → restF f (xs.set q d) i + f (i + q) = restF f xs i
  | [], _, _, _, _, h, _, _ => by simp at h
  | y :: xs, i, 0, x, d, h, h1, h2 => by
    simp at h; subst h
    simp only [List.set_cons_zero, restF]
    rw [if_neg (by omega), if_pos h1]; simp; omega
  | y :: xs, i, q + 1, x, d, h, h1, h2 => by
    have ih := restF_set f xs (i + 1) q x d (by simpa using h) h1 h2
    simp only [List.set_cons_succ, restF]
    rw [show i + (q + 1) = i + 1 + q by omega]; omega
theorem restF_le (f : Nat → Nat) (b : Nat) (hb : ∀ i, f i ≤ b) : ∀ (xs : List Int) (i : Nat), restF f xs i ≤ xs.length * b
  | [], _ => by simp [restF]
  | x :: xs, i => by
    have ih := restF_le f b hb xs (i + 1)
    have := hb i
    simp only [restF, List.length_cons]
    rw [Nat.add_mul]
    split <;> omega
def unset (out : List Int) : Nat := restF (fun _ => 1) out 0
def links (L : List Lnk) (out : List Int) : Nat := restF (fun v => (adj L v).length) out 0

def Set' (out : List Int) (v : Int) : Prop := ∃ e, out[v.toNat]? = some e ∧ 0 ≤ e
structure DInv (L : List Lnk) (k : Nat) (a : Int) (out : List Int) (H : List Rch) : Prop where
  len : out.length = k
  one : ∀ (v : Nat) d, out[v]? = some d → d = -1 ∨ 0 ≤ d ∧ DistAt L a v d
  ent : ∀ x ∈ H, 0 ≤ x.stop ∧ x.stop < k ∧ 0 ≤ x.far ∧ Wlk L a x.stop x.far ∧ x.far + (unset out : Int) * 1048576 ≤ (k : Int) * 1048576
  edge : ∀ (u : Nat) (d v w : Int), out[u]? = some d → 0 ≤ d → Edge L u v w → Set' out v ∨ ∃ x ∈ H, x.stop = v ∧ x.far ≤ d + w
  start : Set' out a ∨ ∃ x ∈ H, x.stop = a ∧ x.far ≤ 0
structure PInv (L : List Lnk) (k : Nat) (a : Int) (out : List Int) (H : List Rch) (x : Rch) (pre : List Lnk) : Prop where
  len : out.length = k
  one : ∀ (v : Nat) d, out[v]? = some d → d = -1 ∨ 0 ≤ d ∧ DistAt L a v d
  ent : ∀ x ∈ H, 0 ≤ x.stop ∧ x.stop < k ∧ 0 ≤ x.far ∧ Wlk L a x.stop x.far ∧ x.far + (unset out : Int) * 1048576 ≤ (k : Int) * 1048576
  edge : ∀ (u : Nat) (d v w : Int), out[u]? = some d → 0 ≤ d → Edge L u v w → ((u : Int) = x.stop → (⟨u, v, w⟩ : Lnk) ∈ pre) → Set' out v ∨ ∃ x ∈ H, x.stop = v ∧ x.far ≤ d + w
  start : Set' out a ∨ ∃ x ∈ H, x.stop = a ∧ x.far ≤ 0
  here : out[x.stop.toNat]? = some x.far ∧ 0 ≤ x.stop ∧ x.stop < k ∧ 0 ≤ x.far
  top : x.far + ((unset out : Int) + 1) * 1048576 ≤ (k : Int) * 1048576

section
variable {L : List Lnk} {k : Nat} {a : Int} {out : List Int} {H H' : List Rch} {x : Rch}
theorem DInv.perm (h : DInv L k a out H) (hp : H'.Perm H) : DInv L k a out H' := by
  refine ⟨h.len, h.one, fun x hx => h.ent x (hp.mem_iff.1 hx), fun u d v w h1 h2 h3 => ?_, ?_⟩
  · rcases h.edge u d v w h1 h2 h3 with h4 | ⟨y, h4, h5⟩
    · exact .inl h4
    · exact .inr ⟨y, hp.mem_iff.2 h4, h5⟩
  · rcases h.start with h4 | ⟨y, h4, h5⟩
    · exact .inl h4
    · exact .inr ⟨y, hp.mem_iff.2 h4, h5⟩
theorem PInv.perm {pre : List Lnk} (h : PInv L k a out H x pre) (hp : H'.Perm H) : PInv L k a out H' x pre := by
  refine ⟨h.len, h.one, fun x hx => h.ent x (hp.mem_iff.1 hx), fun u d v w h1 h2 h3 h0 => ?_, ?_, h.here, h.top⟩
  · rcases h.edge u d v w h1 h2 h3 h0 with h4 | ⟨y, h4, h5⟩
    · exact .inl h4
    · exact .inr ⟨y, hp.mem_iff.2 h4, h5⟩
  · rcases h.start with h4 | ⟨y, h4, h5⟩
    · exact .inl h4
    · exact .inr ⟨y, hp.mem_iff.2 h4, h5⟩
theorem unset_rep (k : Nat) (i : Nat) : restF (fun _ => 1) (List.replicate k (-1 : Int)) i = k := by
  induction k generalizing i with
  | zero => rfl
  | succ k ih => rw [List.replicate_succ]; simp only [restF]; rw [ih]; simp; omega
theorem DInv.begin (ha : 0 ≤ a ∧ a < k) : DInv L k a (List.replicate k (-1)) [⟨a, 0⟩] := by
  have h0 : ∀ (v : Nat) d, (List.replicate k (-1 : Int))[v]? = some d → d = -1 := by
    intro v d h
    rw [List.getElem?_replicate] at h
    split at h
    · cases h; rfl
    · cases h
  refine ⟨by simp, fun v d h => .inl (h0 v d h), fun x hx => ?_, fun u d v w h1 h2 _ => ?_, .inr ⟨_, List.mem_singleton.2 rfl, rfl, Int.le_refl _⟩⟩
  · simp at hx; subst hx
    refine ⟨ha.1, ha.2, Int.le_refl _, .nil, ?_⟩
    unfold unset; rw [unset_rep]; show (0 : Int) + _ ≤ _; omega
  · have := h0 u d h1; omega
theorem DInv.reach (h : DInv L k a out H) (hL : LinksOk L k) {v d : Int} (hw : Wlk L a v d) : Set' out v ∨ ∃ x ∈ H, x.far ≤ d := by
  induction hw with
  | nil =>
    rcases h.start with h1 | ⟨x, h1, h2, h3⟩
    · exact .inl h1
    · exact .inr ⟨x, h1, h3⟩
  | cons h1 he ih =>
    rename_i b c d w
    have hr := hL.edge he
    rcases ih with ⟨e, g1, g2⟩ | ⟨x, g1, g2⟩
    · have hb : ((b.toNat : Nat) : Int) = b := Int.toNat_of_nonneg hr.1
      rcases h.one _ _ g1 with g3 | ⟨g3, g4⟩
      · omega
      · rw [hb] at g4
        rcases g4 with ⟨g4, -⟩ | ⟨-, -, g5⟩
        · omega
        · have g6 := g5 _ h1
          rcases h.edge b.toNat e c w g1 g2 (by rw [hb]; exact he) with g7 | ⟨x, g7, g8, g9⟩
          · exact .inl g7
          · exact .inr ⟨x, g7, by omega⟩
    · exact .inr ⟨x, g1, by omega⟩
/-- Nothing is left: these are the distances. -/
theorem DInv.final (h : DInv L k a out []) (hL : LinksOk L k) (ha : 0 ≤ a ∧ a < k) : out = bf L k a := by
  have hf := far_is hL ha
  rw [bf_far hL ha]
  apply List.ext_getElem?
  intro v
  by_cases hv : v < k
  · rw [List.getElem?_map, List.getElem?_range hv]
    obtain ⟨d, hd⟩ : ∃ d, out[v]? = some d := ⟨_, List.getElem?_eq_getElem (by rw [h.len]; exact hv)⟩
    rw [hd]
    show some d = some (far L k a v)
    congr 1
    rcases h.one v d hd with h1 | ⟨h1, h2⟩
    · rcases hf.cases v with h3 | h3
      · rw [h1, h3]
      · rcases h.reach hL (hf.walk h3) with ⟨e, g1, g2⟩ | ⟨x, g1, -⟩
        · rw [Int.toNat_natCast, hd] at g1
          cases g1; omega
        · simp at g1
    · exact (hf.eq h2).symm
  · rw [List.getElem?_eq_none (by rw [h.len]; omega), List.getElem?_eq_none (by simp; omega)]
theorem DInv.skip (h : DInv L k a out H) (hp : (x :: H').Perm H) (hs : Set' out x.stop) (hx0 : 0 ≤ x.stop) : DInv L k a out H' := by
  have h1 := h.perm hp
  refine ⟨h1.len, h1.one, fun y hy => h1.ent y (by simp [hy]), fun u d v w g1 g2 g3 => ?_, ?_⟩
  · rcases h1.edge u d v w g1 g2 g3 with g4 | ⟨y, g4, g5, g6⟩
    · exact .inl g4
    · rcases List.mem_cons.1 g4 with e | e
      · subst e; rw [← g5]; exact .inl hs
      · exact .inr ⟨y, e, g5, g6⟩
  · rcases h1.start with g4 | ⟨y, g4, g5, g6⟩
    · exact .inl g4
    · rcases List.mem_cons.1 g4 with e | e
      · subst e; rw [← g5]; exact .inl hs
      · exact .inr ⟨y, e, g5, g6⟩
theorem unset_set {q : Nat} {y d : Int} (h : out[q]? = some y) (h1 : y < 0) (h2 : 0 ≤ d) : unset (out.set q d) + 1 = unset out := restF_set _ out 0 q y d h h1 h2
theorem set_at {q p : Nat} {d e : Int} (h : (out.set q d)[p]? = some e) : p = q ∧ e = d ∨ p ≠ q ∧ out[p]? = some e := by
  rw [List.getElem?_set] at h
  split at h
  · next hh =>
    split at h
    · cases h; exact .inl ⟨hh.symm, rfl⟩
    · cases h
  · next hh => exact .inr ⟨fun e => hh e.symm, h⟩
theorem Set'.set {q : Nat} {v d : Int} (h : Set' out v) (hd : 0 ≤ d) : Set' (out.set q d) v := by
  obtain ⟨e, h1, h2⟩ := h
  unfold Set'
  rw [List.getElem?_set]
  split
  · next hh =>
    subst hh
    rw [if_pos (List.getElem?_eq_some_iff.1 h1).1]; exact ⟨d, rfl, hd⟩
  · exact ⟨e, h1, h2⟩
theorem DInv.take (h : DInv L k a out H) (hL : LinksOk L k) (hp : (x :: H').Perm H) (hmin : ∀ y ∈ H, x.far ≤ y.far) {e : Int} (hs : out[x.stop.toNat]? = some e) (he : e < 0) : PInv L k a (out.set x.stop.toNat x.far) H' x [] := by
  have h1 := h.perm hp
  obtain ⟨x1, x2, x3, x4, x5⟩ := h1.ent x (by simp)
  have hlt : x.stop.toNat < out.length := (List.getElem?_eq_some_iff.1 hs).1
  have hu := unset_set hs he x3
  have hself : (out.set x.stop.toNat x.far)[x.stop.toNat]? = some x.far := List.getElem?_set_self hlt
  have hx : DistAt L a x.stop x.far := by
    refine .inr ⟨x3, x4, fun d hd => ?_⟩
    rcases h.reach hL hd with ⟨e', g1, g2⟩ | ⟨y, g1, g2⟩
    · rw [hs] at g1; cases g1; omega
    · have := hmin y g1; omega
  refine ⟨by simp [h.len], fun v d hd => ?_, fun y hy => ?_, fun u d v w g1 g2 g3 g4 => ?_, ?_, ⟨hself, x1, x2, x3⟩, by omega⟩
  · rcases set_at hd with ⟨e1, e2⟩ | ⟨e1, e2⟩
    · subst e1; subst e2
      rw [Int.toNat_of_nonneg x1]; exact .inr ⟨x3, hx⟩
    · exact h.one v d e2
  · obtain ⟨y1, y2, y3, y4, y5⟩ := h1.ent y (by simp [hy])
    exact ⟨y1, y2, y3, y4, by omega⟩
  · rcases set_at g1 with ⟨e1, e2⟩ | ⟨e1, e2⟩
    · have := g4 (by rw [e1]; exact Int.toNat_of_nonneg x1)
      simp at this
    · rcases h1.edge u d v w e2 g2 g3 with k1 | ⟨y, k1, k2, k3⟩
      · exact .inl (k1.set x3)
      · rcases List.mem_cons.1 k1 with e | e
        · subst e
          rw [← k2]
          exact .inl ⟨_, hself, x3⟩
        · exact .inr ⟨y, e, k2, k3⟩
  · rcases h1.start with k1 | ⟨y, k1, k2, k3⟩
    · exact .inl (k1.set x3)
    · rcases List.mem_cons.1 k1 with e | e
      · subst e
        rw [← k2]
        exact .inl ⟨_, hself, x3⟩
      · exact .inr ⟨y, e, k2, k3⟩
theorem PInv.done (h : PInv L k a out H x (adj L x.stop)) : DInv L k a out H :=
  ⟨h.len, h.one, h.ent, fun u d v w g1 g2 g3 => h.edge u d v w g1 g2 g3 (fun e => by rw [← e]; exact mem_adj g3), h.start⟩
theorem PInv.seen {pre : List Lnk} {l : Lnk} (h : PInv L k a out H x pre) (hs : Set' out l.b) : PInv L k a out H x (pre ++ [l]) := by
  refine ⟨h.len, h.one, h.ent, fun u d v w g1 g2 g3 g4 => ?_, h.start, h.here, h.top⟩
  by_cases e : (u : Int) = x.stop
  · rcases List.mem_append.1 (g4 e) with k1 | k1
    · exact h.edge u d v w g1 g2 g3 (fun _ => k1)
    · simp at k1
      rw [← k1] at hs
      exact .inl hs
  · exact h.edge u d v w g1 g2 g3 (fun e' => absurd e' e)
theorem PInv.push {pre : List Lnk} {l : Lnk} (h : PInv L k a out H x pre) (hL : LinksOk L k) (hl : l ∈ adj L x.stop) (hp : H'.Perm (⟨l.b, x.far + l.w⟩ :: H)) : PInv L k a out H' x (pre ++ [l]) := by
  obtain ⟨l1, l2⟩ := adj_mem hl
  have lr := hL.edge l2
  obtain ⟨x1, x2, x3, x4⟩ := h.here
  have hx4 : Wlk L a x.stop x.far := by
    rcases h.one _ _ x1 with g1 | ⟨-, g1⟩
    · omega
    · rw [Int.toNat_of_nonneg x2] at g1
      rcases g1 with ⟨g1, -⟩ | ⟨-, g1, -⟩
      · omega
      · exact g1
  refine PInv.perm (H := ⟨l.b, x.far + l.w⟩ :: H) ⟨h.len, h.one, fun y hy => ?_, fun u d v w g1 g2 g3 g4 => ?_, ?_, h.here, h.top⟩ hp
  · rcases List.mem_cons.1 hy with e | e
    · subst e
      have := h.top
      exact ⟨lr.2.2.1, lr.2.2.2.1, by show 0 ≤ x.far + l.w; omega, .cons hx4 l2, by show x.far + l.w + _ ≤ _; omega⟩
    · exact h.ent y e
  · by_cases e : (u : Int) = x.stop
    · rcases List.mem_append.1 (g4 e) with k1 | k1
      · rcases h.edge u d v w g1 g2 g3 (fun _ => k1) with q | ⟨y, q1, q2⟩
        · exact .inl q
        · exact .inr ⟨y, by simp [q1], q2⟩
      · simp at k1
        rw [show u = x.stop.toNat by omega, x1] at g1
        cases g1
        refine .inr ⟨_, List.mem_cons_self, ?_, ?_⟩
        · rw [← k1]
        · rw [← k1]; exact Int.le_refl _
    · rcases h.edge u d v w g1 g2 g3 (fun e' => absurd e' e) with q | ⟨y, q1, q2⟩
      · exact .inl q
      · exact .inr ⟨y, by simp [q1], q2⟩
  · rcases h.start with q | ⟨y, q1, q2⟩
    · exact .inl q
    · exact .inr ⟨y, by simp [q1], q2⟩
theorem links_set {q : Nat} {y d : Int} (h : out[q]? = some y) (h1 : y < 0) (h2 : 0 ≤ d) : links L (out.set q d) + (adj L q).length = links L out := by
  have := restF_set (fun v : Nat => (adj L v).length) out 0 q y d h h1 h2
  rw [Nat.zero_add] at this; exact this
theorem links_le (L : List Lnk) (out : List Int) : links L out ≤ out.length * (2 * L.length) := restF_le _ _ (fun i => adj_len L i) out 0
end
end Go.V

namespace Go.Proofs.YtlfbbahihenilaaGreat.Ne
open Go.RowKit Go.V Go.Proofs

def lnkEnc (r : Lnk) : List Value := [.int .i64 r.a, .int .i64 r.b, .int .i64 r.w]
def lcod : Cod Lnk := ⟨3, lnkEnc, fun _ => rfl, by simp [lnkEnc, Value.oneCell']⟩
abbrev lval (r : Lnk) : Value := .agg #[.int .i64 r.a, .int .i64 r.b, .int .i64 r.w]
def lok (r : Lnk) : Prop := (Lit.int .i64 r.a).wf = true ∧ (Lit.int .i64 r.b).wf = true ∧ (Lit.int .i64 r.w).wf = true
def rchEnc (r : Rch) : List Value := [.int .i64 r.stop, .int .i64 r.far]
def rcod : Cod Rch := ⟨2, rchEnc, fun _ => rfl, by simp [rchEnc, Value.oneCell']⟩
abbrev rval (r : Rch) : Value := .agg #[.int .i64 r.stop, .int .i64 r.far]
theorem lnk_at {w : World} {a : Option Addr} {n cap : Nat} {l : List Lnk} (h : Sl lcod w a n cap l) {i : Nat} (hi : i < n) :
   ∃ b off r, a = some ⟨b, off, none⟩ ∧ b < w.heap.size ∧ l[i]? = some r ∧ w.cell? ⟨b, off + i * 3, none⟩ = some (.int .i64 r.a) ∧ w.cell? ⟨b, off + i * 3 + 1, none⟩ = some (.int .i64 r.b) ∧ w.cell? ⟨b, off + i * 3 + 2, none⟩ = some (.int .i64 r.w) := by
  obtain ⟨b, off, rfl, hb, r, hr, hc⟩ := h.some hi
  exact ⟨b, off, r, rfl, hb, hr, hc 0 _ rfl, hc 1 _ rfl, hc 2 _ rfl⟩
/-! ### Networks -/
structure Net where
  ver : Int
  stops : List Stp
  links : List Lnk
deriving DecidableEq
abbrev Net.val (n : Net) (hs hl : Hdr) : Value := .agg #[.int .i64 n.ver, .slice hs.a hs.n hs.cap, .slice hl.a hl.n hl.cap]
abbrev Net.box (n : Net) (hs hl : Hdr) : Obj := .cells #[.int .i64 n.ver, .slice hs.a hs.n hs.cap, .slice hl.a hl.n hl.cap] 25
structure NetIn (w : World) (n : Net) (hs hl : Hdr) : Prop where
  s : Sl Stp.cod w hs.a hs.n hs.cap n.stops
  l : Sl lcod w hl.a hl.n hl.cap n.links
theorem NetIn.below {w w' : World} {n : Net} {hs hl : Hdr} (h : NetIn w n hs hl) (hb : Below w.heap.size w w') : NetIn w' n hs hl := ⟨h.s.below hb, h.l.below hb⟩
def NetBox (w : World) (g : Nat) (n : Net) (hs hl : Hdr) : Prop := w.heap[g]? = some (.cells #[.int .i64 n.ver, .slice hs.a hs.n hs.cap, .slice hl.a hl.n hl.cap] 25 (0, 0))
theorem NetBox.below {w w' : World} {g : Nat} {n : Net} {hs hl : Hdr} (h : NetBox w g n hs hl) (hw : Below w.heap.size w w') : NetBox w' g n hs hl := box_below h hw
theorem NetBox.alloc {w : World} {g : Nat} {n : Net} {hs hl : Hdr} (h : NetBox w g n hs hl) (o : Obj) : NetBox (w.alloc o) g n hs hl := box_alloc h
theorem NetBox.cells {w : World} {g : Nat} {n : Net} {hs hl : Hdr} (h : NetBox w g n hs hl) : g < w.heap.size ∧ w.cell? ⟨g, 0, none⟩ = some (.int .i64 n.ver) ∧ w.cell? ⟨g, 1, none⟩ = some (.slice hs.a hs.n hs.cap) ∧ w.cell? ⟨g, 2, none⟩ = some (.slice hl.a hl.n hl.cap) :=
  ⟨box_lt h, (box_cell h 0).1, (box_cell h 1).1, (box_cell h 2).1⟩

def wB (n lo hi : Int) : Bool := decide (lo ≤ n ∧ n ≤ hi)
def lnkB (k : Nat) (l : Lnk) : Bool := decide (0 ≤ l.a ∧ l.a < l.b ∧ l.b < k ∧ 1 ≤ l.w ∧ l.w ≤ 1048575)
def aftB (a b : Lnk) : Bool := decide (a.a < b.a ∨ a.a = b.a ∧ a.b < b.b)
def linksB (k : Nat) : Option Lnk → List Lnk → Bool
  | _, [] => true
  | none, l :: L => lnkB k l && linksB k (some l) L
  | some p, l :: L => lnkB k l && aftB p l && linksB k (some l) L
def netB (n : Net) : Bool := wB n.ver 1 1048576 && n.stops.all stpB && linksB n.stops.length none n.links
def checkE (n : Net) : Int := if n.stops.length ≤ 4096 ∧ n.links.length ≤ 16384 then if netB n then 0 else 2 else 3
def prv (L : List Lnk) : Nat → Option Lnk
  | 0 => none
  | i + 1 => L[i]?

theorem linksB_all {k : Nat} : ∀ (L : List Lnk) (p : Option Lnk), linksB k p L = true → (∀ l ∈ L, lnkB k l = true) ∧ (∀ q, p = some q → ∀ l ∈ L, aftB q l = true) ∧ L.Pairwise (fun a b => aftB a b = true)
  | [], _, _ => ⟨fun l hl => by simp at hl, fun _ _ l hl => by simp at hl, List.Pairwise.nil⟩
  | l :: L, p, h => by
    have h' : lnkB k l = true ∧ (∀ q, p = some q → aftB q l = true) ∧ linksB k (some l) L = true := by
      cases p with
      | none =>
        simp only [linksB, Bool.and_eq_true] at h
        exact ⟨h.1, fun q hq => (nomatch hq), h.2⟩
      | some q =>
        simp only [linksB, Bool.and_eq_true] at h
        exact ⟨h.1.1, fun q' hq => by cases hq; exact h.1.2, h.2⟩
    obtain ⟨h1, h2, h3⟩ := h'
    obtain ⟨g1, g2, g3⟩ := linksB_all L (some l) h3
    refine ⟨fun x hx => ?_, fun q hq x hx => ?_, List.Pairwise.cons (fun x hx => g2 l rfl x hx) g3⟩
    · rcases List.mem_cons.1 hx with rfl | hx
      · exact h1
      · exact g1 x hx
    · rcases List.mem_cons.1 hx with rfl | hx
      · exact h2 q hq
      · have a1 := h2 q hq
        have a2 := g2 l rfl x hx
        simp only [aftB, decide_eq_true_eq] at a1 a2 ⊢
        omega
/-- What is so of a right network. -/
theorem check_ok {n : Net} (h : checkE n = 0) : n.stops.length ≤ 4096 ∧ n.links.length ≤ 16384 ∧ (1 ≤ n.ver ∧ n.ver ≤ 1048576) ∧ (∀ s ∈ n.stops, stpB s = true) ∧ LinksOk n.links n.stops.length ∧ n.links.Pairwise (fun a b => aftB a b = true) := by
  unfold checkE at h
  split at h
  · next h1 =>
    split at h
    · next h2 =>
      unfold netB at h2
      simp only [Bool.and_eq_true] at h2
      obtain ⟨g1, -, g3⟩ := linksB_all _ _ h2.2
      refine ⟨h1.1, h1.2, of_decide_eq_true h2.1.1, by simpa using h2.1.2, fun l hl => ?_, g3⟩
      have := g1 l hl
      simp only [lnkB, decide_eq_true_eq] at this
      exact this
    · cases h
  · cases h
theorem check_cases (n : Net) : (checkE n = 3 ∧ ¬ (n.stops.length ≤ 4096 ∧ n.links.length ≤ 16384)) ∨ (n.stops.length ≤ 4096 ∧ n.links.length ≤ 16384) ∧ (netB n = false ∧ checkE n = 2 ∨ netB n = true ∧ checkE n = 0) := by
  unfold checkE
  by_cases h : n.stops.length ≤ 4096 ∧ n.links.length ≤ 16384
  · rw [if_pos h]
    refine .inr ⟨h, ?_⟩
    cases netB n
    · exact .inl ⟨rfl, rfl⟩
    · exact .inr ⟨rfl, rfl⟩
  · rw [if_neg h]; exact .inl ⟨rfl, h⟩
end Go.Proofs.YtlfbbahihenilaaGreat.Ne

namespace Go.Proofs.YtlfbbahihenilaaGreat.Ne
open Go.RowKit Go.V Go.Proofs

theorem box4w_cells {w : World} {g : Nat} {e : TypeId} {u0 u1 u2 u3 : Value} (h : w.heap[g]? = some (.cells #[u0, u1, u2, u3] e (0, 0))) : w.cell? ⟨g, 0, none⟩ = some u0 ∧ w.cell? ⟨g, 1, none⟩ = some u1 ∧ w.cell? ⟨g, 2, none⟩ = some u2 ∧ w.cell? ⟨g, 3, none⟩ = some u3 :=
  ⟨(box_cell h 0).1, (box_cell h 1).1, (box_cell h 2).1, (box_cell h 3).1⟩
structure Wgh where
  reach : Int
  most : Int
  factor : Int
  change : Int
abbrev Wgh.val (x : Wgh) : Value := .agg #[.int .i64 x.reach, .int .i64 x.most, .int .i64 x.factor, .int .i64 x.change]
abbrev Wgh.box (x : Wgh) : Obj := .cells #[.int .i64 x.reach, .int .i64 x.most, .int .i64 x.factor, .int .i64 x.change] 29
def mayW (x : Wgh) : Bool := wB x.reach 0 1048576 && wB x.most 1 16 && wB x.factor 0 1024 && wB x.change 0 1048576
theorem mayW_in {x : Wgh} (h : mayW x = true) : (0 ≤ x.factor ∧ x.factor ≤ 1024) ∧ 0 ≤ x.change ∧ x.change ≤ 1048576 := by
  unfold mayW at h
  simp only [Bool.and_eq_true] at h
  exact ⟨of_decide_eq_true h.1.2, of_decide_eq_true h.2⟩

set_option maxHeartbeats 400000 in
theorem cwithin_any (n lo hi : Int) (w : World) :
    Calls Tryz.prog 66 #[.int .i64 n, .int .i64 lo, .int .i64 hi] w fun e w' => e = .returned (.bool (wB n lo hi)) ∧ w = w' := by
  by_cases h1 : lo ≤ n
  all_goals
    go_enter Tryz.func66, Tryz.ntmps66
    go_wp2
    go_ret
    exact ⟨ret_bool (by unfold wB; rw [Bool.eq_iff_iff]; simp [*] <;> omega), rfl⟩
set_option maxHeartbeats 400000 in
theorem rfrom21_any (n lo hi : Int) (w : World) :
    Calls Tryz.prog 67 #[.int .i64 n, .int .i64 lo, .int .i64 hi] w fun e w' => e = .returned (.bool (wB n lo hi)) ∧ w = w' := by
  by_cases h1 : lo ≤ n
  all_goals
    go_enter Tryz.func67, Tryz.ntmps67
    go_wp2
    go_ret
    exact ⟨ret_bool (by unfold wB; rw [Bool.eq_iff_iff]; simp [*] <;> omega), rfl⟩

set_option maxHeartbeats 2000000 in
set_option maxRecDepth 100000 in
theorem cmay_any (x : Wgh) (w : World) : Calls Tryz.prog 29 #[x.val] w fun e w' => e = .returned (.bool (mayW x)) ∧ Below w.heap.size w w' := by
  obtain ⟨xr, xm, xf, xc⟩ := x
  have HX := Lib.hid (box_new w (Wgh.mk xr xm xf xc).box)
  obtain ⟨c0, c1, c2, c3⟩ := box4w_cells HX.out
  have HB : Hid (Below w.heap.size w (w.alloc (Wgh.mk xr xm xf xc).box)) := (Below.refl _ _).alloc (Nat.le_refl _) _
  obtain ⟨b1, e1⟩ : ∃ b, wB xr 0 1048576 = b := ⟨_, rfl⟩
  obtain ⟨b2, e2⟩ : ∃ b, wB xm 1 16 = b := ⟨_, rfl⟩
  obtain ⟨b3, e3⟩ : ∃ b, wB xf 0 1024 = b := ⟨_, rfl⟩
  obtain ⟨b4, e4⟩ : ∃ b, wB xc 0 1048576 = b := ⟨_, rfl⟩
  have hm : mayW ⟨xr, xm, xf, xc⟩ = (b1 && b2 && b3 && b4) := by unfold mayW; simp only []; rw [e1, e2, e3, e4]
  have HM := Lib.hid hm
  have E1 := Lib.hid e1
  have E2 := Lib.hid e2
  have E3 := Lib.hid e3
  have E4 := Lib.hid e4
  clear e1 e2 e3 e4 hm
  cases b1 <;> cases b2 <;> cases b3 <;> cases b4
  all_goals
    go_enter Tryz.func29, Tryz.ntmps29
    go_wp2_with (go_at_call 66; refine (cwithin_any _ _ _ _).mono ?_; rintro e w1 ⟨rfl, rfl⟩; first | rw [E1.out] | rw [E2.out] | rw [E3.out] | rw [E4.out])
    go_ret
    exact ⟨by rw [HM.out]; rfl, HB.out⟩
set_option maxHeartbeats 2000000 in
set_option maxRecDepth 100000 in
theorem rcmay_any (x : Wgh) (w : World) : Calls Tryz.prog 31 #[x.val] w fun e w' => e = .returned (.bool (mayW x)) ∧ Below w.heap.size w w' := by
  obtain ⟨xr, xm, xf, xc⟩ := x
  have HX := Lib.hid (box_new w (Wgh.mk xr xm xf xc).box)
  obtain ⟨c0, c1, c2, c3⟩ := box4w_cells HX.out
  have HB : Hid (Below w.heap.size w (w.alloc (Wgh.mk xr xm xf xc).box)) := (Below.refl _ _).alloc (Nat.le_refl _) _
  obtain ⟨b1, e1⟩ : ∃ b, wB xr 0 1048576 = b := ⟨_, rfl⟩
  obtain ⟨b2, e2⟩ : ∃ b, wB xm 1 16 = b := ⟨_, rfl⟩
  obtain ⟨b3, e3⟩ : ∃ b, wB xf 0 1024 = b := ⟨_, rfl⟩
  obtain ⟨b4, e4⟩ : ∃ b, wB xc 0 1048576 = b := ⟨_, rfl⟩
  have hm : mayW ⟨xr, xm, xf, xc⟩ = (b1 && b2 && b3 && b4) := by unfold mayW; simp only []; rw [e1, e2, e3, e4]
  have HM := Lib.hid hm
  have E1 := Lib.hid e1
  have E2 := Lib.hid e2
  have E3 := Lib.hid e3
  have E4 := Lib.hid e4
  clear e1 e2 e3 e4 hm
  cases b1 <;> cases b2 <;> cases b3 <;> cases b4
  all_goals
    go_enter Tryz.func31, Tryz.ntmps31
    go_wp2_with (go_at_call 67; refine (rfrom21_any _ _ _ _).mono ?_; rintro e w1 ⟨rfl, rfl⟩; first | rw [E1.out] | rw [E2.out] | rw [E3.out] | rw [E4.out])
    go_ret
    exact ⟨by rw [HM.out]; rfl, HB.out⟩

end Go.Proofs.YtlfbbahihenilaaGreat.Ne

namespace Go.Proofs.YtlfbbahihenilaaGreat.Ne
open Go.RowKit Go.V Go.Proofs

structure Smp where
  t : Int
  x : Int
  y : Int
deriving Inhabited
def Smp.enc (r : Smp) : List Value := [.int .i64 r.t, .int .i64 r.x, .int .i64 r.y]
def Smp.cod : Cod Smp := ⟨3, Smp.enc, fun _ => rfl, by simp [Smp.enc, Value.oneCell']⟩
abbrev Smp.val (r : Smp) : Value := .agg #[.int .i64 r.t, .int .i64 r.x, .int .i64 r.y]
def Smp.ok (r : Smp) : Prop := (Lit.int .i64 r.t).wf = true ∧ (Lit.int .i64 r.x).wf = true ∧ (Lit.int .i64 r.y).wf = true
theorem smp_at {w : World} {a : Option Addr} {n cap : Nat} {l : List Smp} (h : Sl Smp.cod w a n cap l) {i : Nat} (hi : i < n) :
   ∃ b off r, a = some ⟨b, off, none⟩ ∧ b < w.heap.size ∧ l[i]? = some r ∧ w.cell? ⟨b, off + i * 3, none⟩ = some (.int .i64 r.t) ∧ w.cell? ⟨b, off + i * 3 + 1, none⟩ = some (.int .i64 r.x) ∧ w.cell? ⟨b, off + i * 3 + 2, none⟩ = some (.int .i64 r.y) := by
  obtain ⟨b, off, rfl, hb, r, hr, hc⟩ := h.some hi
  exact ⟨b, off, r, rfl, hb, hr, hc 0 _ rfl, hc 1 _ rfl, hc 2 _ rfl⟩
def smpB (s : Smp) : Bool := wB s.t 0 1099511627776 && wB s.x 0 67108863 && wB s.y 0 67108863
theorem smp_may {s : Smp} (h : smpB s = true) : mayB s.x s.y = true := by
  unfold smpB at h
  simp only [Bool.and_eq_true] at h
  obtain ⟨⟨-, h1⟩, h2⟩ := h
  have h1 := of_decide_eq_true h1
  have h2 := of_decide_eq_true h2
  exact decide_eq_true (by omega)
set_option maxHeartbeats 400000 in
theorem swithin_any (n hi : Int) (w : World) :
    Calls Tryz.prog 80 #[.int .i64 n, .int .i64 hi] w fun e w' => e = .returned (.bool (wB n 0 hi)) ∧ w = w' := by
  by_cases h1 : 0 ≤ n
  all_goals
    go_enter Tryz.func80, Tryz.ntmps80
    go_wp2
    go_ret
    exact ⟨ret_bool (by unfold wB; rw [Bool.eq_iff_iff]; simp [*] <;> omega), rfl⟩
set_option maxHeartbeats 2000000 in
theorem smay_any (s : Smp) (w : World) : Calls Tryz.prog 50 #[s.val] w fun e w' => e = .returned (.bool (smpB s)) ∧ Below w.heap.size w w' := by
  obtain ⟨st, sx, sy⟩ := s
  have HX := Lib.hid (box_new w (.cells #[.int .i64 st, .int .i64 sx, .int .i64 sy] 73))
  obtain ⟨c0, c1, c2, -, -, -⟩ := box3_cells HX.out
  have HB : Hid (Below w.heap.size w (w.alloc (.cells #[.int .i64 st, .int .i64 sx, .int .i64 sy] 73))) := (Below.refl _ _).alloc (Nat.le_refl _) _
  obtain ⟨b1, e1⟩ : ∃ b, wB st 0 1099511627776 = b := ⟨_, rfl⟩
  obtain ⟨b2, e2⟩ : ∃ b, wB sx 0 67108863 = b := ⟨_, rfl⟩
  obtain ⟨b3, e3⟩ : ∃ b, wB sy 0 67108863 = b := ⟨_, rfl⟩
  have HM : Hid (smpB ⟨st, sx, sy⟩ = (b1 && b2 && b3)) := by show _ = _; unfold smpB; simp only []; rw [e1, e2, e3]
  have E1 := Lib.hid e1
  have E2 := Lib.hid e2
  have E3 := Lib.hid e3
  clear e1 e2 e3
  cases b1 <;> cases b2 <;> cases b3
  all_goals
    go_enter Tryz.func50, Tryz.ntmps50
    go_wp2_with (first
      | (go_at_call 80; go_fit (swithin_any st 1099511627776 _); rintro e w1 ⟨rfl, rfl⟩; rw [E1.out])
      | (go_at_call 80; go_fit (swithin_any sx 67108863 _); rintro e w1 ⟨rfl, rfl⟩; rw [E2.out])
      | (go_at_call 80; go_fit (swithin_any sy 67108863 _); rintro e w1 ⟨rfl, rfl⟩; rw [E3.out]))
    go_ret
    exact ⟨by rw [HM.out]; rfl, HB.out⟩
end Go.Proofs.YtlfbbahihenilaaGreat.Ne

namespace Go.Proofs.YtlfbbahihenilaaGreat.Ne
open Go.RowKit Go.V Go.Proofs

set_option maxHeartbeats 4000000 in
theorem rsmay_any (s : Smp) (w : World) : Calls Tryz.prog 89 #[s.val] w fun e w' => e = .returned (.bool (smpB s)) ∧ Below w.heap.size w w' := by
  obtain ⟨st, sx, sy⟩ := s
  have HX := Lib.hid (box_new w (.cells #[.int .i64 st, .int .i64 sx, .int .i64 sy] 73))
  obtain ⟨c0, c1, c2, -, -, -⟩ := box3_cells HX.out
  have HB : Hid (Below w.heap.size w (w.alloc (.cells #[.int .i64 st, .int .i64 sx, .int .i64 sy] 73))) := (Below.refl _ _).alloc (Nat.le_refl _) _
  have HS : Hid (∀ b, (b = true ↔ (0 ≤ st ∧ st ≤ 1099511627776 ∧ 0 ≤ sx ∧ sx < 67108864 ∧ 0 ≤ sy ∧ sy < 67108864)) → b = smpB ⟨st, sx, sy⟩) := by
    intro b hb
    rw [Bool.eq_iff_iff, hb]
    unfold smpB wB
    simp only [Bool.and_eq_true, decide_eq_true_eq]
    omega
  by_cases h1 : 0 ≤ st
  · by_cases h2 : st ≤ 1099511627776
    · by_cases h3 : 0 ≤ sx
      · by_cases h4 : sx < 67108864
        · by_cases h5 : 0 ≤ sy
          all_goals
            go_enter Tryz.func89, Tryz.ntmps89
            go_wp2
            go_ret
            exact ⟨ret_bool (HS.out _ (by simp [*] <;> omega)), HB.out⟩
        · go_enter Tryz.func89, Tryz.ntmps89
          go_wp2
          go_ret
          exact ⟨ret_bool (HS.out _ (by simp [*] <;> omega)), HB.out⟩
      · go_enter Tryz.func89, Tryz.ntmps89
        go_wp2
        go_ret
        exact ⟨ret_bool (HS.out _ (by simp [*] <;> omega)), HB.out⟩
    · go_enter Tryz.func89, Tryz.ntmps89
      go_wp2
      go_ret
      exact ⟨ret_bool (HS.out _ (by simp [*] <;> omega)), HB.out⟩
  · go_enter Tryz.func89, Tryz.ntmps89
    go_wp2
    go_ret
    exact ⟨ret_bool (HS.out _ (by simp <;> omega)), HB.out⟩

/-- May a sample stand here? -/
def stepS (l : List Smp) (i : Nat) (s : Smp) : Bool := smpB s && (match i with | 0 => true | k + 1 => match l[k]? with | some p => decide (p.t < s.t) | none => true)
def rightN (l : List Smp) (k : Nat) : Bool := (List.range k).all fun i => match l[i]? with | some s => stepS l i s | none => true
def rightS (l : List Smp) : Bool := rightN l l.length
theorem rightN_snoc {l : List Smp} {k : Nat} {s : Smp} (h : l[k]? = some s) : rightN l (k + 1) = (rightN l k && stepS l k s) := by
  unfold rightN
  rw [List.range_succ, List.all_append]
  simp [h]
theorem rightN_bad {l : List Smp} {k : Nat} {s : Smp} (h : l[k]? = some s) (hs : stepS l k s = false) : rightS l = false := by
  have hk := (List.getElem?_eq_some_iff.1 h).1
  unfold rightS rightN
  rw [Bool.eq_false_iff]
  intro hh
  have := List.all_eq_true.1 hh k (List.mem_range.2 hk)
  rw [h] at this
  have this : stepS l k s = true := this
  rw [hs] at this; cases this
theorem right_may {l : List Smp} (h : rightS l = true) : ∀ s ∈ l, smpB s = true := by
  intro s hs
  obtain ⟨i, hi, rfl⟩ := List.getElem_of_mem hs
  have := List.all_eq_true.1 h i (List.mem_range.2 hi)
  rw [List.getElem?_eq_getElem hi] at this
  have this : stepS l i l[i] = true := this
  unfold stepS at this
  rw [Bool.and_eq_true] at this
  exact this.1

set_option maxHeartbeats 4000000 in
set_option maxRecDepth 100000 in
theorem right06_any (a : Option Addr) (n cap : Nat) (l : List Smp) (w : World) (hn : n ≤ 2048) (h : Sl Smp.cod w a n cap l) :
    Calls Tryz.prog 59 #[.slice a n cap] w fun e w' => e = .returned (.bool (rightS l)) ∧ Below w.heap.size w w' := by
  have HN := Lib.hid h.hlen
  have HS := Lib.hid h
  have mixed : Tryz.prog.follows .mixedOrders = true := by kernel_rfl
  clear h
  go_enter Tryz.func59, Tryz.ntmps59
  go_wp2
  go_loopw [3] (fun i wr => ∃ (k : Nat), k ≤ n ∧ i = .int .i64 k ∧ Hid (rightN l k = true) ∧ Hid (Below w.heap.size w wr)) (fun i _ => n - (intOf i).toNat)
  case atStart => exact ⟨0, by omega, rfl, rfl, Below.refl _ _⟩
  case round =>
    obtain ⟨k, hk, rfl, hok, hb⟩ := hrel
    by_cases hlt : k < n
    · have hltz : (k : Int) < (n : Int) := by omega
      obtain ⟨b, off, r, rfl, hbl, hr, c0, c1, c2⟩ := smp_at (HS.out.below hb.out) hlt
      have HR := Lib.hid hr
      have C0 := cell_regrown c0
      have C1 := cell_regrown c1
      have C2 := cell_regrown c2
      obtain ⟨bb, hbb⟩ : ∃ b, smpB r = b := ⟨_, rfl⟩
      have HBB := Lib.hid hbb
      have q1 : ∀ nd osq, Calls Tryz.prog 89 #[r.val] (Go.Sort.grow (redrawn wr nd) osq) fun e w' => e = .returned (.bool bb) ∧ Below (Go.Sort.grow (redrawn wr nd) osq).heap.size (Go.Sort.grow (redrawn wr nd) osq) w' := fun nd osq => (rsmay_any r _).mono fun e w' ⟨k1, k2⟩ => ⟨by rw [k1, hbb], k2⟩
      clear hr hbb c1 c2
      cases bb with
      | false =>
        clear c0
        go_upto_region 4 with fail
        refine wp_region_quiet_below (by assumption) (by kernel_rfl) ?_
        repeat (go_big_quiet_step ((go_at_call 89; exact Calls.regrown_of (q1 _ _))))
        refine wpQuiet_nil ?_
        intro w9 hw9
        obtain ⟨⟨nd, osq⟩, rfl⟩ := hw9
        have HB9 : Hid (Below w.heap.size w (Go.Sort.grow (redrawn wr nd) osq)) := hb.out.trans ((below_regrown wr nd osq).mono hb.out.size)
        clear C0 C1 C2 q1
        generalize Go.Sort.grow (redrawn wr nd) osq = w9 at HB9 ⊢
        go_wp2_with fail
        go_ret
        exact ⟨ret_bool (rightN_bad HR.out (by unfold stepS; rw [HBB.out]; rfl)).symm, HB9.out⟩
      | true =>
        cases k with
        | zero =>
          clear c0
          simp only [Nat.zero_mul, Nat.add_zero] at C0 C1 C2
          go_upto_region 4 with fail
          refine wp_region_quiet_below (by assumption) (by kernel_rfl) ?_
          repeat (go_big_quiet_step ((go_at_call 89; exact Calls.regrown_of (q1 _ _))))
          refine wpQuiet_nil ?_
          intro w9 hw9
          obtain ⟨⟨nd, osq⟩, rfl⟩ := hw9
          have HB9 : Hid (Below w.heap.size w (Go.Sort.grow (redrawn wr nd) osq)) := hb.out.trans ((below_regrown wr nd osq).mono hb.out.size)
          clear C0 C1 C2 q1
          generalize Go.Sort.grow (redrawn wr nd) osq = w9 at HB9 ⊢
          go_wp2_with fail
          go_roundw
          case rel => exact ⟨1, by omega, by go_num, by show _ = _; rw [rightN_snoc HR.out, hok.out, Bool.true_and]; unfold stepS; rw [HBB.out]; rfl, HB9.out⟩
          case measure => simp [intOf]; omega
        | succ j =>
          obtain ⟨b', off', p, hba, -, hp, d0, -, -⟩ := smp_at (HS.out.below hb.out) (i := j) (by omega)
          cases hba
          have D0 := cell_regrown d0
          have HP := Lib.hid hp
          have r1 : IntKind.i64.wrap ((↑(j + 1) : Int) - 1) = (j : Int) := by rw [IntKind.wrap_i64]; omega
          have b2 : (j : Int) < (n : Int) := by omega
          have b3 : (0 : Int) < (↑(j + 1) : Int) := by omega
          have HST : Hid (stepS l (j + 1) r = decide (p.t < r.t)) := by show _ = _; unfold stepS; simp only [HP.out, HBB.out, Bool.true_and]
          clear hp d0 c0
          by_cases hle : r.t ≤ p.t
          · go_upto_region 4 with fail
            refine wp_region_quiet_below (by assumption) (by kernel_rfl) ?_
            repeat (go_big_quiet_step ((go_at_call 89; exact Calls.regrown_of (q1 _ _))))
            refine wpQuiet_nil ?_
            intro w9 hw9
            obtain ⟨⟨nd, osq⟩, rfl⟩ := hw9
            have HB9 : Hid (Below w.heap.size w (Go.Sort.grow (redrawn wr nd) osq)) := hb.out.trans ((below_regrown wr nd osq).mono hb.out.size)
            clear C0 C1 C2 D0 q1
            generalize Go.Sort.grow (redrawn wr nd) osq = w9 at HB9 ⊢
            go_wp2_with fail
            go_ret
            exact ⟨ret_bool (rightN_bad HR.out (by rw [HST.out]; exact decide_eq_false (by omega))).symm, HB9.out⟩
          · go_upto_region 4 with fail
            refine wp_region_quiet_below (by assumption) (by kernel_rfl) ?_
            repeat (go_big_quiet_step ((go_at_call 89; exact Calls.regrown_of (q1 _ _))))
            refine wpQuiet_nil ?_
            intro w9 hw9
            obtain ⟨⟨nd, osq⟩, rfl⟩ := hw9
            have HB9 : Hid (Below w.heap.size w (Go.Sort.grow (redrawn wr nd) osq)) := hb.out.trans ((below_regrown wr nd osq).mono hb.out.size)
            clear C0 C1 C2 D0 q1
            generalize Go.Sort.grow (redrawn wr nd) osq = w9 at HB9 ⊢
            go_wp2_with fail
            go_roundw
            case rel => exact ⟨j + 1 + 1, by omega, by go_num, by show _ = _; rw [rightN_snoc HR.out, hok.out, Bool.true_and, HST.out]; exact decide_eq_true (by omega), HB9.out⟩
            case measure => simp [intOf]; omega
    · have hkn : k = n := by omega
      have HK := Lib.hid hkn
      clear hkn
      go_wp2_with fail
      go_ret
      exact ⟨ret_bool (by have := hok.out; rw [HK.out, HN.out] at this; exact this.symm), hb.out⟩
end Go.Proofs.YtlfbbahihenilaaGreat.Ne
