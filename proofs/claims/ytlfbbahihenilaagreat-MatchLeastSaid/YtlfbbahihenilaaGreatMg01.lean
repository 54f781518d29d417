/- Networks: ways and distances, in plain Lean. -/
/- A heap: what is kept in order, in plain Lean. -/
import Derived.WalkKit
namespace Go.V

structure Lnk where
  a : Int
  b : Int
  w : Int
deriving DecidableEq, Inhabited

def Edge (L : List Lnk) (u v w : Int) : Prop := ∃ l ∈ L, (l.a = u ∧ l.b = v ∨ l.a = v ∧ l.b = u) ∧ l.w = w
theorem Edge.symm {L : List Lnk} {u v w : Int} (h : Edge L u v w) : Edge L v u w := by
  obtain ⟨l, h1, h2, h3⟩ := h
  exact ⟨l, h1, h2.symm, h3⟩

/-- A way from a to a stop, and what it weighs. -/
inductive Wlk (L : List Lnk) (a : Int) : Int → Int → Prop
  | nil : Wlk L a a 0
  | cons {b c d w : Int} : Wlk L a b d → Edge L b c w → Wlk L a c (d + w)

/-- Links that may be: between two of k stops, and of some weight. -/
def LinksOk (L : List Lnk) (k : Nat) : Prop := ∀ l ∈ L, 0 ≤ l.a ∧ l.a < l.b ∧ l.b < k ∧ 1 ≤ l.w ∧ l.w ≤ 1048575
section
variable {L : List Lnk} {k : Nat} {a : Int}
theorem LinksOk.edge (h : LinksOk L k) {u v w : Int} (he : Edge L u v w) : 0 ≤ u ∧ u < k ∧ 0 ≤ v ∧ v < k ∧ u ≠ v ∧ 1 ≤ w ∧ w ≤ 1048575 := by
  obtain ⟨l, h1, h2, h3⟩ := he
  have := h l h1
  omega
theorem Wlk.nonneg (h : LinksOk L k) {v d : Int} (hw : Wlk L a v d) : 0 ≤ d := by
  induction hw with
  | nil => omega
  | cons _ he ih => have := h.edge he; omega
theorem Wlk.end_in (h : LinksOk L k) (ha : 0 ≤ a ∧ a < k) {v d : Int} (hw : Wlk L a v d) : 0 ≤ v ∧ v < k := by
  induction hw with
  | nil => exact ha
  | cons _ he _ => have := h.edge he; omega
theorem Wlk.trans {b c d e : Int} (h1 : Wlk L a b d) (h2 : Wlk L b c e) : Wlk L a c (d + e) := by
  induction h2 with
  | nil => rw [Int.add_zero]; exact h1
  | cons _ he ih => rw [← Int.add_assoc]; exact .cons ih he
theorem Wlk.one {u v w : Int} (h : Edge L u v w) : Wlk L u v w := by
  have := Wlk.cons (Wlk.nil (L := L) (a := u)) h
  rwa [Int.zero_add] at this
theorem Wlk.symm {b d : Int} (h : Wlk L a b d) : Wlk L b a d := by
  induction h with
  | nil => exact .nil
  | cons _ he ih => rw [Int.add_comm]; exact (Wlk.one he.symm).trans ih

/-- What a list of distances says of one stop. -/
def DistAt (L : List Lnk) (a v d : Int) : Prop := d = -1 ∧ (∀ e, ¬ Wlk L a v e) ∨ 0 ≤ d ∧ Wlk L a v d ∧ ∀ e, Wlk L a v e → d ≤ e
theorem DistAt.uniq {v d e : Int} (h1 : DistAt L a v d) (h2 : DistAt L a v e) : d = e := by
  rcases h1 with ⟨h1, h1'⟩ | ⟨-, h1, h1'⟩
  · rcases h2 with ⟨h2, -⟩ | ⟨-, h2, -⟩
    · rw [h1, h2]
    · exact absurd h2 (h1' _)
  · rcases h2 with ⟨-, h2⟩ | ⟨-, h2, h2'⟩
    · exact absurd h1 (h2 _)
    · have := h1' _ h2; have := h2' _ h1; omega
theorem least_of {P : Nat → Prop} : ∀ n, P n → ∃ m, P m ∧ ∀ j, P j → m ≤ j := by
  intro n
  induction n using Nat.strongRecOn with
  | ind n ih =>
    intro hn
    by_cases h : ∃ j, j < n ∧ P j
    · obtain ⟨j, h1, h2⟩ := h
      exact ih j h1 h2
    · exact ⟨n, hn, fun j hj => by
        rcases Nat.lt_or_ge j n with h1 | h1
        · exact absurd ⟨j, h1, hj⟩ h
        · exact h1⟩
theorem DistAt.exist (h : LinksOk L k) (v : Int) : ∃ d, DistAt L a v d := by
  by_cases hx : ∃ e, Wlk L a v e
  · obtain ⟨e, he⟩ := hx
    have h0 := he.nonneg h
    obtain ⟨m, h1, h2⟩ := least_of (P := fun n : Nat => Wlk L a v n) e.toNat (by rw [Int.toNat_of_nonneg h0]; exact he)
    refine ⟨m, .inr ⟨by omega, h1, fun e' he' => ?_⟩⟩
    have h3 := he'.nonneg h
    have := h2 e'.toNat (by rw [Int.toNat_of_nonneg h3]; exact he')
    omega
  · exact ⟨-1, .inl ⟨rfl, fun e he => hx ⟨e, he⟩⟩⟩
theorem DistAt.all (h : LinksOk L k) : ∃ f : Int → Int, ∀ v, DistAt L a v (f v) := ⟨fun v => (DistAt.exist (a := a) h v).choose, fun v => (DistAt.exist h v).choose_spec⟩
end
/-- f tells the distances from a. -/
def IsFar (L : List Lnk) (a : Int) (f : Int → Int) : Prop := ∀ v, DistAt L a v (f v)
section
variable {L : List Lnk} {k : Nat} {a : Int} {f : Int → Int}
theorem IsFar.eq (h : IsFar L a f) {v d : Int} (hd : DistAt L a v d) : f v = d := (h v).uniq hd
theorem IsFar.cases (h : IsFar L a f) (v : Int) : f v = -1 ∨ 0 ≤ f v := by
  rcases h v with h1 | h1
  · exact .inl h1.1
  · exact .inr h1.1
theorem IsFar.walk (h : IsFar L a f) {v : Int} (h0 : 0 ≤ f v) : Wlk L a v (f v) := by
  rcases h v with h1 | h1
  · omega
  · exact h1.2.1
theorem IsFar.le (h : IsFar L a f) {v d : Int} (hw : Wlk L a v d) : 0 ≤ f v ∧ f v ≤ d := by
  rcases h v with h1 | h1
  · exact absurd hw (h1.2 _)
  · exact ⟨h1.1, h1.2.2 _ hw⟩
theorem IsFar.self (h : IsFar L a f) : f a = 0 := by
  have h1 := h.le (Wlk.nil (L := L) (a := a))
  omega
theorem IsFar.symm (h : IsFar L a f) {v : Int} {g : Int → Int} (hg : IsFar L v g) : g a = f v := by
  rcases h v with ⟨h1, h2⟩ | ⟨h1, h2, h3⟩
  · rw [h1]; exact hg.eq (.inl ⟨rfl, fun e he => h2 e he.symm⟩)
  · exact hg.eq (.inr ⟨h1, h2.symm, fun e he => h3 e he.symm⟩)
theorem IsFar.edge (h : IsFar L a f) {u v w : Int} (he : Edge L u v w) (h0 : 0 ≤ f u) : 0 ≤ f v ∧ f v ≤ f u + w := h.le (.cons (h.walk h0) he)
theorem IsFar.tri (h : IsFar L a f) {b c : Int} {g : Int → Int} (hg : IsFar L b g) (h1 : 0 ≤ f b) (h2 : 0 ≤ g c) : 0 ≤ f c ∧ f c ≤ f b + g c := h.le ((h.walk h1).trans (hg.walk h2))
/-- A stop that is reached and is not the first one has one ahead of it on a best way. -/
theorem IsFar.pred (h : IsFar L a f) {v : Int} (h0 : 0 ≤ f v) (hv : v ≠ a) : ∃ u w, Edge L u v w ∧ 0 ≤ f u ∧ f v = f u + w := by
  have hw := h.walk h0
  have hle : ∀ e, Wlk L a v e → f v ≤ e := fun e he => (h.le he).2
  generalize f v = d at hw hle
  cases hw with
  | nil => exact absurd rfl hv
  | cons h1 he =>
    rename_i u d' w
    obtain ⟨h2, h3⟩ := h.le h1
    refine ⟨u, w, he, h2, ?_⟩
    have := hle _ (.cons (h.walk h2) he)
    omega
theorem IsFar.pos (h : IsFar L a f) (hL : LinksOk L k) {v : Int} (hv : v ≠ a) : f v ≠ 0 := by
  intro h0
  obtain ⟨u, w, he, h1, h2⟩ := h.pred (v := v) (by omega) hv
  have := hL.edge he
  omega
theorem IsFar.out (h : IsFar L a f) (hL : LinksOk L k) (ha : 0 ≤ a ∧ a < k) {v : Int} (hv : ¬ (0 ≤ v ∧ v < k)) : f v = -1 := by
  rcases h.cases v with h1 | h1
  · exact h1
  · exact absurd ((h.walk h1).end_in hL ha) hv

/-- What is right at each link, and begins right, is right. -/
theorem IsFar.cert (h : IsFar L a f) (hL : LinksOk L k) {out : List Int} (hl : out.length = k) (ha : ∀ v : Nat, (v : Int) = a → out[v]? = some 0)
    (hin : 0 ≤ a ∧ a < k)
    (hone : ∀ (v : Nat) d, out[v]? = some d → d = -1 ∨ 0 ≤ d ∧ Wlk L a v d)
    (hed : ∀ (u v : Nat) (d w : Int), out[u]? = some d → 0 ≤ d → Edge L u v w → ∃ e, out[v]? = some e ∧ 0 ≤ e ∧ e ≤ d + w) : out = (List.range k).map fun v : Nat => f v := by
  have key : ∀ v d, Wlk L a v d → ∃ e, out[v.toNat]? = some e ∧ 0 ≤ e ∧ e ≤ d := by
    intro v d hw
    induction hw with
    | nil => exact ⟨0, ha _ (by omega), by omega, by omega⟩
    | cons h1 he ih =>
      rename_i b c d w
      obtain ⟨e, g1, g2, g3⟩ := ih
      have hr := hL.edge he
      obtain ⟨f, k1, k2, k3⟩ := hed b.toNat c.toNat e w g1 g2 (by rw [Int.toNat_of_nonneg hr.1, Int.toNat_of_nonneg hr.2.2.1]; exact he)
      exact ⟨f, k1, k2, by omega⟩
  apply List.ext_getElem?
  intro v
  by_cases hv : v < k
  · rw [List.getElem?_map, List.getElem?_range hv, List.getElem?_eq_getElem (by omega)]
    show some _ = some (f v)
    congr 1
    symm
    apply h.eq
    rcases hone v out[v] (List.getElem?_eq_getElem (by omega)) with h1 | ⟨h1, h2⟩
    · refine .inl ⟨h1, fun e he => ?_⟩
      obtain ⟨e', g1, g2, -⟩ := key _ _ he
      rw [Int.toNat_natCast, List.getElem?_eq_getElem (by omega)] at g1
      have g1 := Option.some.inj g1
      omega
    · refine .inr ⟨h1, h2, fun e he => ?_⟩
      obtain ⟨e', g1, g2, g3⟩ := key _ _ he
      rw [Int.toNat_natCast, List.getElem?_eq_getElem (by omega)] at g1
      have g1 := Option.some.inj g1
      omega
  · rw [List.getElem?_eq_none (by omega), List.getElem?_eq_none (by simp; omega)]
end

/-! ### Links are gone through till nothing turns -/
def rlx (out : List Int) (u v : Nat) (w : Int) : List Int := if 0 ≤ out.getD u 0 ∧ (out.getD v 0 < 0 ∨ out.getD u 0 + w < out.getD v 0) then out.set v (out.getD u 0 + w) else out
def rlxL (out : List Int) (l : Lnk) : List Int := rlx (rlx out l.a.toNat l.b.toNat l.w) l.b.toNat l.a.toNat l.w
def turnN (L : List Lnk) (out : List Int) : Nat → List Int
  | 0 => out
  | n + 1 => L.foldl rlxL (turnN L out n)
def bf (L : List Lnk) (k : Nat) (a : Int) : List Int := turnN L ((List.replicate k (-1 : Int)).set a.toNat 0) k
/-- The distance of two stops; -1: there is no way. -/
def far (L : List Lnk) (k : Nat) (a v : Int) : Int := if 0 ≤ v then (bf L k a).getD v.toNat (-1) else -1

theorem countP_lt {p q : Nat → Bool} {x : Nat} : ∀ (l : List Nat), (∀ y ∈ l, p y = true → q y = true) → x ∈ l → q x = true → p x = false → l.countP p < l.countP q
  | [], _, hx, _, _ => by simp at hx
  | y :: l, h, hx, h1, h2 => by
    rw [List.countP_cons, List.countP_cons]
    have hle : l.countP p ≤ l.countP q := List.countP_mono_left (fun z hz => h z (by simp [hz]))
    rcases List.mem_cons.1 hx with e | e
    · subst e
      simp only [h1, h2]
      simp; omega
    · have := countP_lt l (fun z hz => h z (by simp [hz])) e h1 h2
      have h3 := h y (by simp)
      cases hp : p y
      · cases hq : q y <;> simp <;> omega
      · rw [h3 hp]; simp; omega

section
variable {L : List Lnk} {k : Nat} {a : Int} {f : Int → Int}
/-- What is told so far: ways that there are, and up to c. -/
structure Sound (L : List Lnk) (k : Nat) (a : Int) (out : List Int) (c : Int) : Prop where
  len : out.length = k
  one : ∀ (v : Nat) d, out[v]? = some d → d = -1 ∨ 0 ≤ d ∧ d ≤ c ∧ Wlk L a v d
theorem rlx_len (out : List Int) (u v : Nat) (w : Int) : (rlx out u v w).length = out.length := by unfold rlx; split <;> simp
theorem rlx_at (out : List Int) (u v : Nat) (w : Int) (q : Nat) (hv : v < out.length) : (rlx out u v w)[q]? = if q = v ∧ 0 ≤ out.getD u 0 ∧ (out.getD v 0 < 0 ∨ out.getD u 0 + w < out.getD v 0) then some (out.getD u 0 + w) else out[q]? := by
  unfold rlx
  split
  · next h =>
    rw [List.getElem?_set]
    by_cases e : q = v
    · subst e; rw [if_pos rfl, if_pos hv, if_pos ⟨rfl, h⟩]
    · rw [if_neg (fun h => e h.symm), if_neg (fun h => e h.1)]
  · next h => rw [if_neg (fun hh => h hh.2)]
theorem getD_at {out : List Int} {q : Nat} {d : Int} (h : out[q]? = some d) : out.getD q 0 = d := by rw [List.getD_eq_getElem?_getD, h]; rfl
theorem Sound.rlx {out : List Int} {c w : Int} {u v : Nat} (h : Sound L k a out c) (hu : u < k) (hv : v < k) (he : Edge L u v w) (hw : 0 ≤ w ∧ w ≤ 1048575) : Sound L k a (V.rlx out u v w) (c + 1048575) := by
  refine ⟨by rw [rlx_len]; exact h.len, fun q d hq => ?_⟩
  rw [rlx_at _ _ _ _ _ (by rw [h.len]; exact hv)] at hq
  split at hq
  · next hh =>
    obtain ⟨rfl, h1, h2⟩ := hh
    obtain ⟨x, hx⟩ : ∃ x, out[u]? = some x := ⟨_, List.getElem?_eq_getElem (by rw [h.len]; exact hu)⟩
    have e := getD_at hx
    cases hq
    rw [e] at h1 ⊢
    rcases h.one u _ hx with h3 | ⟨h3, h4, h5⟩
    · omega
    · exact .inr ⟨by omega, by omega, .cons h5 he⟩
  · rcases h.one q d hq with h3 | ⟨h3, h4, h5⟩
    · exact .inl h3
    · exact .inr ⟨h3, by omega, h5⟩
theorem Sound.mono {out : List Int} {c c' : Int} (h : Sound L k a out c) (hc : c ≤ c') : Sound L k a out c' := ⟨h.len, fun v d hd => by
  rcases h.one v d hd with h1 | ⟨h1, h2, h3⟩
  · exact .inl h1
  · exact .inr ⟨h1, by omega, h3⟩⟩
/-- One link, both ways. -/
theorem Sound.link {out : List Int} {c : Int} {l : Lnk} (h : Sound L k a out c) (hL : LinksOk L k) (hl : l ∈ L) : Sound L k a (rlxL out l) (c + 2097150) := by
  have h1 := hL l hl
  have e1 : Edge L l.a.toNat l.b.toNat l.w := ⟨l, hl, .inl ⟨by omega, by omega⟩, rfl⟩
  have h2 := h.rlx (u := l.a.toNat) (v := l.b.toNat) (w := l.w) (by omega) (by omega) e1 (by omega)
  have h3 := h2.rlx (u := l.b.toNat) (v := l.a.toNat) (w := l.w) (by omega) (by omega) e1.symm (by omega)
  exact h3.mono (by omega)
theorem Sound.fold (hL : LinksOk L k) : ∀ (M : List Lnk) (out : List Int) (c : Int), (∀ l ∈ M, l ∈ L) → Sound L k a out c → Sound L k a (M.foldl rlxL out) (c + M.length * 2097150)
  | [], out, c, _, h => by simpa using h
  | l :: M, out, c, hM, h => by
    rw [List.foldl_cons]
    have := Sound.fold hL M (rlxL out l) (c + 2097150) (fun x hx => hM x (by simp [hx])) (h.link hL (hM l (by simp)))
    refine this.mono ?_
    rw [List.length_cons]; push_cast; omega
theorem Sound.turns (hL : LinksOk L k) {out : List Int} (h : Sound L k a out 0) : ∀ n, Sound L k a (turnN L out n) (n * (L.length * 2097150))
  | 0 => by simpa [turnN] using h
  | n + 1 => by
    have := Sound.fold hL L _ _ (fun _ h => h) (Sound.turns hL h n)
    refine this.mono ?_
    rw [show ((n + 1 : Nat) : Int) = (n : Int) + 1 by push_cast; rfl, Int.add_mul]; omega
/-- What is the distance stays so. -/
theorem rlx_keep {out : List Int} {c w : Int} {u v q : Nat} (h : Sound L k a out c) (hf : IsFar L a f) (hu : u < k) (hv : v < k) (he : Edge L u v w) (hq : out[q]? = some (f q)) : (rlx out u v w)[q]? = some (f q) := by
  rw [rlx_at _ _ _ _ _ (by rw [h.len]; exact hv)]
  split
  · next hh =>
    obtain ⟨rfl, h1, h2⟩ := hh
    obtain ⟨x, hx⟩ : ∃ x, out[u]? = some x := ⟨_, List.getElem?_eq_getElem (by rw [h.len]; exact hu)⟩
    rw [getD_at hx] at h1 h2 ⊢
    rw [getD_at hq] at h2
    rcases h.one u _ hx with h3 | ⟨h3, h4, h5⟩
    · omega
    · have := hf.le (.cons h5 he)
      omega
  · exact hq
theorem rlx_down {out : List Int} {w : Int} {u v q : Nat} {d b : Int} (hw : 0 ≤ w) (hv : v < out.length) (hq : out[q]? = some d) (h0 : 0 ≤ d) (hb : d ≤ b) : ∃ e, (rlx out u v w)[q]? = some e ∧ 0 ≤ e ∧ e ≤ b := by
  rw [rlx_at _ _ _ _ _ hv]
  split
  · next hh =>
    obtain ⟨rfl, h1, h2⟩ := hh
    rw [getD_at hq] at h2
    exact ⟨_, rfl, by omega, by omega⟩
  · exact ⟨d, hq, h0, hb⟩
theorem rlx_hit {out : List Int} {w : Int} {u v : Nat} {d : Int} (hw : 0 ≤ w) (hv : v < out.length) (hu : out[u]? = some d) (h0 : 0 ≤ d) : ∃ e, (rlx out u v w)[v]? = some e ∧ 0 ≤ e ∧ e ≤ d + w := by
  rw [rlx_at _ _ _ _ _ hv, getD_at hu]
  have hx : out[v]? = some out[v] := List.getElem?_eq_getElem hv
  rw [getD_at hx]
  split
  · exact ⟨_, rfl, by omega, by omega⟩
  · next hh => exact ⟨_, hx, by omega, by omega⟩
theorem link_down {M : List Lnk} {out : List Int} {l : Lnk} {q : Nat} {d b : Int} (hL : LinksOk M k) (hl : l ∈ M) (hlen : out.length = k) (hq : out[q]? = some d) (h0 : 0 ≤ d) (hb : d ≤ b) : ∃ e, (rlxL out l)[q]? = some e ∧ 0 ≤ e ∧ e ≤ b := by
  have h1 := hL l hl
  obtain ⟨e, g1, g2, g3⟩ := rlx_down (u := l.a.toNat) (v := l.b.toNat) (w := l.w) (by omega) (by omega) hq h0 hb
  exact rlx_down (by omega) (by rw [rlx_len]; omega) g1 g2 g3
theorem fold_down {M : List Lnk} (hL : LinksOk M k) : ∀ (N : List Lnk) (out : List Int) (q : Nat) (d b : Int), (∀ l ∈ N, l ∈ M) → out.length = k → out[q]? = some d → 0 ≤ d → d ≤ b → ∃ e, (N.foldl rlxL out)[q]? = some e ∧ 0 ≤ e ∧ e ≤ b
  | [], out, q, d, b, _, _, hq, h0, hb => ⟨d, hq, h0, hb⟩
  | l :: N, out, q, d, b, hN, hlen, hq, h0, hb => by
    obtain ⟨e, g1, g2, g3⟩ := link_down hL (hN l (by simp)) hlen hq h0 hb
    exact fold_down hL N (rlxL out l) q e b (fun x hx => hN x (by simp [hx])) (by unfold rlxL; rw [rlx_len, rlx_len]; exact hlen) g1 g2 g3
theorem link_keep {out : List Int} {c : Int} {l : Lnk} {q : Nat} (h : Sound L k a out c) (hL : LinksOk L k) (hf : IsFar L a f) (hl : l ∈ L) (hq : out[q]? = some (f q)) : (rlxL out l)[q]? = some (f q) := by
  have h1 := hL l hl
  have e1 : Edge L l.a.toNat l.b.toNat l.w := ⟨l, hl, .inl ⟨by omega, by omega⟩, rfl⟩
  have h2 := h.rlx (u := l.a.toNat) (v := l.b.toNat) (w := l.w) (by omega) (by omega) e1 (by omega)
  exact rlx_keep h2 hf (by omega) (by omega) e1.symm (rlx_keep h hf (by omega) (by omega) e1 hq)
theorem fold_keep_far (hL : LinksOk L k) (hf : IsFar L a f) : ∀ (M : List Lnk) (out : List Int) (c : Int) (q : Nat), (∀ l ∈ M, l ∈ L) → Sound L k a out c → out[q]? = some (f q) → (M.foldl rlxL out)[q]? = some (f q)
  | [], _, _, _, _, _, hq => hq
  | l :: M, out, c, q, hM, h, hq => fold_keep_far hL hf M (rlxL out l) _ q (fun x hx => hM x (by simp [hx])) (h.link hL (hM l (by simp))) (link_keep h hL hf (hM l (by simp)) hq)
theorem fold_hit_far (hL : LinksOk L k) (hf : IsFar L a f) {u v : Nat} {w : Int} : ∀ (M : List Lnk) (out : List Int) (c : Int), (∀ l ∈ M, l ∈ L) → (∃ l ∈ M, (l.a = u ∧ l.b = v ∨ l.a = v ∧ l.b = u) ∧ l.w = w) → Sound L k a out c → out[u]? = some (f u) → 0 ≤ f u → ∃ e, (M.foldl rlxL out)[v]? = some e ∧ 0 ≤ e ∧ e ≤ f u + w
  | [], _, _, _, hx, _, _, _ => by obtain ⟨l, hl, -⟩ := hx; simp at hl
  | l :: M, out, c, hM, hx, h, hu, h0 => by
    have hl := hM l (by simp)
    have h1 := hL l hl
    have hM' : ∀ x ∈ M, x ∈ L := fun x hx => hM x (by simp [hx])
    by_cases hm : (l.a = u ∧ l.b = v ∨ l.a = v ∧ l.b = u) ∧ l.w = w
    · obtain ⟨hm, hw⟩ := hm
      have hs := h.link hL hl
      have e1 : Edge L l.a.toNat l.b.toNat l.w := ⟨l, hl, .inl ⟨by omega, by omega⟩, rfl⟩
      have h2 := h.rlx (u := l.a.toNat) (v := l.b.toNat) (w := l.w) (by omega) (by omega) e1 (by omega)
      have : ∃ e, (rlxL out l)[v]? = some e ∧ 0 ≤ e ∧ e ≤ f u + w := by
        rcases hm with ⟨m1, m2⟩ | ⟨m1, m2⟩
        · have a1 : l.a.toNat = u := by omega
          have a2 : l.b.toNat = v := by omega
          obtain ⟨e, g1, g2, g3⟩ := rlx_hit (w := l.w) (v := v) (by omega) (by rw [h.len]; omega) hu h0
          unfold rlxL
          rw [a1, a2]
          exact rlx_down (by omega) (by rw [rlx_len, h.len]; omega) g1 g2 (by omega)
        · have a1 : l.a.toNat = v := by omega
          have a2 : l.b.toNat = u := by omega
          rw [a1, a2] at h2 e1
          have hu' := rlx_keep h hf (by omega) (by omega) e1 hu
          unfold rlxL
          rw [a1, a2]
          obtain ⟨e, g1, g2, g3⟩ := rlx_hit (w := l.w) (v := v) (by omega) (by rw [h2.len]; omega) hu' h0
          exact ⟨e, g1, g2, by omega⟩
      obtain ⟨e, g1, g2, g3⟩ := this
      rw [List.foldl_cons]
      exact fold_down hL M _ v e _ hM' hs.len g1 g2 g3
    · rw [List.foldl_cons]
      refine fold_hit_far hL hf M _ _ hM' ?_ (h.link hL hl) (link_keep h hL hf hl hu) h0
      obtain ⟨l', g1, g2⟩ := hx
      rcases List.mem_cons.1 g1 with e | e
      · subst e; exact absurd g2 hm
      · exact ⟨l', e, g2⟩
/-- How many stops are nearer. -/
def rank (f : Int → Int) (k : Nat) (v : Int) : Nat := (List.range k).countP fun u : Nat => decide (0 ≤ f u ∧ f u < f v)
theorem turns_good (hL : LinksOk L k) (hf : IsFar L a f) (ha : 0 ≤ a ∧ a < k) {out : List Int} (hs : Sound L k a out 0) (h0 : out[a.toNat]? = some 0) : ∀ n (v : Nat), v < k → 0 ≤ f v → rank f k v ≤ n → (turnN L out n)[v]? = some (f v) := by
  have hst : ∀ n q : Nat, (turnN L out n)[q]? = some (f q) → (turnN L out (n + 1))[q]? = some (f q) := fun n q hq => fold_keep_far hL hf L _ _ q (fun _ h => h) (hs.turns hL n) hq
  have hbase : ∀ n (v : Nat), (v : Int) = a → (turnN L out n)[v]? = some (f v) := by
    intro n v hv
    induction n with
    | zero =>
      have : a.toNat = v := by omega
      rw [this] at h0
      show out[v]? = _
      rw [h0, hv, hf.self]
    | succ n ih => exact hst n v ih
  intro n
  induction n with
  | zero =>
    intro v hv h1 h2
    by_cases e : (v : Int) = a
    · exact hbase 0 v e
    · exfalso
      obtain ⟨u, w, he, g1, g2⟩ := hf.pred h1 e
      have hr := hL.edge he
      have : 0 < rank f k v := by
        unfold rank
        rw [List.countP_pos_iff]
        exact ⟨u.toNat, by simp; omega, by rw [Int.toNat_of_nonneg hr.1]; simp; omega⟩
      omega
  | succ n ih =>
    intro v hv h1 h2
    by_cases e : (v : Int) = a
    · exact hbase _ v e
    · obtain ⟨u, w, he, g1, g2⟩ := hf.pred h1 e
      have hr := hL.edge he
      have hu : ((u.toNat : Nat) : Int) = u := Int.toNat_of_nonneg hr.1
      have hlt : rank f k u < rank f k v := by
        refine countP_lt (x := u.toNat) _ (fun y _ hy => ?_) (by simp; omega) (by rw [hu]; simp; omega) (by rw [hu]; simp)
        simp only [decide_eq_true_eq] at hy ⊢
        omega
      have hgu := ih u.toNat (by omega) (by rw [hu]; exact g1) (by rw [hu]; omega)
      have hS := hs.turns hL n
      rw [← hu] at he
      obtain ⟨l, hl1, hl2⟩ := he
      obtain ⟨x, k1, k2, k3⟩ := fold_hit_far hL hf (u := u.toNat) (v := v) L _ _ (fun _ h => h) ⟨l, hl1, hl2⟩ hS hgu (by rw [hu]; exact g1)
      have hS' := hs.turns hL (n + 1)
      rcases hS'.one v x k1 with q1 | ⟨q1, -, q2⟩
      · omega
      · have := hf.le q2
        rw [hu] at k3
        show (L.foldl rlxL (turnN L out n))[v]? = _
        rw [k1]; congr 1; omega
theorem bf_sound (ha : 0 ≤ a ∧ a < k) : Sound L k a ((List.replicate k (-1 : Int)).set a.toNat 0) 0 := by
  refine ⟨by simp, fun v d hd => ?_⟩
  rw [List.getElem?_set] at hd
  split at hd
  · next e =>
    subst e
    split at hd
    · cases hd; exact .inr ⟨by omega, by omega, by rw [Int.toNat_of_nonneg ha.1]; exact .nil⟩
    · cases hd
  · rw [List.getElem?_replicate] at hd
    split at hd
    · cases hd; exact .inl rfl
    · cases hd
theorem bf_is (hL : LinksOk L k) (hf : IsFar L a f) (ha : 0 ≤ a ∧ a < k) : bf L k a = (List.range k).map fun v : Nat => f v := by
  have hs := bf_sound (L := L) ha
  have hS := hs.turns hL k
  have h0 : ((List.replicate k (-1 : Int)).set a.toNat 0)[a.toNat]? = some 0 := by rw [List.getElem?_set_self (by simp; omega)]
  apply List.ext_getElem?
  intro v
  by_cases hv : v < k
  · rw [List.getElem?_map, List.getElem?_range hv]
    show _ = some (f v)
    rcases hf.cases v with h1 | h1
    · obtain ⟨x, hx⟩ : ∃ x, (bf L k a)[v]? = some x := ⟨_, List.getElem?_eq_getElem (by show v < (turnN _ _ _).length; rw [hS.len]; exact hv)⟩
      rcases hS.one v _ hx with h2 | ⟨h2, -, h3⟩
      · rw [hx, h2, h1]
      · have := hf.le h3; omega
    · refine turns_good hL hf ha hs h0 k v hv h1 ?_
      have := List.countP_le_length (p := fun u : Nat => decide (0 ≤ f u ∧ f u < f v)) (l := List.range k)
      rw [List.length_range] at this
      exact this
  · rw [List.getElem?_eq_none (by show (turnN _ _ _).length ≤ v; rw [hS.len]; omega), List.getElem?_eq_none (by simp; omega)]
theorem far_is (hL : LinksOk L k) (ha : 0 ≤ a ∧ a < k) : IsFar L a (far L k a) := by
  obtain ⟨f, hf⟩ := DistAt.all (a := a) hL
  intro v
  have : far L k a v = f v := by
    unfold far
    rw [bf_is hL hf ha]
    by_cases h0 : 0 ≤ v
    · rw [if_pos h0, List.getD_eq_getElem?_getD]
      by_cases hv : v.toNat < k
      · rw [List.getElem?_map, List.getElem?_range hv]
        show f _ = _
        rw [Int.toNat_of_nonneg h0]
      · rw [List.getElem?_eq_none (by simp; omega)]
        exact (IsFar.out hf hL ha (by omega)).symm
    · rw [if_neg h0]
      exact (IsFar.out hf hL ha (by omega)).symm
  rw [this]; exact hf v
theorem bf_far (hL : LinksOk L k) (ha : 0 ≤ a ∧ a < k) : bf L k a = (List.range k).map fun v : Nat => far L k a v := bf_is hL (far_is hL ha) ha
theorem bf_len : (bf L k a).length = k := by
  have : ∀ (M : List Lnk) (out : List Int), (M.foldl rlxL out).length = out.length := by
    intro M
    induction M with
    | nil => intro out; rfl
    | cons l M ih => intro out; rw [List.foldl_cons, ih]; unfold rlxL; rw [rlx_len, rlx_len]
  have h2 : ∀ n (out : List Int), (turnN L out n).length = out.length := by
    intro n
    induction n with
    | zero => intro out; rfl
    | succ n ih => intro out; show (L.foldl rlxL _).length = _; rw [this, ih]
  unfold bf
  rw [h2]; simp
theorem bf_at (hL : LinksOk L k) (ha : 0 ≤ a ∧ a < k) {v : Nat} (hv : v < k) : (bf L k a)[v]? = some (far L k a v) := by
  rw [bf_far hL ha, List.getElem?_map, List.getElem?_range hv]; rfl
end
end Go.V

namespace Go.V

theorem set_perm_cons {α : Type} : ∀ (l : List α) (i : Nat) (x y : α), l[i]? = some x → (x :: l.set i y).Perm (y :: l)
  | [], i, x, y, h => by simp at h
  | z :: l, 0, x, y, h => by simp at h; subst h; exact List.Perm.swap _ _ _
  | z :: l, i + 1, x, y, h => by
    have ih := set_perm_cons l i x y (by simpa using h)
    rw [List.set_cons_succ]
    exact (List.Perm.swap z x _).trans ((ih.cons z).trans (List.Perm.swap y z _))
section
variable {α : Type} [Inhabited α] (key : α → Int)
abbrev at' (l : List α) (i : Nat) : α := l.getD i default
def HeapOk (l : List α) : Prop := ∀ j, 0 < j → j < l.length → key (at' l ((j - 1) / 2)) ≤ key (at' l j)
/-- All in order but what stands at i, which may have to go up. -/
def UpOk (l : List α) (i : Nat) : Prop := (∀ j, 0 < j → j < l.length → j ≠ i → key (at' l ((j - 1) / 2)) ≤ key (at' l j)) ∧ ∀ j, 0 < j → j < l.length → (j - 1) / 2 = i → 0 < i → key (at' l ((i - 1) / 2)) ≤ key (at' l j)
/-- All in order but what stands at i, which may have to go down. -/
def DownOk (l : List α) (i : Nat) : Prop := (∀ j, 0 < j → j < l.length → (j - 1) / 2 ≠ i → key (at' l ((j - 1) / 2)) ≤ key (at' l j)) ∧ ∀ j, 0 < j → j < l.length → (j - 1) / 2 = i → 0 < i → key (at' l ((i - 1) / 2)) ≤ key (at' l j)
def swp (l : List α) (i j : Nat) : List α := (l.set i (at' l j)).set j (at' l i)
variable {key} {l : List α}
theorem swp_len (i j : Nat) : (swp l i j).length = l.length := by simp [swp]
theorem swp_at {i j : Nat} (hi : i < l.length) (hj : j < l.length) (q : Nat) : at' (swp l i j) q = if q = j then at' l i else if q = i then at' l j else at' l q := by
  unfold swp at'
  simp only [List.getD_eq_getElem?_getD, List.getElem?_set, List.length_set]
  by_cases h1 : q = j
  · subst h1
    simp [hj]
  · by_cases h2 : q = i
    · subst h2
      rw [if_neg (fun h => h1 h.symm)]
      simp [hi, h1]
    · rw [if_neg (fun h => h1 h.symm), if_neg (fun h => h2 h.symm), if_neg h1, if_neg h2]
theorem at_some {i : Nat} (hi : i < l.length) : l[i]? = some (at' l i) := by simp [at', List.getD_eq_getElem?_getD, hi]
theorem swp_perm {i j : Nat} (hi : i < l.length) (hj : j < l.length) : (swp l i j).Perm l := by
  by_cases e : i = j
  · subst e
    have : swp l i i = l := by
      apply List.ext_getElem?
      intro q
      unfold swp
      rw [List.set_set, List.getElem?_set]
      split
      · next h => subst h; rw [at_some hi]; try rw [if_pos hi]
      · rfl
    rw [this]
  · have h1 := set_perm_cons l i (at' l i) (at' l j) (at_some hi)
    have h2 := set_perm_cons (l.set i (at' l j)) j (at' l j) (at' l i) (by rw [List.getElem?_set_ne e, at_some hj])
    exact (h2.trans h1).cons_inv
theorem up_start (x : α) (h : HeapOk key l) : UpOk key (l ++ [x]) l.length := by
  have e : ∀ q, q < l.length → at' (l ++ [x]) q = at' l q := by
    intro q hq
    simp [at', List.getD_eq_getElem?_getD, List.getElem?_append_left hq]
  refine ⟨fun j h0 h1 h2 => ?_, fun j h0 h1 h2 h3 => ?_⟩
  · rw [List.length_append, List.length_singleton] at h1
    rw [e _ (by omega), e _ (by omega)]
    exact h j h0 (by omega)
  · rw [List.length_append, List.length_singleton] at h1
    omega
theorem up_done {i : Nat} (h : UpOk key l i) (hd : i = 0 ∨ ¬ key (at' l i) < key (at' l ((i - 1) / 2))) : HeapOk key l := by
  intro j h0 h1
  by_cases e : j = i
  · subst e
    rcases hd with hd | hd <;> omega
  · exact h.1 j h0 h1 e
theorem up_step {i : Nat} (h : UpOk key l i) (h0 : 0 < i) (hi : i < l.length) (hd : key (at' l i) < key (at' l ((i - 1) / 2))) : UpOk key (swp l i ((i - 1) / 2)) ((i - 1) / 2) := by
  obtain ⟨h1, h2⟩ := h
  have hp : (i - 1) / 2 < l.length := by omega
  have hpi : (i - 1) / 2 ≠ i := by omega
  refine ⟨fun j g0 g1 g2 => ?_, fun j g0 g1 g2 g3 => ?_⟩
  · rw [swp_len] at g1
    rw [swp_at hi hp, swp_at hi hp]
    rw [if_neg g2]
    by_cases e1 : j = i
    · subst e1
      rw [if_pos rfl, if_pos rfl]; omega
    · rw [if_neg e1]
      by_cases e2 : (j - 1) / 2 = (i - 1) / 2
      · rw [if_pos e2]
        have := h1 j g0 g1 e1
        rw [e2] at this; omega
      · rw [if_neg e2]
        by_cases e3 : (j - 1) / 2 = i
        · rw [if_pos e3]
          exact h2 j g0 g1 e3 h0
        · rw [if_neg e3]
          exact h1 j g0 g1 e1
  · rw [swp_len] at g1
    rw [swp_at hi hp, swp_at hi hp]
    have hq : ((i - 1) / 2 - 1) / 2 ≠ (i - 1) / 2 := by omega
    have hq2 : ((i - 1) / 2 - 1) / 2 ≠ i := by omega
    rw [if_neg hq, if_neg hq2]
    have hup := h1 ((i - 1) / 2) g3 hp hpi
    rw [if_neg (show j ≠ (i - 1) / 2 by omega)]
    by_cases e1 : j = i
    · rw [if_pos e1]; exact hup
    · rw [if_neg e1]
      have := h1 j g0 g1 e1
      rw [g2] at this; omega
theorem heap_min (h : HeapOk key l) : ∀ j, j < l.length → key (at' l 0) ≤ key (at' l j) := by
  intro j
  induction j using Nat.strongRecOn with
  | ind j ih =>
    intro hj
    by_cases h0 : j = 0
    · subst h0; omega
    · have := ih ((j - 1) / 2) (by omega) (by omega)
      have := h j (by omega) hj
      omega
theorem heap_min_mem (h : HeapOk key l) {x : α} (hx : x ∈ l) : key (at' l 0) ≤ key x := by
  obtain ⟨j, hj⟩ := List.mem_iff_getElem?.1 hx
  have hl := (List.getElem?_eq_some_iff.1 hj).1
  have := heap_min h j hl
  rw [at_some hl] at hj
  cases hj; exact this
/-- The last one put first, and the last place left. -/
def popped (l : List α) : List α := (l.set 0 (at' l (l.length - 1))).take (l.length - 1)
theorem popped_len : (popped l).length = l.length - 1 := by simp [popped]
theorem popped_perm (hl : l ≠ []) : (at' l 0 :: popped l).Perm l := by
  cases l with
  | nil => exact absurd rfl hl
  | cons x t =>
    unfold popped
    rcases List.eq_nil_or_concat t with rfl | ⟨m, y, rfl⟩
    · simp [at']
    · have e1 : at' (x :: m.concat y) ((x :: m.concat y).length - 1) = y := by simp [at', List.getD_eq_getElem?_getD]
      rw [e1]
      simp only [List.set_cons_zero, List.concat_eq_append, List.length_cons, List.length_append, List.length_nil]
      have e2 : (y :: (m ++ [y])).take (m.length + (0 + 1) + 1 - 1) = y :: m := by simp
      rw [e2]
      show (x :: y :: m).Perm (x :: (m ++ [y]))
      exact (List.perm_append_singleton y m).symm.cons x
theorem popped_at {q : Nat} (hq : q < l.length - 1) (h0 : q ≠ 0) : at' (popped l) q = at' l q := by
  unfold popped at'
  rw [List.getD_eq_getElem?_getD, List.getElem?_take_of_lt hq, List.getElem?_set_ne (by omega), List.getD_eq_getElem?_getD]
theorem down_start (h : HeapOk key l) : DownOk key (popped l) 0 := by
  refine ⟨fun j h0 h1 h2 => ?_, fun j _ _ _ h3 => by omega⟩
  rw [popped_len] at h1
  rw [popped_at (by omega) h2, popped_at h1 (by omega)]
  exact h j h0 (by omega)
theorem down_leaf {i : Nat} (h : DownOk key l i) (hd : l.length ≤ 2 * i + 1) : HeapOk key l := by
  intro j h0 h1
  exact h.1 j h0 h1 (by omega)
/-- The lesser one of two children. -/
def least2 (key : α → Int) (l : List α) (i : Nat) : Nat := if 2 * i + 2 < l.length ∧ key (at' l (2 * i + 2)) < key (at' l (2 * i + 1)) then 2 * i + 2 else 2 * i + 1
theorem down_done {i : Nat} (h : DownOk key l i) (hd : ¬ key (at' l (least2 key l i)) < key (at' l i)) : HeapOk key l := by
  intro j h0 h1
  by_cases e : (j - 1) / 2 = i
  · rw [e]
    have hj : j = 2 * i + 1 ∨ j = 2 * i + 2 := by omega
    unfold least2 at hd
    split at hd
    · next hh => rcases hj with rfl | rfl <;> omega
    · next hh =>
      rcases hj with rfl | rfl
      · omega
      · have : ¬ key (at' l (2 * i + 2)) < key (at' l (2 * i + 1)) := fun hk => hh ⟨h1, hk⟩
        omega
  · exact h.1 j h0 h1 e
theorem down_step {i : Nat} (h : DownOk key l i) (hi : 2 * i + 1 < l.length) (hd : key (at' l (least2 key l i)) < key (at' l i)) : DownOk key (swp l i (least2 key l i)) (least2 key l i) ∧ least2 key l i < l.length ∧ i < least2 key l i := by
  have hk : least2 key l i < l.length ∧ (least2 key l i = 2 * i + 1 ∨ least2 key l i = 2 * i + 2) ∧ (∀ j, j < l.length → j = 2 * i + 1 ∨ j = 2 * i + 2 → key (at' l (least2 key l i)) ≤ key (at' l j)) := by
    unfold least2
    split
    · next hh => exact ⟨hh.1, .inr rfl, fun j _ hj => by rcases hj with rfl | rfl <;> omega⟩
    · next hh =>
      refine ⟨hi, .inl rfl, fun j hj1 hj => ?_⟩
      rcases hj with rfl | rfl
      · omega
      · have : ¬ key (at' l (2 * i + 2)) < key (at' l (2 * i + 1)) := fun hk => hh ⟨hj1, hk⟩
        omega
  generalize least2 key l i = c at hk hd
  obtain ⟨k1, k2, k3⟩ := hk
  obtain ⟨h1, h2⟩ := h
  have hil : i < l.length := by omega
  refine ⟨⟨fun j g0 g1 g2 => ?_, fun j g0 g1 g2 g3 => ?_⟩, k1, by omega⟩
  · rw [swp_len] at g1
    rw [swp_at hil k1, swp_at hil k1]
    rw [if_neg g2]
    by_cases e1 : j = c
    · rw [if_pos e1, if_pos (by omega)]; omega
    · rw [if_neg e1]
      by_cases e2 : j = i
      · rw [if_pos e2]
        subst e2
        rw [if_neg (by omega)]
        rcases k2 with k2 | k2
        · have := h2 c (by omega) k1 (by omega) g0
          exact this
        · have := h2 c (by omega) k1 (by omega) g0
          exact this
      · rw [if_neg e2]
        by_cases e3 : (j - 1) / 2 = i
        · rw [if_pos e3]
          exact k3 j g1 (by omega)
        · rw [if_neg e3]
          exact h1 j g0 g1 e3
  · rw [swp_len] at g1
    rw [swp_at hil k1, swp_at hil k1]
    have e1 : (c - 1) / 2 = i := by omega
    rw [if_neg (show j ≠ c by omega), if_neg (show j ≠ i by omega), e1, if_neg (show i ≠ c by omega), if_pos rfl]
    have := h1 j g0 g1 (by omega)
    rw [g2] at this; exact this
end
end Go.V
