/- Networks: the plain law of the best way: one step back, and so on. -/
import Derived.Test.YtgfakkkiejeofaaNsC
namespace Go.Proofs.Ytgfakkkiejeofaa.Ne
open Go.RowKit Go.V Go.Proofs Go.Sort

theorem mem_nearL {L : List Lnk} {s : Int} {l : Lnk} (h : l ∈ nearL L s) : l.a = s ∧ V.Edge L s l.b l.w := by
  have h1 : l ∈ fromL L s := (isort_perm (fromL L s)).mem_iff.1 h
  unfold fromL at h1
  rw [List.mem_filter, List.mem_map] at h1
  obtain ⟨⟨x, hx, rfl⟩, h2⟩ := h1
  have h2 := of_decide_eq_true h2
  refine ⟨h2, x, hx, ?_⟩
  unfold turnL at h2 ⊢
  split at h2
  · next e => rw [if_pos e]; exact ⟨.inr ⟨rfl, e⟩, rfl⟩
  · next e => rw [if_neg e]; exact ⟨.inl ⟨h2, rfl⟩, rfl⟩
theorem nearL_mem {L : List Lnk} {s b x : Int} (h : V.Edge L s b x) (hne : s ≠ b) : (⟨s, b, x⟩ : Lnk) ∈ nearL L s := by
  refine (isort_perm (fromL L s)).mem_iff.2 ?_
  unfold fromL
  rw [List.mem_filter, List.mem_map]
  obtain ⟨l, hl, h1, h2⟩ := h
  refine ⟨⟨l, hl, ?_⟩, by simp⟩
  unfold turnL
  rcases h1 with ⟨e1, e2⟩ | ⟨e1, e2⟩
  · rw [if_neg (by rw [e2]; exact fun q => hne q.symm)]
    cases l; simp_all
  · rw [if_pos e2]
    cases l; simp_all

/-- A link back. -/
def backB (f : Int → Int) (at_ : Int) (l : Lnk) : Bool := decide (0 ≤ f l.b ∧ f l.b + l.w = f at_)
/-- The stop ahead of one. -/
def prevE (L : List Lnk) (f : Int → Int) (at_ : Int) : Int := match (nearL L at_).find? (backB f at_) with | some l => l.b | none => at_
/-- The stops from one back to the first. -/
def backE (nx : Int → Int) (a : Int) : Nat → Int → List Int
  | 0, _ => []
  | c + 1, v => if v = a then [] else nx v :: backE nx a c (nx v)
def wayL (L : List Lnk) (k : Nat) (a b : Int) : List Int := (b :: backE (prevE L (far L k a)) a (far L k a b).toNat b).reverse

theorem find_back {M : List Lnk} {p : Lnk → Bool} {j : Nat} {l : Lnk} (h : ∀ i x, i < j → M[i]? = some x → p x = false) (hl : M[j]? = some l) (hp : p l = true) : M.find? p = some l := by
  induction M generalizing j with
  | nil => simp at hl
  | cons y M ih =>
    cases j with
    | zero => simp at hl; subst hl; simp [hp]
    | succ j =>
      have h0 := h 0 y (Nat.succ_pos _) rfl
      rw [List.find?_cons, h0]
      exact ih (fun i x hi hx => h (i + 1) x (Nat.succ_lt_succ hi) (by simpa using hx)) (by simpa using hl)
section
variable {L : List Lnk} {k : Nat} {a : Int}
theorem back_ex (hL : LinksOk L k) (ha : 0 ≤ a ∧ a < k) {v : Int} (h0 : 0 ≤ far L k a v) (hv : v ≠ a) : ∃ l ∈ nearL L v, backB (far L k a) v l = true := by
  obtain ⟨u, w, he, h1, h2⟩ := (far_is hL ha).pred h0 hv
  have hed := hL.edge he
  refine ⟨⟨v, u, w⟩, nearL_mem he.symm (by omega), decide_eq_true ⟨h1, h2.symm⟩⟩
theorem back_in (hL : LinksOk L k) {v : Int} {l : Lnk} (hl : l ∈ nearL L v) (hb : backB (far L k a) v l = true) : 0 ≤ l.b ∧ l.b < k ∧ 0 ≤ far L k a l.b ∧ far L k a l.b < far L k a v := by
  obtain ⟨h1, h2⟩ := mem_nearL hl
  have hed := hL.edge h2
  have := of_decide_eq_true hb
  omega
theorem backE_self (nx : Int → Int) (a : Int) (c : Nat) : backE nx a c a = [] := by
  cases c with
  | zero => rfl
  | succ c => show (if a = a then _ else _) = _; rw [if_pos rfl]
theorem backE_go {nx : Int → Int} {a v : Int} {c : Nat} (hv : v ≠ a) : backE nx a (c + 1) v = nx v :: backE nx a c (nx v) := by
  show (if v = a then [] else nx v :: backE nx a c (nx v)) = _
  rw [if_neg hv]
end
end Go.Proofs.Ytgfakkkiejeofaa.Ne
