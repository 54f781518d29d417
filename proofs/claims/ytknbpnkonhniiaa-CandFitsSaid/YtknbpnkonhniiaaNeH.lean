/- A heap: what is kept in order, in plain Lean. -/
import Derived.WalkKit
namespace Go.V

theorem set_perm_cons {α : Type} : ∀ (l : List α) (i : Nat) (x y : α), l[i]? = some x → (x :: l.set i y).Perm (y :: l)
  | [], i, x, y, h => by simp at h
  | z :: l, 0, x, y, h => by simp at h; subst h; exact List.Perm.swap _ _ _
  | z :: l, i + 1, x, y, h => by
    have ih := set_perm_cons l i x y (by simpa using h)
    rw [List.set_cons_succ]
    exact (List.Perm.swap z x _).trans ((ih.cons z).trans (List.Perm.swap y z _))
section
variable {α : Type} [Inhabited α] (key : α → Int)
abbrev at' (l : List α) (i : Nat) : α := l.getD i default
def HeapOk (l : List α) : Prop := ∀ j, 0 < j → j < l.length → key (at' l ((j - 1) / 2)) ≤ key (at' l j)
/-- All in order but what stands at i, which may have to go up. -/
def UpOk (l : List α) (i : Nat) : Prop := (∀ j, 0 < j → j < l.length → j ≠ i → key (at' l ((j - 1) / 2)) ≤ key (at' l j)) ∧ ∀ j, 0 < j → j < l.length → (j - 1) / 2 = i → 0 < i → key (at' l ((i - 1) / 2)) ≤ key (at' l j)
/-- All in order but what stands at i, which may have to go down. -/
def DownOk (l : List α) (i : Nat) : Prop := (∀ j, 0 < j → j < l.length → (j - 1) / 2 ≠ i → key (at' l ((j - 1) / 2)) ≤ key (at' l j)) ∧ ∀ j, 0 < j → j < l.length → (j - 1) / 2 = i → 0 < i → key (at' l ((i - 1) / 2)) ≤ key (at' l j)
def swp (l : List α) (i j : Nat) : List α := (l.set i (at' l j)).set j (at' l i)
variable {key} {l : List α}
theorem swp_len (i j : Nat) : (swp l i j).length = l.length := by simp [swp]
theorem swp_at {i j : Nat} (hi : i < l.length) (hj : j < l.length) (q : Nat) : at' (swp l i j) q = if q = j then at' l i else if q = i then at' l j else at' l q := by
  unfold swp at'
  simp only [List.getD_eq_getElem?_getD, List.getElem?_set, List.length_set]
  by_cases h1 : q = j
  · subst h1
    simp [hj]
  · by_cases h2 : q = i
    · subst h2
      rw [if_neg (fun h => h1 h.symm)]
      simp [hi, h1]
    · rw [if_neg (fun h => h1 h.symm), if_neg (fun h => h2 h.symm), if_neg h1, if_neg h2]
theorem at_some {i : Nat} (hi : i < l.length) : l[i]? = some (at' l i) := by simp [at', List.getD_eq_getElem?_getD, hi]
theorem swp_perm {i j : Nat} (hi : i < l.length) (hj : j < l.length) : (swp l i j).Perm l := by
  by_cases e : i = j
  · subst e
    have : swp l i i = l := by
      apply List.ext_getElem?
      intro q
      unfold swp
      rw [List.set_set, List.getElem?_set]
      split
      · next h => subst h; rw [at_some hi]; try rw [if_pos hi]
      · rfl
    rw [this]
  · have h1 := set_perm_cons l i (at' l i) (at' l j) (at_some hi)
    have h2 := set_perm_cons (l.set i (at' l j)) j (at' l j) (at' l i) (by rw [List.getElem?_set_ne e, at_some hj])
    exact (h2.trans h1).cons_inv
theorem up_start (x : α) (h : HeapOk key l) : UpOk key (l ++ [x]) l.length := by
  have e : ∀ q, q < l.length → at' (l ++ [x]) q = at' l q := by
    intro q hq
    simp [at', List.getD_eq_getElem?_getD, List.getElem?_append_left hq]
  refine ⟨fun j h0 h1 h2 => ?_, fun j h0 h1 h2 h3 => ?_⟩
  · rw [List.length_append, List.length_singleton] at h1
    rw [e _ (by omega), e _ (by omega)]
    exact h j h0 (by omega)
  · rw [List.length_append, List.length_singleton] at h1
    omega
theorem up_done {i : Nat} (h : UpOk key l i) (hd : i = 0 ∨ ¬ key (at' l i) < key (at' l ((i - 1) / 2))) : HeapOk key l := by
  intro j h0 h1
  by_cases e : j = i
  · subst e
    rcases hd with hd | hd <;> omega
  · exact h.1 j h0 h1 e
theorem up_step {i : Nat} (h : UpOk key l i) (h0 : 0 < i) (hi : i < l.length) (hd : key (at' l i) < key (at' l ((i - 1) / 2))) : UpOk key (swp l i ((i - 1) / 2)) ((i - 1) / 2) := by
  obtain ⟨h1, h2⟩ := h
  have hp : (i - 1) / 2 < l.length := by omega
  have hpi : (i - 1) / 2 ≠ i := by omega
  refine ⟨fun j g0 g1 g2 => ?_, fun j g0 g1 g2 g3 => ?_⟩
  · rw [swp_len] at g1
    rw [swp_at hi hp, swp_at hi hp]
    rw [if_neg g2]
    by_cases e1 : j = i
    · subst e1
      rw [if_pos rfl, if_pos rfl]; omega
    · rw [if_neg e1]
      by_cases e2 : (j - 1) / 2 = (i - 1) / 2
      · rw [if_pos e2]
        have := h1 j g0 g1 e1
        rw [e2] at this; omega
      · rw [if_neg e2]
        by_cases e3 : (j - 1) / 2 = i
        · rw [if_pos e3]
          exact h2 j g0 g1 e3 h0
        · rw [if_neg e3]
          exact h1 j g0 g1 e1
  · rw [swp_len] at g1
    rw [swp_at hi hp, swp_at hi hp]
    have hq : ((i - 1) / 2 - 1) / 2 ≠ (i - 1) / 2 := by omega
    have hq2 : ((i - 1) / 2 - 1) / 2 ≠ i := by omega
    rw [if_neg hq, if_neg hq2]
    have hup := h1 ((i - 1) / 2) g3 hp hpi
    rw [if_neg (show j ≠ (i - 1) / 2 by omega)]
    by_cases e1 : j = i
    · rw [if_pos e1]; exact hup
    · rw [if_neg e1]
      have := h1 j g0 g1 e1
      rw [g2] at this; omega
theorem heap_min (h : HeapOk key l) : ∀ j, j < l.length → key (at' l 0) ≤ key (at' l j) := by
  intro j
  induction j using Nat.strongRecOn with
  | ind j ih =>
    intro hj
    by_cases h0 : j = 0
    · subst h0; omega
    · have := ih ((j - 1) / 2) (by omega) (by omega)
      have := h j (by omega) hj
      omega
theorem heap_min_mem (h : HeapOk key l) {x : α} (hx : x ∈ l) : key (at' l 0) ≤ key x := by
  obtain ⟨j, hj⟩ := List.mem_iff_getElem?.1 hx
  have hl := (List.getElem?_eq_some_iff.1 hj).1
  have := heap_min h j hl
  rw [at_some hl] at hj
  cases hj; exact this
/-- The last one put first, and the last place left. -/
def popped (l : List α) : List α := (l.set 0 (at' l (l.length - 1))).take (l.length - 1)
theorem popped_len : (popped l).length = l.length - 1 := by simp [popped]
theorem popped_perm (hl : l ≠ []) : (at' l 0 :: popped l).Perm l := by
  cases l with
  | nil => exact absurd rfl hl
  | cons x t =>
    unfold popped
    rcases List.eq_nil_or_concat t with rfl | ⟨m, y, rfl⟩
    · simp [at']
    · have e1 : at' (x :: m.concat y) ((x :: m.concat y).length - 1) = y := by simp [at', List.getD_eq_getElem?_getD]
      rw [e1]
      simp only [List.set_cons_zero, List.concat_eq_append, List.length_cons, List.length_append, List.length_nil]
      have e2 : (y :: (m ++ [y])).take (m.length + (0 + 1) + 1 - 1) = y :: m := by simp
      rw [e2]
      show (x :: y :: m).Perm (x :: (m ++ [y]))
      exact (List.perm_append_singleton y m).symm.cons x
theorem popped_at {q : Nat} (hq : q < l.length - 1) (h0 : q ≠ 0) : at' (popped l) q = at' l q := by
  unfold popped at'
  rw [List.getD_eq_getElem?_getD, List.getElem?_take_of_lt hq, List.getElem?_set_ne (by omega), List.getD_eq_getElem?_getD]
theorem down_start (h : HeapOk key l) : DownOk key (popped l) 0 := by
  refine ⟨fun j h0 h1 h2 => ?_, fun j _ _ _ h3 => by omega⟩
  rw [popped_len] at h1
  rw [popped_at (by omega) h2, popped_at h1 (by omega)]
  exact h j h0 (by omega)
theorem down_leaf {i : Nat} (h : DownOk key l i) (hd : l.length ≤ 2 * i + 1) : HeapOk key l := by
  intro j h0 h1
  exact h.1 j h0 h1 (by omega)
/-- The lesser one of two children. -/
def least2 (key : α → Int) (l : List α) (i : Nat) : Nat := if 2 * i + 2 < l.length ∧ key (at' l (2 * i + 2)) < key (at' l (2 * i + 1)) then 2 * i + 2 else 2 * i + 1
theorem down_done {i : Nat} (h : DownOk key l i) (hd : ¬ key (at' l (least2 key l i)) < key (at' l i)) : HeapOk key l := by
  intro j h0 h1
  by_cases e : (j - 1) / 2 = i
  · rw [e]
    have hj : j = 2 * i + 1 ∨ j = 2 * i + 2 := by omega
    unfold least2 at hd
    split at hd
    · next hh => rcases hj with rfl | rfl <;> omega
    · next hh =>
      rcases hj with rfl | rfl
      · omega
      · have : ¬ key (at' l (2 * i + 2)) < key (at' l (2 * i + 1)) := fun hk => hh ⟨h1, hk⟩
        omega
  · exact h.1 j h0 h1 e
theorem down_step {i : Nat} (h : DownOk key l i) (hi : 2 * i + 1 < l.length) (hd : key (at' l (least2 key l i)) < key (at' l i)) : DownOk key (swp l i (least2 key l i)) (least2 key l i) ∧ least2 key l i < l.length ∧ i < least2 key l i := by
  have hk : least2 key l i < l.length ∧ (least2 key l i = 2 * i + 1 ∨ least2 key l i = 2 * i + 2) ∧ (∀ j, j < l.length → j = 2 * i + 1 ∨ j = 2 * i + 2 → key (at' l (least2 key l i)) ≤ key (at' l j)) := by
    unfold least2
    split
    · next hh => exact ⟨hh.1, .inr rfl, fun j _ hj => by rcases hj with rfl | rfl <;> omega⟩
    · next hh =>
      refine ⟨hi, .inl rfl, fun j hj1 hj => ?_⟩
      rcases hj with rfl | rfl
      · omega
      · have : ¬ key (at' l (2 * i + 2)) < key (at' l (2 * i + 1)) := fun hk => hh ⟨hj1, hk⟩
        omega
  generalize least2 key l i = c at hk hd
  obtain ⟨k1, k2, k3⟩ := hk
  obtain ⟨h1, h2⟩ := h
  have hil : i < l.length := by omega
  refine ⟨⟨fun j g0 g1 g2 => ?_, fun j g0 g1 g2 g3 => ?_⟩, k1, by omega⟩
  · rw [swp_len] at g1
    rw [swp_at hil k1, swp_at hil k1]
    rw [if_neg g2]
    by_cases e1 : j = c
    · rw [if_pos e1, if_pos (by omega)]; omega
    · rw [if_neg e1]
      by_cases e2 : j = i
      · rw [if_pos e2]
        subst e2
        rw [if_neg (by omega)]
        rcases k2 with k2 | k2
        · have := h2 c (by omega) k1 (by omega) g0
          exact this
        · have := h2 c (by omega) k1 (by omega) g0
          exact this
      · rw [if_neg e2]
        by_cases e3 : (j - 1) / 2 = i
        · rw [if_pos e3]
          exact k3 j g1 (by omega)
        · rw [if_neg e3]
          exact h1 j g0 g1 e3
  · rw [swp_len] at g1
    rw [swp_at hil k1, swp_at hil k1]
    have e1 : (c - 1) / 2 = i := by omega
    rw [if_neg (show j ≠ c by omega), if_neg (show j ≠ i by omega), e1, if_neg (show i ≠ c by omega), if_pos rfl]
    have := h1 j g0 g1 (by omega)
    rw [g2] at this; exact this
end
end Go.V
