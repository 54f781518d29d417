/- Shares: plain laws: the next one that gets one more; one digit more. -/
import Derived.Lib.Hide
namespace Go.Proofs.Ytjejpaladjfegaa.Ap

structure Pty where
  place : Int
  share : Int
  rest : Int
deriving Inhabited

/-- What comes first: the greater rest; of equal ones the lesser place. -/
def ltP (a b : Pty) : Prop := b.rest < a.rest ∨ b.rest = a.rest ∧ a.place < b.place

def ptyAt (amount all : Int) (i : Nat) (w : Int) : Pty := ⟨i, amount * w / all, amount * w % all⟩
def ptys (amount all : Int) (ws : List Int) : List Pty := ws.mapIdx (ptyAt amount all)
def leftE (amount all : Int) (ws : List Int) : Int := amount - (ws.map fun w => amount * w / all).sum

/-- What is found where, if the first t of S have got one more. -/
structure Filled (S : List Pty) (n t : Nat) (out : List Int) : Prop where
  len : out.length = n
  at_ : ∀ (i : Nat) (p : Pty), S[i]? = some p → out[p.place.toNat]? = some (p.share + if i < t then 1 else 0)
structure Rests (S : List Pty) (n t : Nat) (out : List Int) : Prop where
  len : out.length = n
  at_ : ∀ (i : Nat) (p : Pty), S[i]? = some p → out[p.place.toNat]? = some (if i < t then -1 else p.rest)
/-- Every place is told just once, and none else. -/
structure Whole (S : List Pty) (n : Nat) : Prop where
  len : S.length = n
  low : ∀ (i : Nat) (p : Pty), S[i]? = some p → 0 ≤ p.place ∧ p.place < n ∧ 0 ≤ p.rest
  all : ∀ k : Nat, k < n → ∃ (i : Nat) (p : Pty), S[i]? = some p ∧ p.place = k
  one : ∀ (i j : Nat) (p q : Pty), S[i]? = some p → S[j]? = some q → p.place = q.place → i = j
  sorted : ∀ (i j : Nat) (p q : Pty), S[i]? = some p → S[j]? = some q → i < j → ltP p q

theorem Filled.same {S : List Pty} {n t : Nat} {a b : List Int} (hW : Whole S n) (ha : Filled S n t a) (hb : Filled S n t b) : a = b := by
  apply List.ext_getElem?
  intro k
  by_cases hk : k < n
  · obtain ⟨i, p, hi, hp⟩ := hW.all k hk
    have h1 := ha.at_ i p hi
    have h2 := hb.at_ i p hi
    have e : p.place.toNat = k := by omega
    rw [e] at h1 h2
    rw [h1, h2]
  · rw [List.getElem?_eq_none (by rw [ha.len]; omega), List.getElem?_eq_none (by rw [hb.len]; omega)]

/-- The first of the greatest of the first i. -/
def amax (l : List Int) : Nat → Nat
  | 0 => 0
  | i + 1 => if i = 0 then 0 else if l.getD (amax l i) 0 < l.getD i 0 then i else amax l i
theorem amax_lt (l : List Int) : ∀ i, 0 < i → amax l i < i
  | i + 1, _ => by
    unfold amax
    split
    · omega
    · split
      · omega
      · have := amax_lt l i (by omega); omega
theorem amax_spec (l : List Int) (b : Nat) : ∀ i, b < i → (∀ j, j < b → l.getD j 0 < l.getD b 0) → (∀ j, b < j → j < i → l.getD j 0 ≤ l.getD b 0) → amax l i = b
  | i + 1, hb, h1, h2 => by
    unfold amax
    by_cases h0 : i = 0
    · rw [if_pos h0]; omega
    rw [if_neg h0]
    by_cases hbi : b = i
    · subst hbi
      have := amax_lt l b (by omega)
      rw [if_pos (h1 _ this)]
    · have ih := amax_spec l b i (by omega) h1 (fun j hj hj2 => h2 j hj (by omega))
      rw [ih, if_neg (by have := h2 i (by omega) (by omega); omega)]

/-- The next one that gets one more is the next of S. -/
theorem amax_next {S : List Pty} {n t : Nat} {rests : List Int} {p : Pty} (hW : Whole S n) (hr : Rests S n t rests) (hp : S[t]? = some p) : amax rests n = p.place.toNat := by
  obtain ⟨p0, p1, p2⟩ := hW.low t p hp
  have hb : rests.getD p.place.toNat 0 = p.rest := by
    rw [List.getD_eq_getElem?_getD, hr.at_ t p hp, if_neg (by omega)]; rfl
  have key : ∀ j, j < n → j ≠ p.place.toNat → rests.getD j 0 < p.rest ∨ rests.getD j 0 = p.rest ∧ p.place.toNat < j := by
    intro j hj hne
    obtain ⟨i, q, hi, hq⟩ := hW.all j hj
    obtain ⟨q0, q1, q2⟩ := hW.low i q hi
    have e : q.place.toNat = j := by omega
    have h1 := hr.at_ i q hi
    rw [e] at h1
    have h2 : rests.getD j 0 = if i < t then -1 else q.rest := by rw [List.getD_eq_getElem?_getD, h1]; rfl
    rw [h2]
    have hit : i ≠ t := by rintro rfl; rw [hp] at hi; cases hi; omega
    by_cases h : i < t
    · rw [if_pos h]; omega
    · rw [if_neg h]
      have hs := hW.sorted t i p q hp hi (by omega)
      rcases hs with hs | ⟨hs, hs2⟩
      · exact .inl hs
      · exact .inr ⟨hs, by omega⟩
  refine amax_spec rests _ n (by omega) (fun j hj => ?_) (fun j hj hj2 => ?_)
  · rw [hb]; rcases key j (by omega) (by omega) with h | ⟨h, h2⟩ <;> omega
  · rw [hb]; rcases key j hj2 (by omega) with h | ⟨h, h2⟩ <;> omega
theorem Filled.step {S : List Pty} {n t : Nat} {out : List Int} {p : Pty} (hW : Whole S n) (hr : Filled S n t out) (hp : S[t]? = some p) : Filled S n (t + 1) (out.set p.place.toNat (out.getD p.place.toNat 0 + 1)) := by
  obtain ⟨p0, p1, p2⟩ := hW.low t p hp
  refine ⟨by rw [List.length_set]; exact hr.len, fun i q hi => ?_⟩
  obtain ⟨q0, q1, q2⟩ := hW.low i q hi
  have hl := hr.len
  by_cases e : q.place = p.place
  · have := hW.one i t q p hi hp e
    subst this
    rw [hp] at hi; cases hi
    rw [List.getElem?_set_self (by omega), if_pos (by omega), List.getD_eq_getElem?_getD, hr.at_ i p hp, if_neg (by omega)]
    simp
  · rw [List.getElem?_set_ne (by omega), hr.at_ i q hi]
    have : i ≠ t := by rintro rfl; rw [hp] at hi; cases hi; exact e rfl
    by_cases h : i < t
    · rw [if_pos h, if_pos (by omega)]
    · rw [if_neg h, if_neg (by omega)]
theorem Rests.step {S : List Pty} {n t : Nat} {out : List Int} {p : Pty} (hW : Whole S n) (hr : Rests S n t out) (hp : S[t]? = some p) : Rests S n (t + 1) (out.set p.place.toNat (-1)) := by
  obtain ⟨p0, p1, p2⟩ := hW.low t p hp
  refine ⟨by rw [List.length_set]; exact hr.len, fun i q hi => ?_⟩
  obtain ⟨q0, q1, q2⟩ := hW.low i q hi
  have hl := hr.len
  by_cases e : q.place = p.place
  · have := hW.one i t q p hi hp e
    subst this
    rw [hp] at hi; cases hi
    rw [List.getElem?_set_self (by omega), if_pos (by omega)]
  · rw [List.getElem?_set_ne (by omega), hr.at_ i q hi]
    have : i ≠ t := by rintro rfl; rw [hp] at hi; cases hi; exact e rfl
    by_cases h : i < t
    · rw [if_pos h, if_pos (by omega)]
    · rw [if_neg h, if_neg (by omega)]

theorem ptys_get (amount all : Int) (ws : List Int) (i : Nat) : (ptys amount all ws)[i]? = (ws[i]?).map (ptyAt amount all i) := by
  unfold ptys; rw [List.getElem?_mapIdx]
theorem ptys_len (amount all : Int) (ws : List Int) : (ptys amount all ws).length = ws.length := by unfold ptys; simp

/-- Whatever holds the parties in order is whole. -/
theorem whole_of {amount all : Int} {ws : List Int} {S : List Pty} (h : S.Perm (ptys amount all ws)) (h0 : 0 < all) (hs : ∀ (i j : Nat) (p q : Pty), S[i]? = some p → S[j]? = some q → i < j → ¬ ltP q p) : Whole S ws.length := by
  have hmem : ∀ (i : Nat) (p : Pty), S[i]? = some p → ∃ (k : Nat) (w : Int), ws[k]? = some w ∧ p = ptyAt amount all k w := by
    intro i p hi
    have hm := h.mem_iff.1 (List.mem_of_getElem? hi)
    obtain ⟨k, hk, hkp⟩ := List.mem_iff_getElem.1 hm
    have e : (ptys amount all ws)[k]? = some p := by rw [List.getElem?_eq_getElem hk, hkp]
    rw [ptys_get] at e
    cases hw : ws[k]? with
    | none => rw [hw] at e; cases e
    | some w => rw [hw] at e; exact ⟨k, w, hw, (Option.some.inj e).symm⟩
  have hnd : (S.map fun p => p.place).Nodup := by
    have : (S.map fun p => p.place).Perm ((ptys amount all ws).map fun p => p.place) := h.map _
    rw [this.nodup_iff]
    show List.Pairwise _ _
    rw [List.pairwise_iff_getElem]
    intro i j hi hj hij
    simp [ptys, ptyAt]; omega
  have hone : ∀ (i j : Nat) (p q : Pty), S[i]? = some p → S[j]? = some q → p.place = q.place → i = j := by
    intro i j p q hi hj he
    have hnd : List.Pairwise _ _ := hnd
    rw [List.pairwise_iff_getElem] at hnd
    obtain ⟨h1, e1⟩ := List.getElem?_eq_some_iff.1 hi
    obtain ⟨h2, e2⟩ := List.getElem?_eq_some_iff.1 hj
    rcases Nat.lt_trichotomy i j with h | h | h
    · exact absurd (show (S.map fun p => p.place)[i]'(by simpa using h1) = (S.map fun p => p.place)[j]'(by simpa using h2) by simp [e1, e2, he]) (hnd i j (by simpa using h1) (by simpa using h2) h)
    · exact h
    · exact absurd (show (S.map fun p => p.place)[j]'(by simpa using h2) = (S.map fun p => p.place)[i]'(by simpa using h1) by simp [e1, e2, he]) (hnd j i (by simpa using h2) (by simpa using h1) h)
  refine ⟨by rw [h.length_eq, ptys_len], fun i p hi => ?_, fun k hk => ?_, hone, fun i j p q hi hj hij => ?_⟩
  · obtain ⟨k, w, hw, rfl⟩ := hmem i p hi
    have := (List.getElem?_eq_some_iff.1 hw).1
    exact ⟨by simp [ptyAt], by simp [ptyAt]; omega, Int.emod_nonneg _ (by omega)⟩
  · have e : (ptys amount all ws)[k]? = some (ptyAt amount all k ws[k]) := by rw [ptys_get, List.getElem?_eq_getElem hk]; rfl
    have hm := h.mem_iff.2 (List.mem_of_getElem? e)
    obtain ⟨i, hi, hip⟩ := List.mem_iff_getElem.1 hm
    exact ⟨i, _, by rw [List.getElem?_eq_getElem hi, hip], by simp [ptyAt]⟩
  · have h1 := hs i j p q hi hj hij
    have h2 : p.place ≠ q.place := fun e => by have := hone i j p q hi hj e; omega
    unfold ltP at h1 ⊢
    omega

/-- No more are left than there are. -/
theorem left_lt {amount all : Int} {ws : List Int} (h0 : 0 < all) (ha : all = ws.sum) : 0 ≤ leftE amount all ws ∧ (ws ≠ [] → leftE amount all ws < ws.length) := by
  have h1 : ∀ l : List Int, (l.map fun w => amount * w / all).sum * all + (l.map fun w => amount * w % all).sum = amount * l.sum := by
    intro l
    induction l with
    | nil => simp
    | cons x l ih =>
      simp only [List.map_cons, List.sum_cons]
      have := Int.mul_ediv_add_emod (amount * x) all
      rw [Int.mul_comm all] at this
      rw [Int.mul_add, ← ih, Int.add_mul]; omega
  have h2 : ∀ l : List Int, 0 ≤ (l.map fun w => amount * w % all).sum ∧ (l.map fun w => amount * w % all).sum ≤ l.length * (all - 1) := by
    intro l
    induction l with
    | nil => simp
    | cons x l ih =>
      simp only [List.map_cons, List.sum_cons, List.length_cons]
      have a := Int.emod_nonneg (amount * x) (show all ≠ 0 by omega)
      have b := Int.emod_lt_of_pos (amount * x) h0
      have c : ((l.length + 1 : Nat) : Int) * (all - 1) = l.length * (all - 1) + (all - 1) := by
        rw [Int.natCast_add, Int.add_mul]; simp
      omega
  have h3 := h1 ws
  have h4 := h2 ws
  have h5 : leftE amount all ws * all = (ws.map fun w => amount * w % all).sum := by
    unfold leftE
    rw [Int.sub_mul]
    rw [← ha] at h3
    omega
  constructor
  · apply Int.not_lt.1
    intro h
    have := Int.mul_neg_of_neg_of_pos h h0
    omega
  · intro hne
    have hpos : 0 < ws.length := List.length_pos_iff.2 hne
    apply Int.not_le.1
    intro h
    have h6 := Int.mul_le_mul_of_nonneg_right h (show 0 ≤ all by omega)
    have h7 : (ws.length : Int) * (all - 1) = ws.length * all - ws.length := by rw [Int.mul_sub]; simp
    omega
/-- One digit more, of whatever base. -/
theorem digit (k A d b c : Int) (hc : 0 < c) : (k * A + d) * b / c = k * (A * b / c) + (k * (A * b % c) + d * b) / c ∧ (k * A + d) * b % c = (k * (A * b % c) + d * b) % c := by
  have h := Int.mul_ediv_add_emod (A * b) c
  have e : (k * A + d) * b = (k * (A * b % c) + d * b) + c * (k * (A * b / c)) := by
    rw [Int.add_mul, Int.mul_assoc]
    have : k * (A * b) = k * (c * (A * b / c) + A * b % c) := by rw [h]
    rw [this, Int.mul_add]
    have : k * (c * (A * b / c)) = c * (k * (A * b / c)) := by rw [← Int.mul_assoc, Int.mul_comm k c, Int.mul_assoc]
    omega
  constructor
  · rw [e, Int.add_mul_ediv_left _ _ (by omega)]; omega
  · rw [e, Int.add_mul_emod_self_left]
theorem half (a : Int) (i : Nat) (_h : 0 ≤ a) : a / 2 ^ i = 2 * (a / 2 ^ (i + 1)) + a / 2 ^ i % 2 := by
  have : (2 : Int) ^ (i + 1) = 2 ^ i * 2 := by rw [Int.pow_succ]
  rw [this, ← Int.ediv_ediv_of_nonneg (Int.pow_nonneg (by omega))]
  omega
theorem low_bit (a : Int) (i : Nat) (hi : i < 18) : a % 262144 / 2 ^ i % 2 = a / 2 ^ i % 2 := by
  have e : (262144 : Int) = 2 ^ i * (2 * 2 ^ (17 - i)) := by
    have : (2 : Int) * 2 ^ (17 - i) = 2 ^ (18 - i) := by rw [show 18 - i = (17 - i) + 1 by omega, Int.pow_succ, Int.mul_comm]
    rw [this, ← Int.pow_add, show i + (18 - i) = 18 by omega]; rfl
  have e2 : a = a % 262144 + 2 ^ i * (2 * (2 ^ (17 - i) * (a / 262144))) := by
    have : (2 : Int) ^ i * (2 * (2 ^ (17 - i) * (a / 262144))) = 262144 * (a / 262144) := by
      rw [e]; simp only [Int.mul_assoc]
    omega
  have hp : (2 : Int) ^ i ≠ 0 := by have := Int.pow_pos (n := 2) (m := i) (by omega); omega
  conv => rhs; rw [e2, Int.add_mul_ediv_left _ _ hp]
  omega
end Go.Proofs.Ytjejpaladjfegaa.Ap
