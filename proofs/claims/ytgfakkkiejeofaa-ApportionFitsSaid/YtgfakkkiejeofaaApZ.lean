/- Shares: plain laws: the next one that gets one more; one digit more. -/
/- A row of one's own, as the shelf's sorts know it. -/
/- Shares: how parties lie, and which one comes first: walked. -/
/- Shares: a by b, by c: walked. -/
/- Shares: the document's a by b, by c: walked. -/
import Derived.Lib.Hide
import Derived.Test.YtgfakkkiejeofaaBase2
import Derived.Shelf.SlSortCmp.WholeK
import Derived.Test.YtgfakkkiejeofaaNeC
import Derived.IntWalk
import Derived.Laws.BitsLemmas
namespace Go.Proofs.Ytgfakkkiejeofaa.Ap

structure Pty where
  place : Int
  share : Int
  rest : Int
deriving Inhabited

/-- What comes first: the greater rest; of equal ones the lesser place. -/
def ltP (a b : Pty) : Prop := b.rest < a.rest ∨ b.rest = a.rest ∧ a.place < b.place

def ptyAt (amount all : Int) (i : Nat) (w : Int) : Pty := ⟨i, amount * w / all, amount * w % all⟩
def ptys (amount all : Int) (ws : List Int) : List Pty := ws.mapIdx (ptyAt amount all)
def leftE (amount all : Int) (ws : List Int) : Int := amount - (ws.map fun w => amount * w / all).sum

/-- What is found where, if the first t of S have got one more. -/
structure Filled (S : List Pty) (n t : Nat) (out : List Int) : Prop where
  len : out.length = n
  at_ : ∀ (i : Nat) (p : Pty), S[i]? = some p → out[p.place.toNat]? = some (p.share + if i < t then 1 else 0)
structure Rests (S : List Pty) (n t : Nat) (out : List Int) : Prop where
  len : out.length = n
  at_ : ∀ (i : Nat) (p : Pty), S[i]? = some p → out[p.place.toNat]? = some (if i < t then -1 else p.rest)
/-- Every place is told just once, and none else. -/
structure Whole (S : List Pty) (n : Nat) : Prop where
  len : S.length = n
  low : ∀ (i : Nat) (p : Pty), S[i]? = some p → 0 ≤ p.place ∧ p.place < n ∧ 0 ≤ p.rest
  all : ∀ k : Nat, k < n → ∃ (i : Nat) (p : Pty), S[i]? = some p ∧ p.place = k
  one : ∀ (i j : Nat) (p q : Pty), S[i]? = some p → S[j]? = some q → p.place = q.place → i = j
  sorted : ∀ (i j : Nat) (p q : Pty), S[i]? = some p → S[j]? = some q → i < j → ltP p q

theorem Filled.same {S : List Pty} {n t : Nat} {a b : List Int} (hW : Whole S n) (ha : Filled S n t a) (hb : Filled S n t b) : a = b := by
  apply List.ext_getElem?
  intro k
  by_cases hk : k < n
  · obtain ⟨i, p, hi, hp⟩ := hW.all k hk
    have h1 := ha.at_ i p hi
    have h2 := hb.at_ i p hi
    have e : p.place.toNat = k := by omega
    rw [e] at h1 h2
    rw [h1, h2]
  · rw [List.getElem?_eq_none (by rw [ha.len]; omega), List.getElem?_eq_none (by rw [hb.len]; omega)]

/-- The first of the greatest of the first i. -/
def amax (l : List Int) : Nat → Nat
  | 0 => 0
  | i + 1 => if i = 0 then 0 else if l.getD (amax l i) 0 < l.getD i 0 then i else amax l i
theorem amax_lt (l : List Int) : ∀ i, 0 < i → amax l i < i
  | i + 1, _ => by
    unfold amax
    split
    · omega
    · split
      · omega
      · have := amax_lt l i (by omega); omega
theorem amax_spec (l : List Int) (b : Nat) : ∀ i, b < i → (∀ j, j < b → l.getD j 0 < l.getD b 0) → (∀ j, b < j → j < i → l.getD j 0 ≤ l.getD b 0) → amax l i = b
  | i + 1, hb, h1, h2 => by
    unfold amax
    by_cases h0 : i = 0
    · rw [if_pos h0]; omega
    rw [if_neg h0]
    by_cases hbi : b = i
    · subst hbi
      have := amax_lt l b (by omega)
      rw [if_pos (h1 _ this)]
    · have ih := amax_spec l b i (by omega) h1 (fun j hj hj2 => h2 j hj (by omega))
      rw [ih, if_neg (by have := h2 i (by omega) (by omega); omega)]

/-- The next one that gets one more is the next of S. -/
theorem amax_next {S : List Pty} {n t : Nat} {rests : List Int} {p : Pty} (hW : Whole S n) (hr : Rests S n t rests) (hp : S[t]? = some p) : amax rests n = p.place.toNat := by
  obtain ⟨p0, p1, p2⟩ := hW.low t p hp
  have hb : rests.getD p.place.toNat 0 = p.rest := by
    rw [List.getD_eq_getElem?_getD, hr.at_ t p hp, if_neg (by omega)]; rfl
  have key : ∀ j, j < n → j ≠ p.place.toNat → rests.getD j 0 < p.rest ∨ rests.getD j 0 = p.rest ∧ p.place.toNat < j := by
    intro j hj hne
    obtain ⟨i, q, hi, hq⟩ := hW.all j hj
    obtain ⟨q0, q1, q2⟩ := hW.low i q hi
    have e : q.place.toNat = j := by omega
    have h1 := hr.at_ i q hi
    rw [e] at h1
    have h2 : rests.getD j 0 = if i < t then -1 else q.rest := by rw [List.getD_eq_getElem?_getD, h1]; rfl
    rw [h2]
    have hit : i ≠ t := by rintro rfl; rw [hp] at hi; cases hi; omega
    by_cases h : i < t
    · rw [if_pos h]; omega
    · rw [if_neg h]
      have hs := hW.sorted t i p q hp hi (by omega)
      rcases hs with hs | ⟨hs, hs2⟩
      · exact .inl hs
      · exact .inr ⟨hs, by omega⟩
  refine amax_spec rests _ n (by omega) (fun j hj => ?_) (fun j hj hj2 => ?_)
  · rw [hb]; rcases key j (by omega) (by omega) with h | ⟨h, h2⟩ <;> omega
  · rw [hb]; rcases key j hj2 (by omega) with h | ⟨h, h2⟩ <;> omega
theorem Filled.step {S : List Pty} {n t : Nat} {out : List Int} {p : Pty} (hW : Whole S n) (hr : Filled S n t out) (hp : S[t]? = some p) : Filled S n (t + 1) (out.set p.place.toNat (out.getD p.place.toNat 0 + 1)) := by
  obtain ⟨p0, p1, p2⟩ := hW.low t p hp
  refine ⟨by rw [List.length_set]; exact hr.len, fun i q hi => ?_⟩
  obtain ⟨q0, q1, q2⟩ := hW.low i q hi
  have hl := hr.len
  by_cases e : q.place = p.place
  · have := hW.one i t q p hi hp e
    subst this
    rw [hp] at hi; cases hi
    rw [List.getElem?_set_self (by omega), if_pos (by omega), List.getD_eq_getElem?_getD, hr.at_ i p hp, if_neg (by omega)]
    simp
  · rw [List.getElem?_set_ne (by omega), hr.at_ i q hi]
    have : i ≠ t := by rintro rfl; rw [hp] at hi; cases hi; exact e rfl
    by_cases h : i < t
    · rw [if_pos h, if_pos (by omega)]
    · rw [if_neg h, if_neg (by omega)]
theorem Rests.step {S : List Pty} {n t : Nat} {out : List Int} {p : Pty} (hW : Whole S n) (hr : Rests S n t out) (hp : S[t]? = some p) : Rests S n (t + 1) (out.set p.place.toNat (-1)) := by
  obtain ⟨p0, p1, p2⟩ := hW.low t p hp
  refine ⟨by rw [List.length_set]; exact hr.len, fun i q hi => ?_⟩
  obtain ⟨q0, q1, q2⟩ := hW.low i q hi
  have hl := hr.len
  by_cases e : q.place = p.place
  · have := hW.one i t q p hi hp e
    subst this
    rw [hp] at hi; cases hi
    rw [List.getElem?_set_self (by omega), if_pos (by omega)]
  · rw [List.getElem?_set_ne (by omega), hr.at_ i q hi]
    have : i ≠ t := by rintro rfl; rw [hp] at hi; cases hi; exact e rfl
    by_cases h : i < t
    · rw [if_pos h, if_pos (by omega)]
    · rw [if_neg h, if_neg (by omega)]

theorem ptys_get (amount all : Int) (ws : List Int) (i : Nat) : (ptys amount all ws)[i]? = (ws[i]?).map (ptyAt amount all i) := by
  unfold ptys; rw [List.getElem?_mapIdx]
theorem ptys_len (amount all : Int) (ws : List Int) : (ptys amount all ws).length = ws.length := by unfold ptys; simp

/-- Whatever holds the parties in order is whole. -/
theorem whole_of {amount all : Int} {ws : List Int} {S : List Pty} (h : S.Perm (ptys amount all ws)) (h0 : 0 < all) (hs : ∀ (i j : Nat) (p q : Pty), S[i]? = some p → S[j]? = some q → i < j → ¬ ltP q p) : Whole S ws.length := by
  have hmem : ∀ (i : Nat) (p : Pty), S[i]? = some p → ∃ (k : Nat) (w : Int), ws[k]? = some w ∧ p = ptyAt amount all k w := by
    intro i p hi
    have hm := h.mem_iff.1 (List.mem_of_getElem? hi)
    obtain ⟨k, hk, hkp⟩ := List.mem_iff_getElem.1 hm
    have e : (ptys amount all ws)[k]? = some p := by rw [List.getElem?_eq_getElem hk, hkp]
    rw [ptys_get] at e
    cases hw : ws[k]? with
    | none => rw [hw] at e; cases e
    | some w => rw [hw] at e; exact ⟨k, w, hw, (Option.some.inj e).symm⟩
  have hnd : (S.map fun p => p.place).Nodup := by
    have : (S.map fun p => p.place).Perm ((ptys amount all ws).map fun p => p.place) := h.map _
    rw [this.nodup_iff]
    show List.Pairwise _ _
    rw [List.pairwise_iff_getElem]
    intro i j hi hj hij
    simp [ptys, ptyAt]; omega
  have hone : ∀ (i j : Nat) (p q : Pty), S[i]? = some p → S[j]? = some q → p.place = q.place → i = j := by
    intro i j p q hi hj he
    have hnd : List.Pairwise _ _ := hnd
    rw [List.pairwise_iff_getElem] at hnd
    obtain ⟨h1, e1⟩ := List.getElem?_eq_some_iff.1 hi
    obtain ⟨h2, e2⟩ := List.getElem?_eq_some_iff.1 hj
    rcases Nat.lt_trichotomy i j with h | h | h
    · exact absurd (show (S.map fun p => p.place)[i]'(by simpa using h1) = (S.map fun p => p.place)[j]'(by simpa using h2) by simp [e1, e2, he]) (hnd i j (by simpa using h1) (by simpa using h2) h)
    · exact h
    · exact absurd (show (S.map fun p => p.place)[j]'(by simpa using h2) = (S.map fun p => p.place)[i]'(by simpa using h1) by simp [e1, e2, he]) (hnd j i (by simpa using h2) (by simpa using h1) h)
  refine ⟨by rw [h.length_eq, ptys_len], fun i p hi => ?_, fun k hk => ?_, hone, fun i j p q hi hj hij => ?_⟩
  · obtain ⟨k, w, hw, rfl⟩ := hmem i p hi
    have := (List.getElem?_eq_some_iff.1 hw).1
    exact ⟨by simp [ptyAt], by simp [ptyAt]; omega, Int.emod_nonneg _ (by omega)⟩
  · have e : (ptys amount all ws)[k]? = some (ptyAt amount all k ws[k]) := by rw [ptys_get, List.getElem?_eq_getElem hk]; rfl
    have hm := h.mem_iff.2 (List.mem_of_getElem? e)
    obtain ⟨i, hi, hip⟩ := List.mem_iff_getElem.1 hm
    exact ⟨i, _, by rw [List.getElem?_eq_getElem hi, hip], by simp [ptyAt]⟩
  · have h1 := hs i j p q hi hj hij
    have h2 : p.place ≠ q.place := fun e => by have := hone i j p q hi hj e; omega
    unfold ltP at h1 ⊢
    omega

/-- No more are left than there are. -/
theorem left_lt {amount all : Int} {ws : List Int} (h0 : 0 < all) (ha : all = ws.sum) : 0 ≤ leftE amount all ws ∧ (ws ≠ [] → leftE amount all ws < ws.length) := by
  have h1 : ∀ l : List Int, (l.map fun w => amount * w / all).sum * all + (l.map fun w => amount * w % all).sum = amount * l.sum := by
    intro l
    induction l with
    | nil => simp
    | cons x l ih =>
      simp only [List.map_cons, List.sum_cons]
      have := Int.mul_ediv_add_emod (amount * x) all
      rw [Int.mul_comm all] at this
      rw [Int.mul_add, ← ih, Int.add_mul]; omega
  have h2 : ∀ l : List Int, 0 ≤ (l.map fun w => amount * w % all).sum ∧ (l.map fun w => amount * w % all).sum ≤ l.length * (all - 1) := by
    intro l
    induction l with
    | nil => simp
    | cons x l ih =>
      simp only [List.map_cons, List.sum_cons, List.length_cons]
      have a := Int.emod_nonneg (amount * x) (show all ≠ 0 by omega)
      have b := Int.emod_lt_of_pos (amount * x) h0
      have c : ((l.length + 1 : Nat) : Int) * (all - 1) = l.length * (all - 1) + (all - 1) := by
        rw [Int.natCast_add, Int.add_mul]; simp
      omega
  have h3 := h1 ws
  have h4 := h2 ws
  have h5 : leftE amount all ws * all = (ws.map fun w => amount * w % all).sum := by
    unfold leftE
    rw [Int.sub_mul]
    rw [← ha] at h3
    omega
  constructor
  · apply Int.not_lt.1
    intro h
    have := Int.mul_neg_of_neg_of_pos h h0
    omega
  · intro hne
    have hpos : 0 < ws.length := List.length_pos_iff.2 hne
    apply Int.not_le.1
    intro h
    have h6 := Int.mul_le_mul_of_nonneg_right h (show 0 ≤ all by omega)
    have h7 : (ws.length : Int) * (all - 1) = ws.length * all - ws.length := by rw [Int.mul_sub]; simp
    omega
/-- One digit more, of whatever base. -/
theorem digit (k A d b c : Int) (hc : 0 < c) : (k * A + d) * b / c = k * (A * b / c) + (k * (A * b % c) + d * b) / c ∧ (k * A + d) * b % c = (k * (A * b % c) + d * b) % c := by
  have h := Int.mul_ediv_add_emod (A * b) c
  have e : (k * A + d) * b = (k * (A * b % c) + d * b) + c * (k * (A * b / c)) := by
    rw [Int.add_mul, Int.mul_assoc]
    have : k * (A * b) = k * (c * (A * b / c) + A * b % c) := by rw [h]
    rw [this, Int.mul_add]
    have : k * (c * (A * b / c)) = c * (k * (A * b / c)) := by rw [← Int.mul_assoc, Int.mul_comm k c, Int.mul_assoc]
    omega
  constructor
  · rw [e, Int.add_mul_ediv_left _ _ (by omega)]; omega
  · rw [e, Int.add_mul_emod_self_left]
theorem half (a : Int) (i : Nat) (_h : 0 ≤ a) : a / 2 ^ i = 2 * (a / 2 ^ (i + 1)) + a / 2 ^ i % 2 := by
  have : (2 : Int) ^ (i + 1) = 2 ^ i * 2 := by rw [Int.pow_succ]
  rw [this, ← Int.ediv_ediv_of_nonneg (Int.pow_nonneg (by omega))]
  omega
theorem low_bit (a : Int) (i : Nat) (hi : i < 18) : a % 262144 / 2 ^ i % 2 = a / 2 ^ i % 2 := by
  have e : (262144 : Int) = 2 ^ i * (2 * 2 ^ (17 - i)) := by
    have : (2 : Int) * 2 ^ (17 - i) = 2 ^ (18 - i) := by rw [show 18 - i = (17 - i) + 1 by omega, Int.pow_succ, Int.mul_comm]
    rw [this, ← Int.pow_add, show i + (18 - i) = 18 by omega]; rfl
  have e2 : a = a % 262144 + 2 ^ i * (2 * (2 ^ (17 - i) * (a / 262144))) := by
    have : (2 : Int) ^ i * (2 * (2 ^ (17 - i) * (a / 262144))) = 262144 * (a / 262144) := by
      rw [e]; simp only [Int.mul_assoc]
    omega
  have hp : (2 : Int) ^ i ≠ 0 := by have := Int.pow_pos (n := 2) (m := i) (by omega); omega
  conv => rhs; rw [e2, Int.add_mul_ediv_left _ _ hp]
  omega
end Go.Proofs.Ytgfakkkiejeofaa.Ap

namespace Go.V
open Go.RowKit Go.Shelf Go.Proofs Go.Sort

theorem flat_getElem {α : Type} [Inhabited α] (c : Cod α) (xs : List α) (t : Nat) (h : t < xs.length * c.k) : (xs.flatMap c.enc)[t]? = some ((c.enc xs.toArray[t / c.k]!)[t % c.k]!) := by
  have hk : 0 < c.k := by rcases Nat.eq_zero_or_pos c.k with e | e; rw [e] at h; omega; exact e
  have h1 : t % c.k < c.k := Nat.mod_lt _ hk
  have h2 : t / c.k < xs.length := by rw [Nat.div_lt_iff_lt_mul hk]; exact h
  have := flat_get c xs (t / c.k) (t % c.k) h1
  rw [show t / c.k * c.k + t % c.k = t by rw [Nat.mul_comm]; exact Nat.div_add_mod t c.k] at this
  rw [this]
  have e1 : xs[t / c.k]? = some xs[t / c.k] := List.getElem?_eq_getElem h2
  rw [e1]
  have e2 : xs.toArray[t / c.k]! = xs[t / c.k] := by rw [getElem!_pos xs.toArray _ (by simpa using h2)]; simp
  rw [e2]
  show (c.enc xs[t / c.k])[t % c.k]? = _
  rw [List.getElem?_eq_getElem (by rw [c.len]; exact h1), getElem!_pos (c.enc xs[t / c.k]) (t % c.k) (by rw [c.len]; exact h1)]

theorem holdsK_of_cells {α : Type} [Inhabited α] (c : Cod α) {w : World} {b off : Nat} {xs : List α} (h : Cells w b off (xs.flatMap c.enc)) (hf : ∀ j, w.frozen? ⟨b, j, none⟩ = false) : HoldsK c.enc c.k w b off xs.toArray := by
  intro j hj
  have hj' : j < xs.length * c.k := by simpa [size_flatK] using hj
  refine ⟨?_, hf _⟩
  rw [get_flatK _ _ _ _ (by simpa using hj')]
  exact h j _ (flat_getElem c xs j hj')

theorem cells_of_holdsK {α : Type} [Inhabited α] (c : Cod α) {w : World} {b off : Nat} {d : Array α} (h : HoldsK c.enc c.k w b off d) : Cells w b off (d.toList.flatMap c.enc) := by
  intro j u hu
  have hj : j < d.toList.length * c.k := by rw [← flat_len c]; exact (List.getElem?_eq_some_iff.1 hu).1
  have h1 := (h j (by simpa [size_flatK] using hj)).1
  rw [get_flatK _ _ _ _ (by simpa using hj)] at h1
  rw [h1]
  have := flat_getElem c d.toList j hj
  rw [hu] at this
  simpa using this.symm

/-- What a sort leaves of the rest of memory. -/
theorem swk_below {α : Type} {enc : α → List Value} {k : Nat} {w w' : World} {blk off : Nat} {dk : Array α} [Inhabited α] (h : SWK enc k w blk off dk w') {B : Nat} (hB : B ≤ blk) (hw : B ≤ w.heap.size) : Below B w w' := by
  obtain ⟨m, os, rfl⟩ := h
  unfold sortWorldK putRowK putRow mapBlock Sort.ahead grow
  refine ⟨rfl, rfl, rfl, by simp, fun i hi => ?_⟩
  simp only []
  rw [Array.getElem?_append_left (by simpa using (show i < w.heap.size by omega)), Array.getElem?_modify, if_neg (by omega)]

theorem swk_own {α : Type} [Inhabited α] (c : Cod α) {w w' : World} {base n cap g : Nat} {e : TypeId} {xs : List α} {dk : Array α} (h : w.ownsRow base e c.k (.slice (some ⟨g, 0, none⟩) n cap) n (xs.flatMap c.enc)) (S : SWK c.enc c.k w g 0 dk w') (hs : dk.size = n) :
    w'.ownsRow base e c.k (.slice (some ⟨g, 0, none⟩) n cap) n (dk.toList.flatMap c.enc) := by
  obtain ⟨h1, h2⟩ := h
  rcases h2 with ⟨h2, _⟩ | ⟨g', cap', cur, h2, hb, hg, hn, hm, hz, ht⟩
  · cases h2
  · cases h2
    obtain ⟨m, os, rfl⟩ := S
    have hgs := (Array.getElem?_eq_some_iff.1 hg).1
    have hh : (sortWorldK c.enc c.k w g 0 m dk os).heap[g]? = some (.cells (putCells id 0 (flatK c.enc c.k dk) cur) e (0, 0)) := by
      unfold sortWorldK putRowK putRow mapBlock Sort.ahead grow
      simp only []
      rw [Array.getElem?_append_left (by simpa using hgs), Array.getElem?_modify, if_pos rfl, hg]
      rfl
    have hlen : (dk.toList.flatMap c.enc).length = n * c.k := by rw [flat_len, Array.length_toList, hs]
    refine ⟨hlen, .inr ⟨g, cap, _, rfl, hb, hh, hn, hm, by simp only [putCells, Array.size_mapIdx]; exact hz, ?_⟩⟩
    have hfz : ∀ j, w.frozen? ⟨g, j, none⟩ = false := fun j => by simp [World.frozen?, hg]
    apply List.ext_getElem?
    intro j
    by_cases hj : j < n * c.k
    · rw [List.getElem?_take_of_lt hj]
      have hsz : n * c.k ≤ cap * c.k := Nat.mul_le_mul_right _ hn
      have hu : (dk.toList.flatMap c.enc)[j]? = some ((c.enc dk.toList.toArray[j / c.k]!)[j % c.k]!) := flat_getElem c dk.toList j (by rw [Array.length_toList, hs]; exact hj)
      rw [hu]
      simp only [Array.getElem?_toList]
      have hjc : j < cur.size := by rw [hz]; omega
      simp only [putCells, Array.getElem?_mapIdx, Array.getElem?_eq_getElem hjc, Option.map_some]
      rw [if_pos (by rw [size_flatK, hs]; omega), Nat.sub_zero, get_flatK _ _ _ _ (by rw [hs]; exact hj)]
      rfl
    · rw [List.getElem?_eq_none (by simp; omega), List.getElem?_eq_none (by omega)]

end Go.V

namespace Go.Proofs.Ytgfakkkiejeofaa.Ap
open Go.RowKit Go.V Go.Proofs Go.Sort Go.Shelf
open Go.Proofs.Ytgfakkkiejeofaa.Ne (cmpI cmpI_any or_any box_alloc box_new box3_cells)

def penc (r : Pty) : List Value := [.int .i64 r.place, .int .i64 r.share, .int .u64 r.rest]
def pcod : Cod Pty := ⟨3, penc, fun _ => rfl, by simp [penc, Value.oneCell']⟩
abbrev pval (r : Pty) : Value := .agg #[.int .i64 r.place, .int .i64 r.share, .int .u64 r.rest]
def cmpP (x y : Pty) : Int := if cmpI y.rest x.rest = 0 then cmpI x.place y.place else cmpI y.rest x.rest

set_option maxHeartbeats 400000 in
theorem cmpU_any (x y : Int) (w : World) :
    Calls Try.prog 28 #[.int .u64 x, .int .u64 y] w fun e w' => e = .returned (.int .i64 (cmpI x y)) ∧ w = w' := by
  by_cases h1 : x < y
  · go_enter Try.func28, Try.ntmps28
    go_wp2
    go_ret
    exact ⟨ret_int (by unfold cmpI; (repeat' split) <;> omega), rfl⟩
  · by_cases h2 : y < x
    all_goals
      go_enter Try.func28, Try.ntmps28
      go_wp2
      go_ret
      exact ⟨ret_int (by unfold cmpI; (repeat' split) <;> omega), rfl⟩

set_option maxHeartbeats 1000000 in
set_option maxRecDepth 100000 in
theorem first_any (x y : Pty) (w : World) :
    Calls Try.prog 26 #[pval x, pval y] w fun e w' => e = .returned (.int .i64 (cmpP x y)) ∧ ∃ q os, w' = grow (w.drewN q) os := by
  obtain ⟨c1, hc1⟩ : ∃ c, cmpI y.rest x.rest = c := ⟨_, rfl⟩
  obtain ⟨c2, hc2⟩ : ∃ c, cmpI x.place y.place = c := ⟨_, rfl⟩
  obtain ⟨r, hr⟩ : ∃ r, (if c1 = 0 then c2 else c1) = r := ⟨_, rfl⟩
  have HA : Hid (r = cmpP x y) := by
    show _ = _
    rw [← hr, ← hc1, ← hc2]; rfl
  have HC : Hid (cmpI y.rest x.rest = c1 ∧ cmpI x.place y.place = c2 ∧ (if c1 = 0 then c2 else c1) = r) := ⟨hc1, hc2, hr⟩
  clear hc1 hc2 hr
  have mixed : Try.prog.follows .mixedOrders = true := by kernel_rfl
  unfold pval
  go_enter Try.func26, Try.ntmps26
  go_wp2_with fail
  have HX0 := Lib.hid (box_alloc (o := .cells #[.int .i64 y.place, .int .i64 y.share, .int .u64 y.rest] 66) (box_new w (.cells #[.int .i64 x.place, .int .i64 x.share, .int .u64 x.rest] 66)))
  have HY0 := Lib.hid (box_new (w.alloc (.cells #[.int .i64 x.place, .int .i64 x.share, .int .u64 x.rest] 66)) (.cells #[.int .i64 y.place, .int .i64 y.share, .int .u64 y.rest] 66))
  have hz : w.heap.size + 1 < ((w.alloc (.cells #[.int .i64 x.place, .int .i64 x.share, .int .u64 x.rest] 66)).alloc (.cells #[.int .i64 y.place, .int .i64 y.share, .int .u64 y.rest] 66)).heap.size := by simp
  obtain ⟨W, hW⟩ : ∃ W, (w.alloc (.cells #[.int .i64 x.place, .int .i64 x.share, .int .u64 x.rest] 66)).alloc (.cells #[.int .i64 y.place, .int .i64 y.share, .int .u64 y.rest] 66) = W := ⟨_, rfl⟩
  rw [World.size_alloc] at HY0
  rw [hW] at HX0 HY0 hz ⊢
  have HW : Hid (∀ o, (W.drew).alloc o = grow (w.drewN 1) #[.cells #[.int .i64 x.place, .int .i64 x.share, .int .u64 x.rest] 66, .cells #[.int .i64 y.place, .int .i64 y.share, .int .u64 y.rest] 66, o]) := by
    intro o
    rw [← hW, alloc_eq_grow, alloc_eq_grow, alloc_eq_grow, grow_grow]
    show grow (grow (w.drewN 1) _) _ = _
    rw [grow_grow]; rfl
  clear hW
  obtain ⟨u0, u1, u2, -, -, -⟩ := box3_cells HX0.out
  obtain ⟨v0, v1, v2, -, -, -⟩ := box3_cells HY0.out
  have hd : ∀ a, W.drew.cell? a = W.cell? a := fun a => rfl
  go_still_tail 10, (by kernel_rfl)
  still_call ((cmpU_any _ _ _).mono fun _ _ hh => ⟨hh.1, hh.2.symm⟩)
  repeat still_step
  still_call ((cmpI_any _ _ _).mono fun _ _ hh => ⟨hh.1, hh.2.symm⟩)
  repeat still_step
  refine wpStill_nil ?_
  change wpList _ _ _ _ _ W.drew
  rw [HC.out.1, HC.out.2.1]
  clear hd u0 u1 u2 v0 v1 v2
  generalize W.drew = w2 at HW ⊢
  go_wp2_with (go_at_call 27; refine (or_any c1 c2 _ _ (by simp [go_sem]) (by simp [go_sem])).mono ?_; rintro e w1 ⟨rfl, rfl⟩; rw [HC.out.2.2])
  go_ret
  exact ⟨ret_int HA.out, 1, _, HW.out _⟩

/-! ### times -/
def tmsQ (a b c : Int) : Int := a * b / c
def tmsR (a b c : Int) : Int := a * b % c
theorem tms_in {A b c : Int} (hA : 0 ≤ A) (hb : 0 ≤ b) (hbc : b ≤ c) (hc : 0 < c) : 0 ≤ tmsQ A b c ∧ tmsQ A b c ≤ A ∧ 0 ≤ tmsR A b c ∧ tmsR A b c < c := by
  have h0 : 0 ≤ A * b := Int.mul_nonneg hA hb
  have h1 : A * b ≤ A * c := Int.mul_le_mul_of_nonneg_left hbc hA
  refine ⟨Int.ediv_nonneg h0 (by omega), ?_, Int.emod_nonneg _ (by omega), Int.emod_lt_of_pos _ hc⟩
  exact Int.ediv_le_of_le_mul hc h1
theorem tms_step {a b c : Int} (k : Nat) (ha : 0 ≤ a) (hc : 0 < c) : tmsQ (a / 2 ^ k) b c = 2 * tmsQ (a / 2 ^ (k + 1)) b c + (2 * tmsR (a / 2 ^ (k + 1)) b c + a / 2 ^ k % 2 * b) / c ∧ tmsR (a / 2 ^ k) b c = (2 * tmsR (a / 2 ^ (k + 1)) b c + a / 2 ^ k % 2 * b) % c := by
  have h := digit 2 (a / 2 ^ (k + 1)) (a / 2 ^ k % 2) b c hc
  rw [← half a k ha] at h
  exact h
theorem tms_step4 {a b c : Int} (k : Nat) (_ha : 0 ≤ a) (hc : 0 < c) : tmsQ (a / 4096 ^ k) b c = 4096 * tmsQ (a / 4096 ^ (k + 1)) b c + (4096 * tmsR (a / 4096 ^ (k + 1)) b c + a / 4096 ^ k % 4096 * b) / c ∧ tmsR (a / 4096 ^ k) b c = (4096 * tmsR (a / 4096 ^ (k + 1)) b c + a / 4096 ^ k % 4096 * b) % c := by
  have h := digit 4096 (a / 4096 ^ (k + 1)) (a / 4096 ^ k % 4096) b c hc
  have e : a / 4096 ^ k = 4096 * (a / 4096 ^ (k + 1)) + a / 4096 ^ k % 4096 := by
    have : (4096 : Int) ^ (k + 1) = 4096 ^ k * 4096 := by rw [Int.pow_succ]
    rw [this, ← Int.ediv_ediv_of_nonneg (Int.pow_nonneg (by omega))]
    omega
  rw [← e] at h
  exact h
end Go.Proofs.Ytgfakkkiejeofaa.Ap

namespace Go.Proofs.Ytgfakkkiejeofaa.Ap
open Go.RowKit Go.V Go.Proofs Go.Sort Go.Shelf
open Go.Proofs.Ytgfakkkiejeofaa.Ne (icod int_at box_new box_cell)

theorem wraps63 (n : Int) (h₀ : 0 ≤ n) (h₁ : n < 2 ^ 63) : IntKind.i64.wrap n = n := by rw [IntKind.wrap_i64]; omega
theorem low18 (a : Int) (h0 : 0 ≤ a) (h1 : a ≤ 34359738368) : bits .and .i64 a 262143 = a % 262144 := by
  have h := bits_mask .i64 63 (by decide) wraps63 18 (by decide) a h0 (by omega)
  have e : ((2 : Int) ^ 18 - 1) = 262143 := by decide
  have e2 : ((2 : Int) ^ 18) = 262144 := by decide
  rwa [e, e2] at h
theorem low1 (a : Int) (h0 : 0 ≤ a) (h1 : a ≤ 34359738368) : bits .and .i64 a 1 = a % 2 := by
  have h := bits_mask .i64 63 (by decide) wraps63 1 (by decide) a h0 (by omega)
  have e : ((2 : Int) ^ 1 - 1) = 1 := by decide
  have e2 : ((2 : Int) ^ 1) = 2 := by decide
  rwa [e, e2] at h

set_option maxHeartbeats 1000000 in
theorem times_any (a b c : Int) (w : World) (ha : 0 ≤ a ∧ a ≤ 34359738368) (hb : 0 ≤ b ∧ b ≤ 4294967296) (hbc : b ≤ c) (hc : 0 < c ∧ c ≤ 274877906944) :
    Calls Try.prog 25 #[.int .i64 a, .int .i64 b, .int .i64 c] w fun e w' => e = .returned (.tuple #[.int .i64 (tmsQ a b c), .int .u64 (tmsR a b c)]) ∧ ∃ n, w' = w.drewN n := by
  have hlo := low18 a ha.1 ha.2
  obtain ⟨L, hL⟩ : ∃ L, a % 262144 = L := ⟨_, rfl⟩
  have HLO := Lib.hid hL
  rw [hL] at hlo
  have hL2 : 0 ≤ L ∧ L < 262144 := by omega
  obtain ⟨H, hH⟩ : ∃ H, a / 262144 = H := ⟨_, rfl⟩
  have HH := Lib.hid hH
  have hH2 : 0 ≤ H ∧ H ≤ 131072 := by omega
  obtain ⟨M, hM⟩ : ∃ M, H * b = M := ⟨_, rfl⟩
  have hM2 : 0 ≤ M ∧ M ≤ 562949953421312 := by
    rw [← hM]
    have h1 := Int.mul_nonneg hH2.1 hb.1
    have h2 : H * b ≤ 131072 * b := Int.mul_le_mul_of_nonneg_right hH2.2 hb.1
    omega
  have HM := Lib.hid hM
  clear hL
  obtain ⟨a0, a1⟩ := ha
  obtain ⟨b0, b1⟩ := hb
  obtain ⟨c0, c1⟩ := hc
  obtain ⟨m0, m1⟩ := hM2
  go_enter Try.func25, Try.ntmps25
  go_wp2
  go_region
  go_wp2
  have HQ0 : Hid (tmsQ (a / 2 ^ 18) b c = M / c ∧ tmsR (a / 2 ^ 18) b c = M % c) := by
    have e : (2 : Int) ^ 18 = 262144 := by decide
    constructor
    · show tmsQ _ _ _ = _; unfold tmsQ; rw [e, HH.out, HM.out]
    · show tmsR _ _ _ = _; unfold tmsR; rw [e, HH.out, HM.out]
  clear hH hM hlo
  go_loop [10, 11, 12] (fun q r i => ∃ z : Int, i = .int .i64 z ∧ -1 ≤ z ∧ z ≤ 17 ∧ ∃ q1 r1 : Int, q = .int .i64 q1 ∧ r = .int .i64 r1 ∧ Hid (q1 = tmsQ (a / 2 ^ (z + 1).toNat) b c ∧ r1 = tmsR (a / 2 ^ (z + 1).toNat) b c)) (fun _ _ i => (intOf i + 1).toNat)
  case atStart => exact ⟨17, rfl, by omega, by omega, _, _, rfl, rfl, HQ0.out.1.symm, HQ0.out.2.symm⟩
  case round =>
    obtain ⟨z, rfl, z0, z1, q, r, rfl, rfl, HQR⟩ := hrel
    by_cases hz : 0 ≤ z
    · obtain ⟨k, rfl⟩ : ∃ k : Nat, z = k := ⟨z.toNat, by omega⟩
      have hk : k ≤ 17 := by omega
      have HA : 0 ≤ a / 2 ^ (k + 1) ∧ a / 2 ^ (k + 1) ≤ 34359738368 := by
        have hp : (0 : Int) < 2 ^ (k + 1) := Int.pow_pos (by omega)
        exact ⟨Int.ediv_nonneg a0 (by omega), by have := Int.ediv_le_self (b := 2 ^ (k + 1)) a0; omega⟩
      obtain ⟨q0, q1, r0, r1⟩ := tms_in HA.1 b0 hbc c0
      have e1 : ((k : Int) + 1).toNat = k + 1 := by omega
      have hQR := HQR.out
      rw [e1] at hQR
      rw [← hQR.1] at q0 q1
      rw [← hQR.2] at r0 r1
      have hst := tms_step (b := b) k a0 c0
      rw [← hQR.1, ← hQR.2] at hst
      clear HQR hQR e1
      have hlow := low_bit a k (by omega)
      rw [HLO.out] at hlow
      obtain ⟨d, hd⟩ : ∃ d, L / 2 ^ k = d := ⟨_, rfl⟩
      have hd2 : 0 ≤ d ∧ d ≤ 262144 := by
        rw [← hd]
        exact ⟨Int.ediv_nonneg hL2.1 (Int.pow_nonneg (by omega)), by have := Int.ediv_le_self (b := 2 ^ k) hL2.1; omega⟩
      have hl1 := low1 d hd2.1 (by omega)
      rw [hd] at hlow
      rw [← hlow] at hst
      have HD := Lib.hid hd
      have hq9 : q ≤ 34359738368 := by omega
      have e3 : ((k : Int) - 1 + 1).toNat = k := by omega
      have HE3 := Lib.hid e3
      have hcase : d % 2 = 1 ∨ d % 2 = 0 := by omega
      clear hlow HA e3
      rcases hcase with hd1 | hd1
      · rw [hd1] at hst hl1
        obtain ⟨t, ht⟩ : ∃ t, (r * 2 + b) / c = t := ⟨_, rfl⟩
        have ht2 : 0 ≤ t ∧ t ≤ 2 := by
          rw [← ht]
          exact ⟨Int.ediv_nonneg (by omega) (by omega), by have := Int.ediv_lt_of_lt_mul (a := r * 2 + b) (b := 3) c0 (by omega); omega⟩
        have HST : Hid (tmsQ (a / 2 ^ k) b c = q * 2 + t ∧ tmsR (a / 2 ^ k) b c = (r * 2 + b) % c) := by
          rw [show 2 * r + 1 * b = r * 2 + b by omega] at hst
          refine ⟨?_, hst.2⟩
          rw [hst.1, ht]; omega
        clear hst hd1
        go_wp2
        go_round
        case rel => exact ⟨(k : Int) - 1, rfl, by omega, by omega, _, _, rfl, rfl, by rw [HE3.out]; exact ⟨HST.out.1.symm, HST.out.2.symm⟩⟩
        case measure => simp [intOf] <;> omega
      · rw [hd1] at hst hl1
        obtain ⟨t, ht⟩ : ∃ t, (r * 2) / c = t := ⟨_, rfl⟩
        have ht2 : 0 ≤ t ∧ t ≤ 2 := by
          rw [← ht]
          exact ⟨Int.ediv_nonneg (by omega) (by omega), by have := Int.ediv_lt_of_lt_mul (a := r * 2) (b := 3) c0 (by omega); omega⟩
        have HST : Hid (tmsQ (a / 2 ^ k) b c = q * 2 + t ∧ tmsR (a / 2 ^ k) b c = (r * 2) % c) := by
          rw [show 2 * r + 0 * b = r * 2 by omega] at hst
          refine ⟨?_, hst.2⟩
          rw [hst.1, ht]; omega
        clear hst hd1
        go_wp2
        go_round
        case rel => exact ⟨(k : Int) - 1, rfl, by omega, by omega, _, _, rfl, rfl, by rw [HE3.out]; exact ⟨HST.out.1.symm, HST.out.2.symm⟩⟩
        case measure => simp [intOf] <;> omega
    · have hz1 : z = -1 := by omega
      subst hz1
      have HR : Hid (q = tmsQ a b c ∧ r = tmsR a b c) := by
        have := HQR.out
        have e : ((-1 : Int) + 1).toNat = 0 := rfl
        rw [e, Int.pow_zero, Int.ediv_one] at this
        exact this
      have hr := tms_in a0 b0 hbc c0
      rw [← HR.out.1, ← HR.out.2] at hr
      obtain ⟨-, -, r0, r1⟩ := hr
      clear HQR
      go_wp2
      go_ret2
      exact ⟨(show Ending.returned (.tuple #[.int .i64 q, .int .u64 r]) = _ by rw [HR.out.1, HR.out.2]), 1, rfl⟩
end Go.Proofs.Ytgfakkkiejeofaa.Ap

namespace Go.Proofs.Ytgfakkkiejeofaa.Ap
open Go.RowKit Go.V Go.Proofs Go.Sort Go.Shelf
open Go.Proofs.Ytgfakkkiejeofaa.Ne (icod int_at box_new box_cell)

theorem digits_at (a : Int) (b c : Int) (ha : 0 ≤ a ∧ a ≤ 34359738368) (hc : 0 < c) (k : Nat) (hk : k < 4) : ∃ d, (#[Value.int .i64 (a / 68719476736), .int .i64 (a / 16777216 % 4096), .int .i64 (a / 4096 % 4096), .int .i64 (a % 4096)] : Array Value)[k]? = some (.int .i64 d) ∧ 0 ≤ d ∧ d < 4096 ∧
    tmsQ (a / 4096 ^ (3 - k)) b c = 4096 * tmsQ (a / 4096 ^ (4 - k)) b c + (4096 * tmsR (a / 4096 ^ (4 - k)) b c + d * b) / c ∧ tmsR (a / 4096 ^ (3 - k)) b c = (4096 * tmsR (a / 4096 ^ (4 - k)) b c + d * b) % c := by
  have p3 : (4096 : Int) ^ 3 = 68719476736 := by decide
  have p2 : (4096 : Int) ^ 2 = 16777216 := by decide
  have p1 : (4096 : Int) ^ 1 = 4096 := by decide
  have h := tms_step4 (a := a) (b := b) (c := c) (3 - k) ha.1 hc
  rw [show 3 - k + 1 = 4 - k by omega] at h
  have hcase : k = 0 ∨ k = 1 ∨ k = 2 ∨ k = 3 := by omega
  rcases hcase with rfl | rfl | rfl | rfl
  · refine ⟨_, rfl, by omega, by omega, ?_⟩
    have e : a / 4096 ^ (3 - 0) % 4096 = a / 68719476736 := by show a / 4096 ^ 3 % 4096 = _; rw [p3]; omega
    rw [e] at h; exact h
  · refine ⟨_, rfl, by omega, by omega, ?_⟩
    have e : a / 4096 ^ (3 - 1) % 4096 = a / 16777216 % 4096 := by show a / 4096 ^ 2 % 4096 = _; rw [p2]
    rw [e] at h; exact h
  · refine ⟨_, rfl, by omega, by omega, ?_⟩
    have e : a / 4096 ^ (3 - 2) % 4096 = a / 4096 % 4096 := by show a / 4096 ^ 1 % 4096 = _; rw [p1]
    rw [e] at h; exact h
  · refine ⟨_, rfl, by omega, by omega, ?_⟩
    have e : a / 4096 ^ (3 - 3) % 4096 = a % 4096 := by show a / 4096 ^ 0 % 4096 = _; rw [Int.pow_zero, Int.ediv_one]
    rw [e] at h; exact h

set_option maxHeartbeats 1000000 in
theorem rtimes_any (a b c : Int) (w : World) (ha : 0 ≤ a ∧ a ≤ 34359738368) (hb : 0 ≤ b ∧ b ≤ 4294967296) (hbc : b ≤ c) (hc : 0 < c ∧ c ≤ 274877906944) :
    Calls Try.prog 24 #[.int .i64 a, .int .i64 b, .int .i64 c] w fun e w' => e = .returned (.tuple #[.int .i64 (tmsQ a b c), .int .i64 (tmsR a b c)]) ∧ Below w.heap.size w w' := by
  have HB := Lib.hid (box_new w (.cells #[.int .i64 (a / 68719476736), .int .i64 (a / 16777216 % 4096), .int .i64 (a / 4096 % 4096), .int .i64 (a % 4096)] 3))
  have HBel : Hid (Below w.heap.size w (w.alloc (.cells #[.int .i64 (a / 68719476736), .int .i64 (a / 16777216 % 4096), .int .i64 (a / 4096 % 4096), .int .i64 (a % 4096)] 3))) := (Below.refl _ _).alloc (Nat.le_refl _) _
  have HA := Lib.hid ha
  obtain ⟨a0, a1⟩ := ha
  obtain ⟨b0, b1⟩ := hb
  obtain ⟨c0, c1⟩ := hc
  go_enter Try.func24, Try.ntmps24
  go_wp2
  obtain ⟨W, hW⟩ : ∃ W, w.alloc (.cells #[.int .i64 (a / 68719476736), .int .i64 (a / 16777216 % 4096), .int .i64 (a / 4096 % 4096), .int .i64 (a % 4096)] 3) = W := ⟨_, rfl⟩
  rw [hW] at HB HBel ⊢
  clear hW
  have hbl := Ne.box_lt HB.out
  go_loop [9, 10, 11] (fun q r i => ∃ k : Nat, i = .int .i64 k ∧ k ≤ 4 ∧ ∃ q1 r1 : Int, q = .int .i64 q1 ∧ r = .int .i64 r1 ∧ Hid (q1 = tmsQ (a / 4096 ^ (4 - k)) b c ∧ r1 = tmsR (a / 4096 ^ (4 - k)) b c)) (fun _ _ i => 4 - (intOf i).toNat)
  case atStart =>
    have e : a / 4096 ^ (4 - 0) = 0 := by
      have : (4096 : Int) ^ (4 - 0) = 281474976710656 := by decide
      rw [this]; omega
    refine ⟨0, rfl, by omega, 0, 0, rfl, rfl, ?_⟩
    constructor
    · rw [e]; unfold tmsQ; simp
    · rw [e]; unfold tmsR; simp
  case round =>
    obtain ⟨k, rfl, hk, q, r, rfl, rfl, HQR⟩ := hrel
    by_cases hlt : k < 4
    · obtain ⟨d, hd, d0, d1, hst⟩ := digits_at a b c HA.out c0 k hlt
      have hcell : W.cell? ⟨w.heap.size, k, none⟩ = some (.int .i64 d) := by rw [(box_cell HB.out k).1]; exact hd
      have hA : 0 ≤ a / 4096 ^ (4 - k) ∧ a / 4096 ^ (4 - k) ≤ 34359738368 := by
        have hp : (0 : Int) < 4096 ^ (4 - k) := Int.pow_pos (by omega)
        exact ⟨Int.ediv_nonneg a0 (by omega), by have := Int.ediv_le_self (b := 4096 ^ (4 - k)) a0; omega⟩
      obtain ⟨q0, q1, r0, r1⟩ := tms_in hA.1 b0 hbc c0
      rw [← HQR.out.1] at q0 q1
      rw [← HQR.out.2] at r0 r1
      rw [← HQR.out.1, ← HQR.out.2] at hst
      obtain ⟨m, hm⟩ : ∃ m, d * b = m := ⟨_, rfl⟩
      have hm2 : 0 ≤ m ∧ m ≤ 17592186044416 := by
        rw [← hm]
        have h1 := Int.mul_nonneg d0 b0
        have h2 : d * b ≤ 4096 * b := Int.mul_le_mul_of_nonneg_right (by omega) b0
        omega
      rw [hm] at hst
      obtain ⟨t, ht⟩ : ∃ t, (r * 4096 + m) / c = t := ⟨_, rfl⟩
      have ht2 : 0 ≤ t ∧ t ≤ 8192 := by
        rw [← ht]
        have hmc : m ≤ 4096 * c := by
          rw [← hm]
          have h1 : d * b ≤ 4096 * b := Int.mul_le_mul_of_nonneg_right (by omega) b0
          omega
        exact ⟨Int.ediv_nonneg (by omega) (by omega), by have := Int.ediv_lt_of_lt_mul (a := r * 4096 + m) (b := 8192) c0 (by omega); omega⟩
      have HST : Hid (tmsQ (a / 4096 ^ (3 - k)) b c = q * 4096 + t ∧ tmsR (a / 4096 ^ (3 - k)) b c = (r * 4096 + m) % c) := by
        rw [show 4096 * r + m = r * 4096 + m by omega] at hst
        refine ⟨?_, hst.2⟩
        rw [hst.1, ht]; omega
      have hq9 : q ≤ 34359738368 := by omega
      obtain ⟨m0, m1⟩ := hm2
      obtain ⟨t0, t1⟩ := ht2
      clear hst hA HQR hd
      go_wp2
      go_round
      case rel => exact ⟨k + 1, by go_num, by omega, _, _, rfl, rfl, by rw [show 4 - (k + 1) = 3 - k by omega]; exact ⟨HST.out.1.symm, HST.out.2.symm⟩⟩
      case measure => simp [intOf] <;> omega
    · have hk4 : k = 4 := by omega
      subst hk4
      have HR : Hid (q = tmsQ a b c ∧ r = tmsR a b c) := by
        have := HQR.out
        rw [Nat.sub_self, Int.pow_zero, Int.ediv_one] at this
        exact this
      clear HQR
      go_wp2
      go_ret2
      exact ⟨(show Ending.returned (.tuple #[.int .i64 q, .int .i64 r]) = _ by rw [HR.out.1, HR.out.2]), HBel.out⟩
end Go.Proofs.Ytgfakkkiejeofaa.Ap
