/- Disputes: each ride's part: what it is, in plain Lean. -/
import Derived.Test.YtgdhlhjflbinmaaDiD
namespace Go.Proofs.Ytgdhlhjflbinmaa
open Go.RowKit Go.V Go.Sort Go.Shelf Go.Proofs Go.Maps

def mapOf (l : List (Int × Int)) : Int → Int := l.foldl (fun f p => fun j => if j = p.1 then p.2 else f j) (fun _ => 0)
theorem mapOf_snoc (l : List (Int × Int)) (k y : Int) : mapOf (l ++ [(k, y)]) = fun j => if j = k then y else mapOf l j := by simp [mapOf, List.foldl_append]

def part0 (S P price : Int) : Int := if 0 < S then P * price / S else 0
def partF (gs : List Grp) (S P : Int) (i : Nat) : Int := part0 S P (gs.getD i default).price
def sumF (f : Nat → Int) : Nat → Int
  | 0 => 0
  | k + 1 => sumF f k + f k
/-- A group's part: the first one takes what is left. -/
def partOfG (gs : List Grp) (S P : Int) (i : Nat) : Int := partF gs S P i + (if i = 0 then P - sumF (partF gs S P) gs.length else 0)
def dueG (gs : List Grp) (S P : Int) (i : Nat) : List (Int × Int) := (gs.getD i default).trips.zip (splitL (partOfG gs S P i) (gs.getD i default).trips.length)
def duesTo (gs : List Grp) (S P : Int) : Nat → List (Int × Int)
  | 0 => []
  | k + 1 => duesTo gs S P k ++ dueG gs S P k
def splR (t : Tar) (c : Int) (l : List Ride) : List Int := if monthE t c l = 0 then l.map fun r => mapOf (duesTo (billG t c l) (billS t c l) (billP t c l) (billG t c l).length) r.t else []

/-- What is so of a month's groups. -/
structure GrpsOk (gs : List Grp) (S P : Int) : Prop where
  len : gs.length ≤ 2048
  each : ∀ g ∈ gs, (1 ≤ g.trips.length ∧ g.trips.length ≤ 16) ∧ 0 ≤ g.price ∧ g.price ≤ 16777216
  sum : S = sumG gs
  pay : 0 ≤ P ∧ P ≤ S
theorem GrpsOk.at {gs : List Grp} {S P : Int} (h : GrpsOk gs S P) {i : Nat} (hi : i < gs.length) : ∃ g, gs[i]? = some g ∧ gs.getD i default = g ∧ (1 ≤ g.trips.length ∧ g.trips.length ≤ 16) ∧ 0 ≤ g.price ∧ g.price ≤ 16777216 := by
  refine ⟨gs[i], List.getElem?_eq_getElem hi, by rw [List.getD_eq_getElem?_getD, List.getElem?_eq_getElem hi]; rfl, h.each _ (List.getElem_mem hi)⟩
theorem GrpsOk.top {gs : List Grp} {S P : Int} (h : GrpsOk gs S P) : 0 ≤ S ∧ S ≤ 34359738368 := by
  have h1 := sumG_in gs (fun g hg => (h.each g hg).2)
  have := h.len
  rw [h.sum]; omega
theorem part0_in {S P p : Int} (hP : 0 ≤ P ∧ P ≤ S) (hp : 0 ≤ p) : 0 ≤ part0 S P p ∧ part0 S P p ≤ p ∧ S * part0 S P p ≤ P * p := by
  unfold part0
  by_cases h : 0 < S
  · rw [if_pos h]
    have h1 : 0 ≤ P * p := Int.mul_nonneg hP.1 hp
    have h2 : P * p ≤ S * p := Int.mul_le_mul_of_nonneg_right hP.2 hp
    refine ⟨Int.ediv_nonneg h1 (by omega), ?_, Int.mul_ediv_self_le (by omega)⟩
    have h3 := Int.ediv_le_ediv h h2
    rwa [Int.mul_ediv_cancel_left _ (by omega)] at h3
  · rw [if_neg h]
    have : S = 0 := by omega
    have : P = 0 := by omega
    subst this
    simp; exact hp
theorem sumF_in {gs : List Grp} {S P : Int} (h : GrpsOk gs S P) : ∀ k, k ≤ gs.length → 0 ≤ sumF (partF gs S P) k ∧ sumF (partF gs S P) k ≤ (k : Int) * 16777216 ∧ S * sumF (partF gs S P) k ≤ P * sumG (gs.take k)
  | 0, _ => by simp [sumF, sumG]
  | k + 1, hk => by
    obtain ⟨h1, h2, h3⟩ := sumF_in h k (by omega)
    obtain ⟨g, hg, e, -, q1, q2⟩ := h.at (i := k) (by omega)
    obtain ⟨p1, p2, p3⟩ := part0_in h.pay q1
    have e1 : partF gs S P k = part0 S P g.price := by unfold partF; rw [e]
    rw [sumG_take gs k g hg]
    simp only [sumF, e1]
    refine ⟨by omega, by push_cast; omega, ?_⟩
    rw [Int.mul_add, Int.mul_add]; omega
theorem sumF_le {gs : List Grp} {S P : Int} (h : GrpsOk gs S P) : sumF (partF gs S P) gs.length ≤ P := by
  obtain ⟨h1, h2, h3⟩ := sumF_in h gs.length (Nat.le_refl _)
  rw [List.take_of_length_le (Nat.le_refl _), ← h.sum] at h3
  by_cases hS : 0 < S
  · rw [Int.mul_comm P S] at h3
    exact Int.le_of_mul_le_mul_left h3 hS
  · have hS0 : S = 0 := by have := h.pay; omega
    have hP0 : P = 0 := by have := h.pay; omega
    have : ∀ k, sumF (partF gs S P) k = 0 := by
      intro k
      induction k with
      | zero => rfl
      | succ k ih =>
        show sumF (partF gs S P) k + partF gs S P k = 0
        rw [ih]; simp [partF, part0, hS0]
    rw [this]; omega
theorem partOfG_in {gs : List Grp} {S P : Int} (h : GrpsOk gs S P) {i : Nat} (hi : i < gs.length) : 0 ≤ partOfG gs S P i ∧ partOfG gs S P i ≤ 68719476736 := by
  obtain ⟨g, hg, e, -, q1, q2⟩ := h.at hi
  obtain ⟨p1, p2, -⟩ := part0_in h.pay q1
  have e1 : partF gs S P i = part0 S P g.price := by unfold partF; rw [e]
  have h1 := sumF_le h
  have h2 := (sumF_in h gs.length (Nat.le_refl _)).1
  have h3 := h.top
  have h4 := h.pay
  unfold partOfG
  rw [e1]
  split <;> omega
theorem splitL_in {p : Int} {n k : Nat} {y : Int} (hp : 0 ≤ p) (hn : 1 ≤ n) (h : (splitL p n)[k]? = some y) : 0 ≤ y ∧ y ≤ p + 1 := by
  have hk : k < n := by have := (List.getElem?_eq_some_iff.1 h).1; rwa [splitL_len] at this
  rw [splitL_at p n k hk] at h
  cases h
  have h1 : 0 ≤ p / (n : Int) := Int.ediv_nonneg hp (by omega)
  have h2 : p / (n : Int) ≤ p := Int.ediv_le_self _ hp
  split <;> omega
theorem dueG_len {gs : List Grp} {S P : Int} {i : Nat} : (dueG gs S P i).length = (gs.getD i default).trips.length := by
  unfold dueG; rw [List.length_zip, splitL_len, Nat.min_self]
theorem duesTo_len {gs : List Grp} {S P : Int} (h : GrpsOk gs S P) : ∀ k, k ≤ gs.length → (duesTo gs S P k).length ≤ k * 16
  | 0, _ => by simp [duesTo]
  | k + 1, hk => by
    have h1 := duesTo_len h k (by omega)
    obtain ⟨g, hg, e, q, -⟩ := h.at (i := k) (by omega)
    simp only [duesTo, List.length_append, dueG_len, e]; omega

/-- A month's groups are so. -/
theorem month_ok {t : Tar} {c : Int} {l : List Ride} (h : monthE t c l = 0) : GrpsOk (billG t c l) (billS t c l) (billP t c l) ∧ l.length ≤ 2048 ∧ ((billG t c l).flatMap Grp.trips).Perm (l.map Ride.t) ∧ (l.map Ride.t).Nodup := by
  have hp : MonthP t c := by
    by_cases hp : MonthP t c
    · exact hp
    · unfold monthE at h; rw [if_neg hp] at h; cases h
  have hg0 : groupsE l t.window t.chain = 0 := by unfold monthE at h; rwa [if_pos hp] at h
  have hl : l.length ≤ 2048 := by
    unfold groupsE at hg0
    by_cases hl : l.length ≤ 2048
    · exact hl
    · rw [if_neg hl] at hg0; cases hg0
  have hP : GroupsP l t.window t.chain := by
    unfold groupsE at hg0
    rw [if_pos hl] at hg0
    by_cases hP : GroupsP l t.window t.chain
    · exact hP
    · rw [if_neg hP] at hg0; cases hg0
  have hR : groupsR l t.window t.chain = groupsOf t.window t.chain (isort ltR l) := by unfold groupsR; rw [if_pos hP]
  have h0 : (c.toNat : Int) = c := Int.toNat_of_nonneg hp.2.1
  have hb := bill_all (t := t) (a := c.toNat) (l := l) hl (by rw [h0]; exact h)
  rw [h0] at hb
  obtain ⟨-, -, h3, h4, h5, h6, h7, -⟩ := hb
  have hbG : billG t c l = (groupsR l t.window t.chain).map (grpOf t (t.shares.getD c.toNat 0)) := by unfold billG grpsOf; rw [if_pos h]
  have hgood := groups_good hP.2.1.1 hP.2.2.1 (window := t.window) (isort ltR l)
  refine ⟨⟨by omega, fun g hg => ⟨?_, (h3 g hg).2⟩, h4, h6, h7⟩, hl, ?_, hP.1.2.2⟩
  · rw [hbG] at hg
    obtain ⟨x, hx, rfl⟩ := List.mem_map.1 hg
    rw [hR] at hx
    obtain ⟨g1, g2, -⟩ := hgood x hx
    have := List.length_pos_iff.2 g1
    have := hP.2.2.2
    show 1 ≤ (x.map Ride.t).length ∧ (x.map Ride.t).length ≤ 16
    rw [List.length_map]; omega
  · rw [hbG, hR]
    have e : ∀ gs : List (List Ride), (gs.map (grpOf t (t.shares.getD c.toNat 0))).flatMap Grp.trips = gs.flatten.map Ride.t := by
      intro gs
      induction gs with
      | nil => rfl
      | cons x gs ih => rw [List.map_cons, List.flatMap_cons, ih, List.flatten_cons, List.map_append]; rfl
    rw [e, groups_flat]
    exact (isort_perm l).map _

/-! ### The parts are what is to be paid -/

def sumI : List Int → Int
  | [] => 0
  | x :: l => x + sumI l
theorem sumI_append : ∀ a b : List Int, sumI (a ++ b) = sumI a + sumI b
  | [], b => by simp [sumI]
  | x :: a, b => by rw [List.cons_append]; simp only [sumI]; rw [sumI_append a b]; omega
theorem sumI_perm {a b : List Int} (h : a.Perm b) : sumI a = sumI b := by
  induction h with
  | nil => rfl
  | cons x _ ih => simp only [sumI]; omega
  | swap x y l => simp only [sumI]; omega
  | trans _ _ h1 h2 => omega
theorem sumI_take (l : List Int) (k : Nat) (y : Int) (h : l[k]? = some y) : sumI (l.take (k + 1)) = sumI (l.take k) + y := by rw [take_at h, sumI_append]; simp [sumI]
theorem sumI_range (q m : Int) : ∀ n : Nat, 0 ≤ m → sumI ((List.range n).map fun k : Nat => q + (if (k : Int) < m then 1 else 0)) = (n : Int) * q + min (n : Int) m
  | 0, hm => by simp [sumI]; omega
  | n + 1, hm => by
    rw [List.range_succ, List.map_append, sumI_append, sumI_range q m n hm]
    simp only [List.map_cons, List.map_nil, sumI]
    have e : ((n + 1 : Nat) : Int) * q = (n : Int) * q + q := by push_cast; rw [Int.add_mul]; omega
    rw [e]
    split <;> (push_cast; omega)
theorem sumI_splitL {p : Int} {n : Nat} (hn : 1 ≤ n) : sumI (splitL p n) = p := by
  have h1 : 0 ≤ p % (n : Int) := Int.emod_nonneg _ (by omega)
  have h2 : p % (n : Int) < (n : Int) := Int.emod_lt_of_pos _ (by omega)
  unfold splitL
  rw [sumI_range _ _ _ h1, Int.min_eq_right (by omega)]
  exact Int.mul_ediv_add_emod p n

theorem fold_keep (k : Int) : ∀ (l : List (Int × Int)) (f : Int → Int), k ∉ l.map Prod.fst → l.foldl (fun f p => fun j => if j = p.1 then p.2 else f j) f k = f k
  | [], _, _ => rfl
  | p :: l, f, h => by
    rw [List.map_cons, List.mem_cons, not_or] at h
    rw [List.foldl_cons, fold_keep k l _ h.2]
    show (if k = p.1 then p.2 else f k) = f k
    rw [if_neg h.1]
theorem fold_hit (k y : Int) : ∀ (l : List (Int × Int)) (f : Int → Int), (l.map Prod.fst).Nodup → (k, y) ∈ l → l.foldl (fun f p => fun j => if j = p.1 then p.2 else f j) f k = y
  | [], _, _, h => by simp at h
  | p :: l, f, hn, h => by
    rw [List.map_cons, List.nodup_cons] at hn
    rw [List.foldl_cons]
    rcases List.mem_cons.1 h with e | e
    · subst e
      rw [fold_keep k l _ hn.1]
      simp
    · exact fold_hit k y l _ hn.2 e
theorem mapOf_mem {l : List (Int × Int)} (hn : (l.map Prod.fst).Nodup) {k y : Int} (h : (k, y) ∈ l) : mapOf l k = y := fold_hit k y l _ hn h

theorem duesTo_keys {gs : List Grp} {S P : Int} : ∀ k, k ≤ gs.length → (duesTo gs S P k).map Prod.fst = (gs.take k).flatMap Grp.trips
  | 0, _ => by simp [duesTo]
  | k + 1, hk => by
    have hg : gs[k]? = some gs[k] := List.getElem?_eq_getElem (by omega)
    have e : gs.getD k default = gs[k] := by rw [List.getD_eq_getElem?_getD, hg]; rfl
    simp only [duesTo]
    rw [List.map_append, duesTo_keys k (by omega), take_at hg, List.flatMap_append]
    congr 1
    unfold dueG
    rw [e, List.map_fst_zip (by rw [splitL_len]; exact Nat.le_refl _)]
    simp
theorem sumF_partOf {gs : List Grp} {S P : Int} (h : GrpsOk gs S P) : ∀ k, 1 ≤ k → k ≤ gs.length → sumF (partOfG gs S P) k = sumF (partF gs S P) k + (P - sumF (partF gs S P) gs.length)
  | 0, h1, _ => by omega
  | 1, _, _ => by simp [sumF, partOfG]
  | k + 2, _, hk => by
    have ih := sumF_partOf h (k + 1) (by omega) (by omega)
    have e : partOfG gs S P (k + 1) = partF gs S P (k + 1) := by unfold partOfG; rw [if_neg (by omega), Int.add_zero]
    show sumF (partOfG gs S P) (k + 1) + partOfG gs S P (k + 1) = sumF (partF gs S P) (k + 1) + partF gs S P (k + 1) + _
    rw [ih, e]; omega
theorem duesTo_sum {gs : List Grp} {S P : Int} (h : GrpsOk gs S P) : ∀ k, k ≤ gs.length → sumI ((duesTo gs S P k).map Prod.snd) = sumF (partOfG gs S P) k
  | 0, _ => rfl
  | k + 1, hk => by
    obtain ⟨g, hg, e, q, -⟩ := h.at (i := k) (by omega)
    simp only [duesTo, sumF]
    rw [List.map_append, sumI_append, duesTo_sum h k (by omega)]
    congr 1
    unfold dueG
    rw [e, List.map_snd_zip (by rw [splitL_len]; exact Nat.le_refl _), sumI_splitL q.1]
theorem dues_in {gs : List Grp} {S P : Int} (h : GrpsOk gs S P) : ∀ k, k ≤ gs.length → ∀ x ∈ duesTo gs S P k, 0 ≤ x.2 ∧ x.2 ≤ 68719476737
  | 0, _ => fun x hx => by simp [duesTo] at hx
  | k + 1, hk => by
    intro x hx
    simp only [duesTo] at hx
    rcases List.mem_append.1 hx with hx | hx
    · exact dues_in h k (by omega) x hx
    · obtain ⟨g, hg, e, q, -⟩ := h.at (i := k) (by omega)
      obtain ⟨y1, y2⟩ := partOfG_in h (i := k) (by omega)
      unfold dueG at hx
      have hm : x.2 ∈ splitL (partOfG gs S P k) (gs.getD k default).trips.length := (List.of_mem_zip (show (x.1, x.2) ∈ _ from hx)).2
      obtain ⟨j, hj⟩ := List.mem_iff_getElem?.1 hm
      have := splitL_in y1 (by rw [e]; exact q.1) hj
      omega
/-- What each ride's part is, and what they are together. -/
theorem split_all {t : Tar} {c : Int} {l : List Ride} (h : monthE t c l = 0) : (splR t c l).length = l.length ∧ l.length ≤ 2048 ∧ (∀ y ∈ splR t c l, 0 ≤ y ∧ y ≤ 68719476737) ∧ sumI (splR t c l) = billP t c l := by
  obtain ⟨hG, hl, hp, hnd⟩ := month_ok h
  have hs : splR t c l = l.map fun r => mapOf (duesTo (billG t c l) (billS t c l) (billP t c l) (billG t c l).length) r.t := by unfold splR; rw [if_pos h]
  generalize billG t c l = gs at hG hp hs
  generalize billS t c l = S at hG hs
  generalize billP t c l = P at hG hs ⊢
  have hk := duesTo_keys (gs := gs) (S := S) (P := P) gs.length (Nat.le_refl _)
  rw [List.take_of_length_le (Nat.le_refl _)] at hk
  have hkn : ((duesTo gs S P gs.length).map Prod.fst).Nodup := by rw [hk]; exact hp.nodup_iff.2 hnd
  have h2 := dues_in hG gs.length (Nat.le_refl _)
  have h3 := duesTo_sum hG gs.length (Nat.le_refl _)
  have hv : ((duesTo gs S P gs.length).map Prod.fst).map (mapOf (duesTo gs S P gs.length)) = (duesTo gs S P gs.length).map Prod.snd := by
    rw [List.map_map]
    apply List.map_congr_left
    intro x hx
    exact mapOf_mem hkn (show (x.1, x.2) ∈ _ from hx)
  have hperm : (splR t c l).Perm ((duesTo gs S P gs.length).map Prod.snd) := by
    rw [hs, ← hv, hk, show (fun r : Ride => mapOf (duesTo gs S P gs.length) r.t) = mapOf (duesTo gs S P gs.length) ∘ Ride.t from rfl, ← List.map_map]
    exact hp.symm.map _
  refine ⟨by rw [hs, List.length_map], hl, fun y hy => ?_, ?_⟩
  · obtain ⟨x, hx, rfl⟩ := List.mem_map.1 (hperm.mem_iff.1 hy)
    exact h2 x hx
  · rw [sumI_perm hperm, h3]
    by_cases h0 : gs.length = 0
    · have hnil : gs = [] := List.eq_nil_of_length_eq_zero h0
      have hS := hG.sum
      have hP := hG.pay
      rw [hnil] at hS ⊢
      simp only [sumG] at hS
      simp only [List.length_nil, sumF]; omega
    · rw [sumF_partOf hG gs.length (by omega) (Nat.le_refl _)]; omega
theorem sumI_in : ∀ (l : List Int) (b : Int), 0 ≤ b → (∀ y ∈ l, 0 ≤ y ∧ y ≤ b) → 0 ≤ sumI l ∧ sumI l ≤ l.length * b
  | [], b, _, _ => by simp [sumI]
  | x :: l, b, hb, h => by
    have h1 := h x (by simp)
    have h2 := sumI_in l b hb (fun y hy => h y (by simp [hy]))
    simp only [sumI, List.length_cons]
    have e : ((l.length + 1 : Nat) : Int) * b = (l.length : Int) * b + b := by push_cast; rw [Int.add_mul]; omega
    rw [e]; omega
end Go.Proofs.Ytgdhlhjflbinmaa
