/- Grids: what is found, plain: each once, whichever way it was looked for. -/
import Derived.Test.YtknbpnkonhniiaaGrM
import Derived.Test.YtknbpnkonhniiaaGrJ
namespace Go.Proofs.Ytknbpnkonhniiaa.Ne
open Go.RowKit Go.V Go.Proofs

/-- Each stop that is near enough, once. -/
def GoodL (p : Stp) (S : List Stp) (m : Int) (L : List Fnd) : Prop := L.Nodup ∧ ∀ f, f ∈ L ↔ ∃ k : Nat, k < S.length ∧ f = fnd p S (k : Int) ∧ f.sq ≤ m
theorem mem_amE {p : Stp} {S : List Stp} {m : Int} {l : List Int} {f : Fnd} : f ∈ amE p S m l ↔ ∃ i ∈ l, f = fnd p S i ∧ f.sq ≤ m := by
  unfold amE
  rw [List.mem_filter, List.mem_map, decide_eq_true_iff]
  constructor
  · rintro ⟨⟨i, hi, rfl⟩, h⟩; exact ⟨i, hi, rfl, h⟩
  · rintro ⟨i, hi, rfl, h⟩; exact ⟨⟨i, hi, rfl⟩, h⟩
theorem amE_nodup {p : Stp} {S : List Stp} {m : Int} {l : List Int} (h : l.Nodup) : (amE p S m l).Nodup := by
  unfold amE
  refine List.Nodup.sublist List.filter_sublist ?_
  unfold List.Nodup
  rw [List.pairwise_map]
  exact List.Pairwise.imp (fun {a b} hab e => hab (congrArg Fnd.stop e)) h
theorem good_of {p : Stp} {S : List Stp} {m : Int} {l : List Int} (hl : l.Nodup) (h1 : ∀ i ∈ l, ∃ j : Nat, i = (j : Int) ∧ j < S.length) (h2 : ∀ k : Nat, k < S.length → (fnd p S (k : Int)).sq ≤ m → (k : Int) ∈ l) : GoodL p S m (amE p S m l) := by
  refine ⟨amE_nodup hl, fun f => ?_⟩
  rw [mem_amE]
  constructor
  · rintro ⟨i, hi, rfl, h⟩
    obtain ⟨j, rfl, hj⟩ := h1 i hi
    exact ⟨j, hj, rfl, h⟩
  · rintro ⟨k, hk, rfl, h⟩
    exact ⟨k, h2 k hk h, rfl, h⟩
def upL (n : Nat) : List Int := (List.range n).map fun i : Nat => (i : Int)
theorem good_all (p : Stp) (S : List Stp) (m : Int) : GoodL p S m (amE p S m (upL S.length)) := by
  refine good_of ?_ ?_ ?_
  · unfold upL List.Nodup
    rw [List.pairwise_map]
    have h : List.Pairwise (fun a b : Nat => a ≠ b) (List.range S.length) := List.nodup_range
    refine h.imp ?_
    intro a b hab e
    exact hab (by omega)
  · intro i hi
    obtain ⟨j, hj, rfl⟩ := List.mem_map.1 hi
    exact ⟨j, rfl, List.mem_range.1 hj⟩
  · intro k hk _
    exact List.mem_map.2 ⟨k, List.mem_range.2 hk, rfl⟩

/-! ### by cells -/
def cellsL (S : List Stp) (z X Y : Int) (cs : List (Int × Int)) : List Int := cs.flatMap fun c => idxs S z (X + c.1) (Y + c.2)
theorem zipIdx_pair (S : List Stp) : S.zipIdx.Pairwise fun a b => a.2 < b.2 := by
  have : (S.zipIdx.map Prod.snd).Pairwise (· < ·) := by
    rw [List.zipIdx_map_snd]
    exact List.pairwise_lt_range'
  rwa [List.pairwise_map] at this
theorem idxs_nodup (S : List Stp) (z X Y : Int) : (idxs S z X Y).Nodup := by
  unfold idxs List.Nodup
  rw [List.pairwise_map]
  exact List.Pairwise.sublist List.filter_sublist ((zipIdx_pair S).imp fun {a b} hab e => by omega)
theorem nodupB_eq : ∀ l : List (Int × Int), nodupB l = true → l.Nodup
  | [], _ => List.nodup_nil
  | x :: xs, h => by
    unfold nodupB at h
    rw [Bool.and_eq_true, List.all_eq_true] at h
    rw [List.nodup_cons]
    refine ⟨fun hx => ?_, nodupB_eq xs h.2⟩
    have := h.1 x hx
    simp at this
theorem square_nodup {R : Nat} (hR : R ≤ 6) : (squareL R).Nodup := nodupB_eq _ (List.all_eq_true.1 nodupB_all R (List.mem_range.2 (by omega)))
theorem square_mem {R : Nat} (hR : R ≤ 6) {a b : Int} (ha : -(R : Int) ≤ a ∧ a ≤ R) (hb : -(R : Int) ≤ b ∧ b ≤ R) : (a, b) ∈ squareL R := by
  have := List.all_eq_true.1 (List.all_eq_true.1 coverB_all R (List.mem_range.2 (by omega))) (a, b) (by
    unfold gridB
    rw [List.mem_flatMap]
    refine ⟨(a + R).toNat, List.mem_range.2 (by omega), List.mem_map.2 ⟨(b + R).toNat, List.mem_range.2 (by omega), ?_⟩⟩
    rw [Int.toNat_of_nonneg (by omega), Int.toNat_of_nonneg (by omega)]
    simp)
  obtain ⟨⟨y1, y2⟩, hy, h⟩ := List.any_eq_true.1 this
  simp at h
  obtain ⟨rfl, rfl⟩ := h
  exact hy
theorem square_small {R : Nat} (hR : R ≤ 6) {c : Int × Int} (h : c ∈ squareL R) : -6 ≤ c.1 ∧ c.1 ≤ 6 ∧ -6 ≤ c.2 ∧ c.2 ≤ 6 := by
  have := List.all_eq_true.1 (List.all_eq_true.1 smallB_all R (List.mem_range.2 (by omega))) c h
  simp at this
  omega
theorem cellsL_nodup {S : List Stp} {z X Y : Int} {cs : List (Int × Int)} (h : cs.Nodup) : (cellsL S z X Y cs).Nodup := by
  unfold cellsL List.Nodup
  rw [List.pairwise_flatMap]
  refine ⟨fun c _ => idxs_nodup S z _ _, List.Pairwise.imp (fun {a b} hab x hx y hy e => ?_) h⟩
  subst e
  obtain ⟨k, s, rfl, h1, h2, h3⟩ := mem_idxs.1 hx
  obtain ⟨k', s', e, h1', h2', h3'⟩ := mem_idxs.1 hy
  have : k = k' := by omega
  subst this
  rw [h1] at h1'
  cases h1'
  exact hab (Prod.ext (by omega) (by omega))
theorem abs_le_of_sq {a b : Int} {r : Int} (hr : 0 ≤ r) (hb : 0 ≤ b) (h : a * a + b ≤ r * r) : -r ≤ a ∧ a ≤ r := by
  constructor
  · rcases Int.lt_or_le a (-r) with q | q
    · have h1 : r + 1 ≤ -a := by omega
      have h2 := Int.mul_le_mul h1 h1 (by omega) (by omega)
      rw [Int.neg_mul_neg, Int.add_mul, Int.mul_add] at h2
      omega
    · exact q
  · rcases Int.lt_or_le r a with q | q
    · have h1 : r + 1 ≤ a := by omega
      have h2 := Int.mul_le_mul h1 h1 (by omega) (by omega)
      rw [Int.add_mul, Int.mul_add] at h2
      omega
    · exact q
theorem div_near {x y z r : Int} (hz : 1 ≤ z) (h : -r ≤ x - y ∧ x - y ≤ r) : -(r / z + 1) ≤ y / z - x / z ∧ y / z - x / z ≤ r / z + 1 := by
  have hz0 : 0 < z := by omega
  have a1 := Int.mul_ediv_add_emod x z
  have a2 := Int.emod_nonneg x (show z ≠ 0 by omega)
  have a3 := Int.emod_lt_of_pos x hz0
  have b1 := Int.mul_ediv_add_emod y z
  have b2 := Int.emod_nonneg y (show z ≠ 0 by omega)
  have b3 := Int.emod_lt_of_pos y hz0
  have c1 := Int.mul_ediv_add_emod r z
  have c2 := Int.emod_nonneg r (show z ≠ 0 by omega)
  have c3 := Int.emod_lt_of_pos r hz0
  generalize x / z = X at *
  generalize y / z = Y at *
  generalize r / z = R at *
  constructor
  · rcases Int.lt_or_le (Y - X) (-(R + 1)) with q | q
    · have : z * (Y - X) ≤ z * (-(R + 2)) := Int.mul_le_mul_of_nonneg_left (by omega) (by omega)
      rw [Int.mul_sub, Int.mul_neg, Int.mul_add] at this
      omega
    · omega
  · rcases Int.lt_or_le (R + 1) (Y - X) with q | q
    · have : z * (R + 2) ≤ z * (Y - X) := Int.mul_le_mul_of_nonneg_left (by omega) (by omega)
      rw [Int.mul_sub, Int.mul_add] at this
      omega
    · omega
theorem good_cells {p : Stp} {S : List Stp} {z reach : Int} {R : Nat} (hp : stpB p = true) (hS : ∀ s ∈ S, stpB s = true) (hz : 1 ≤ z) (hr : 0 ≤ reach) (hR : (R : Int) = reach / z + 1) (h6 : R ≤ 6) :
    GoodL p S (reach * reach) (amE p S (reach * reach) (cellsL S z (p.x / z) (p.y / z) (squareL R))) := by
  refine good_of (cellsL_nodup (square_nodup h6)) ?_ ?_
  · intro i hi
    obtain ⟨c, -, hc⟩ := List.mem_flatMap.1 hi
    obtain ⟨k, s, rfl, h1, -⟩ := mem_idxs.1 hc
    exact ⟨k, rfl, (List.getElem?_eq_some_iff.1 h1).1⟩
  · intro k hk hsq
    have hs : S[k]? = some S[k] := List.getElem?_eq_getElem hk
    have e : fnd p S (k : Int) = ⟨k, sqE p S[k]⟩ := by
      unfold fnd
      rw [Int.toNat_natCast, List.getD_eq_getElem?_getD, hs]; rfl
    rw [e] at hsq
    obtain ⟨s, hse⟩ : ∃ s, S[k] = s := ⟨_, rfl⟩
    rw [hse] at hs hsq
    have hsb := hS s (List.mem_of_getElem? hs)
    have hsq : (p.x - s.x) * (p.x - s.x) + (p.y - s.y) * (p.y - s.y) ≤ reach * reach := by
      have : sqE p s ≤ reach * reach := hsq
      unfold sqE at this
      rwa [if_pos ⟨hp, hsb⟩] at this
    have nn : ∀ a : Int, 0 ≤ a * a := fun a => by
      rcases Int.le_total 0 a with h | h
      · exact Int.mul_nonneg h h
      · have := Int.mul_nonneg (show 0 ≤ -a by omega) (show 0 ≤ -a by omega)
        rwa [Int.neg_mul_neg] at this
    have hx := div_near hz (abs_le_of_sq hr (nn (p.y - s.y)) hsq)
    have hy := div_near hz (abs_le_of_sq hr (nn (p.x - s.x)) (by rw [Int.add_comm]; exact hsq))
    unfold cellsL
    rw [List.mem_flatMap]
    refine ⟨(s.x / z - p.x / z, s.y / z - p.y / z), square_mem h6 (by omega) (by omega), ?_⟩
    rw [mem_idxs]
    exact ⟨k, s, rfl, hs, by show s.x / z = p.x / z + (s.x / z - p.x / z); omega, by show s.y / z = p.y / z + (s.y / z - p.y / z); omega⟩
end Go.Proofs.Ytknbpnkonhniiaa.Ne
