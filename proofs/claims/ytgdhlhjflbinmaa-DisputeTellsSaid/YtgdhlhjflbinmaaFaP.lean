/- Fares: a right tariff, the chapter's example, and which tariffs a play goes through with. -/
import Derived.Test.YtgdhlhjflbinmaaFaM
import Derived.Test.YtgdhlhjflbinmaaFaO
import Derived.Deep.DeepFit
namespace Go.Proofs.Ytgdhlhjflbinmaa
open Go.RowKit Go.V Go.Proofs

def plainT : Tar := ⟨1, [⟨100, 200⟩], 300, 900, [1000, 500], 10, 60, 4, [⟨1000, 0⟩]⟩

set_option maxHeartbeats 1000000 in
theorem plain_any (w : World) : Calls Try.prog 17 #[] w fun e w' => ∃ hb hs hr : Hdr, e = .returned (plainT.val hb hs hr) ∧ TarIn w' plainT hb hs hr ∧ hb.n = 1 ∧ hs.n = 2 ∧ hr.n = 1 ∧ Below w.heap.size w w' := by
  go_enter Try.func17, Try.ntmps17
  go_wp2_with fail
  refine bodyPost_ret (results_cell_row rfl _ _ w.heap.size _ _ _ _ rfl (box_alloc (box_alloc (box_alloc (box_new _ _)))) Try.underlying26 rfl (by kernel_rfl)) rfl ?_
  refine ⟨⟨some ⟨w.heap.size + 1, 0, none⟩, 1, 1⟩, ⟨some ⟨w.heap.size + 1 + 1, 0, none⟩, 2, 2⟩, ⟨some ⟨w.heap.size + 1 + 1 + 1, 0, none⟩, 1, 1⟩, rfl, ⟨?_, ?_, ?_⟩, rfl, rfl, rfl, (((((Below.refl _ _).alloc (Nat.le_refl _) _).alloc (by simp) _).alloc (by simp; omega) _).alloc (by simp; omega) _)⟩
  · have h1 := sl_new (c := Pair.cod) (w.alloc (.cells #[.int .i64 1, .slice (some ⟨w.heap.size + 1, 0, none⟩) 1 1, .int .i64 300, .int .i64 900, .slice (some ⟨w.heap.size + 1 + 1, 0, none⟩) 2 2, .int .i64 10, .int .i64 60, .int .i64 4, .slice (some ⟨w.heap.size + 1 + 1 + 1, 0, none⟩) 1 1] 26)) #[.int .i64 100, .int .i64 200] 72 [⟨100, 200⟩] 1 rfl (by unfold maxLen; omega) rfl
    rw [World.size_alloc] at h1
    exact (h1.below ((Below.refl _ _).alloc (Nat.le_refl _) _)).below ((Below.refl _ _).alloc (Nat.le_refl _) _)
  · have h1 := sl_new (c := icod) ((w.alloc (.cells #[.int .i64 1, .slice (some ⟨w.heap.size + 1, 0, none⟩) 1 1, .int .i64 300, .int .i64 900, .slice (some ⟨w.heap.size + 1 + 1, 0, none⟩) 2 2, .int .i64 10, .int .i64 60, .int .i64 4, .slice (some ⟨w.heap.size + 1 + 1 + 1, 0, none⟩) 1 1] 26)).alloc (.cells #[.int .i64 100, .int .i64 200] 72)) #[.int .i64 1000, .int .i64 500] 3 [1000, 500] 2 rfl (by unfold maxLen; omega) rfl
    rw [World.size_alloc, World.size_alloc] at h1
    exact h1.below ((Below.refl _ _).alloc (Nat.le_refl _) _)
  · have h1 := sl_new (c := Pair.cod) (((w.alloc (.cells #[.int .i64 1, .slice (some ⟨w.heap.size + 1, 0, none⟩) 1 1, .int .i64 300, .int .i64 900, .slice (some ⟨w.heap.size + 1 + 1, 0, none⟩) 2 2, .int .i64 10, .int .i64 60, .int .i64 4, .slice (some ⟨w.heap.size + 1 + 1 + 1, 0, none⟩) 1 1] 26)).alloc (.cells #[.int .i64 100, .int .i64 200] 72)).alloc (.cells #[.int .i64 1000, .int .i64 500] 3)) #[.int .i64 1000, .int .i64 0] 74 [⟨1000, 0⟩] 1 rfl (by unfold maxLen; omega) rfl
    rw [World.size_alloc, World.size_alloc, World.size_alloc] at h1
    exact h1

set_option maxHeartbeats 1000000 in
theorem few_any (t : Tar) (hb hs hr : Hdr) (w : World) (h : hb.n ≤ 9223372036854775807 ∧ hs.n ≤ 9223372036854775807 ∧ hr.n ≤ 9223372036854775807) : Calls Try.prog 18 #[t.val hb hs hr] w fun e w' => e = .returned (.bool (decide (hb.n ≤ 100) && decide (hs.n ≤ 50) && decide (hr.n ≤ 50))) ∧ Below w.heap.size w w' := by
  obtain ⟨m1, m2, m3⟩ := h
  unfold Tar.val
  go_enter Try.func18, Try.ntmps18
  by_cases c1 : hb.n ≤ 100
  · by_cases c2 : hs.n ≤ 50
    · go_wp2_with fail
      go_ret
      exact ⟨ret_bool (by rw [Bool.eq_iff_iff]; simp [c1, c2]; omega), (Below.refl _ _).alloc (Nat.le_refl _) _⟩
    · go_wp2_with fail
      go_ret
      exact ⟨ret_bool (by simp), (Below.refl _ _).alloc (Nat.le_refl _) _⟩
  · go_wp2_with fail
    go_ret
    exact ⟨ret_bool (by simp), (Below.refl _ _).alloc (Nat.le_refl _) _⟩

def exRide : Ride := ⟨1, 0, 5, 150⟩
theorem exA : monthE plainT 0 [] = 0 ∧ billG plainT 0 [] = [] ∧ billS plainT 0 [] = 0 ∧ billP plainT 0 [] = 0 := by decide
theorem exB : monthE plainT 1 [exRide] = 0 ∧ billG plainT 1 [exRide] = [⟨[1], 150, 150⟩] ∧ billS plainT 1 [exRide] = 150 ∧ billP plainT 1 [exRide] = 150 := by decide

end Go.Proofs.Ytgdhlhjflbinmaa
