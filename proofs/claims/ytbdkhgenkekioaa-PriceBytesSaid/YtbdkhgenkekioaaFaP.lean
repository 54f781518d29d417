/- Fares: a right tariff, the chapter's example, and which tariffs a play goes through with. -/
import Derived.Test.YtbdkhgenkekioaaFaM
import Derived.Test.YtbdkhgenkekioaaFaO
import Derived.Deep.DeepFit
namespace Go.Proofs.Ytbdkhgenkekioaa
open Go.RowKit Go.V Go.Proofs

def plainT : Tar := ⟨1, [⟨100, 200⟩], 300, 900, [1000, 500], 10, 60, 4, [⟨1000, 0⟩]⟩

set_option maxHeartbeats 1000000 in
theorem plain_any (w : World) : Calls Try.prog 72 #[] w fun e w' => ∃ hb hs hr : Hdr, e = .returned (plainT.val hb hs hr) ∧ TarIn w' plainT hb hs hr ∧ hb.n = 1 ∧ hs.n = 2 ∧ hr.n = 1 ∧ Below w.heap.size w w' := by
  go_enter Try.func72, Try.ntmps72
  go_wp2_with fail
  refine bodyPost_ret (results_cell_row rfl _ _ w.heap.size _ _ _ _ rfl (box_alloc (box_alloc (box_alloc (box_new _ _)))) Try.underlying61 rfl (by kernel_rfl)) rfl ?_
  refine ⟨⟨some ⟨w.heap.size + 1, 0, none⟩, 1, 1⟩, ⟨some ⟨w.heap.size + 1 + 1, 0, none⟩, 2, 2⟩, ⟨some ⟨w.heap.size + 1 + 1 + 1, 0, none⟩, 1, 1⟩, rfl, ⟨?_, ?_, ?_⟩, rfl, rfl, rfl, (((((Below.refl _ _).alloc (Nat.le_refl _) _).alloc (by simp) _).alloc (by simp; omega) _).alloc (by simp; omega) _)⟩
  · have h1 := sl_new (c := Pair.cod) (w.alloc (.cells #[.int .i64 1, .slice (some ⟨w.heap.size + 1, 0, none⟩) 1 1, .int .i64 300, .int .i64 900, .slice (some ⟨w.heap.size + 1 + 1, 0, none⟩) 2 2, .int .i64 10, .int .i64 60, .int .i64 4, .slice (some ⟨w.heap.size + 1 + 1 + 1, 0, none⟩) 1 1] 61)) #[.int .i64 100, .int .i64 200] 112 [⟨100, 200⟩] 1 rfl (by unfold maxLen; omega) rfl
    rw [World.size_alloc] at h1
    exact (h1.below ((Below.refl _ _).alloc (Nat.le_refl _) _)).below ((Below.refl _ _).alloc (Nat.le_refl _) _)
  · have h1 := sl_new (c := icod) ((w.alloc (.cells #[.int .i64 1, .slice (some ⟨w.heap.size + 1, 0, none⟩) 1 1, .int .i64 300, .int .i64 900, .slice (some ⟨w.heap.size + 1 + 1, 0, none⟩) 2 2, .int .i64 10, .int .i64 60, .int .i64 4, .slice (some ⟨w.heap.size + 1 + 1 + 1, 0, none⟩) 1 1] 61)).alloc (.cells #[.int .i64 100, .int .i64 200] 112)) #[.int .i64 1000, .int .i64 500] 3 [1000, 500] 2 rfl (by unfold maxLen; omega) rfl
    rw [World.size_alloc, World.size_alloc] at h1
    exact h1.below ((Below.refl _ _).alloc (Nat.le_refl _) _)
  · have h1 := sl_new (c := Pair.cod) (((w.alloc (.cells #[.int .i64 1, .slice (some ⟨w.heap.size + 1, 0, none⟩) 1 1, .int .i64 300, .int .i64 900, .slice (some ⟨w.heap.size + 1 + 1, 0, none⟩) 2 2, .int .i64 10, .int .i64 60, .int .i64 4, .slice (some ⟨w.heap.size + 1 + 1 + 1, 0, none⟩) 1 1] 61)).alloc (.cells #[.int .i64 100, .int .i64 200] 112)).alloc (.cells #[.int .i64 1000, .int .i64 500] 3)) #[.int .i64 1000, .int .i64 0] 114 [⟨1000, 0⟩] 1 rfl (by unfold maxLen; omega) rfl
    rw [World.size_alloc, World.size_alloc, World.size_alloc] at h1
    exact h1

set_option maxHeartbeats 1000000 in
theorem few_any (t : Tar) (hb hs hr : Hdr) (w : World) (h : hb.n ≤ 9223372036854775807 ∧ hs.n ≤ 9223372036854775807 ∧ hr.n ≤ 9223372036854775807) : Calls Try.prog 28 #[t.val hb hs hr] w fun e w' => e = .returned (.bool (decide (hb.n ≤ 100) && decide (hs.n ≤ 50) && decide (hr.n ≤ 50))) ∧ Below w.heap.size w w' := by
  obtain ⟨m1, m2, m3⟩ := h
  unfold Tar.val
  go_enter Try.func28, Try.ntmps28
  by_cases c1 : hb.n ≤ 100
  · by_cases c2 : hs.n ≤ 50
    · go_wp2_with fail
      go_ret
      exact ⟨ret_bool (by rw [Bool.eq_iff_iff]; simp [c1, c2]; omega), (Below.refl _ _).alloc (Nat.le_refl _) _⟩
    · go_wp2_with fail
      go_ret
      exact ⟨ret_bool (by simp), (Below.refl _ _).alloc (Nat.le_refl _) _⟩
  · go_wp2_with fail
    go_ret
    exact ⟨ret_bool (by simp), (Below.refl _ _).alloc (Nat.le_refl _) _⟩

def exRide : Ride := ⟨1, 0, 5, 150⟩
theorem exA : monthE plainT 0 [] = 0 ∧ billG plainT 0 [] = [] ∧ billS plainT 0 [] = 0 ∧ billP plainT 0 [] = 0 := by decide
theorem exB : monthE plainT 1 [exRide] = 0 ∧ billG plainT 1 [exRide] = [⟨[1], 150, 150⟩] ∧ billS plainT 1 [exRide] = 150 ∧ billP plainT 1 [exRide] = 150 := by decide

set_option maxHeartbeats 4000000 in
theorem awake_any (w : World) : Calls Try.prog 27 #[] w fun e w' => e = .returned (.bool true) ∧ Below w.heap.size w w' := by
  go_enter Try.func27, Try.ntmps27
  go_upto_region 2 with (first
    | (go_at_call 72; refine (plain_any _).mono ?_; rintro e w1 ⟨hb, hs, hr, rfl, ht, n1, n2, n3, hb1⟩; have HT1 := Lib.hid ht; have HB1 := Lib.hid hb1; have N := Lib.hid (show hb.n ≤ 1000000 ∧ hs.n ≤ 1000000 ∧ hr.n ≤ 1000000 by omega); clear ht hb1 n1 n2 n3)
    | (go_at_call 71; refine (month_any plainT hb hs hr 0 none 0 0 [] _ N.out (by omega) (fun r hr => by simp at hr) HT1.out ⟨rfl, Nat.le_refl _, by unfold maxLen; omega, fun _ => ⟨rfl, rfl⟩, fun d hd => nomatch hd⟩).mono ?_; rintro e w2 ⟨v, rfl, hbill, hb2⟩; rw [exA.1]; rw [exA.2.1, exA.2.2.1, exA.2.2.2] at hbill; obtain ⟨a1, c1, g1, rfl, -⟩ := hbill.billIn; have HB2 := Lib.hid (HB1.out.trans (hb2.mono HB1.out.size)); clear hb2 hbill))
  have hs2 := HB2.out.size
  have exok : ∀ r ∈ [exRide], Ride.ok r := by
    intro r hr
    simp only [List.mem_singleton] at hr
    subst hr
    exact ⟨by decide, by decide, by decide, by decide⟩
  go_wp2_with (first
    | (go_at_call 72; refine (plain_any _).mono ?_; rintro e w3 ⟨hb', hs', hr', rfl, ht, n1, n2, n3, hb3⟩; have HT3 := Lib.hid ht; have HX3 : Hid (w3.heap[w2.heap.size]? = some (.cells #[.slice a1 0 c1, .int .i64 0, .int .i64 0] 106 (0, 0))) := box_below (box_new w2 _) hb3; have HB3 : Hid (Below w.heap.size w w3) := (HB2.out.alloc hs2 _).trans (hb3.mono (by simp; omega)); have hs3 := HB3.out.size; have N3 := Lib.hid (show hb'.n ≤ 1000000 ∧ hs'.n ≤ 1000000 ∧ hr'.n ≤ 1000000 by omega); clear ht hb3 n1 n2 n3)
    | (go_at_call 71; refine (month_any plainT hb' hs' hr' 1 (some ⟨w3.heap.size, 0, none⟩) 1 1 [exRide] _ N3.out (by omega) exok (HT3.out.below ((Below.refl _ _).alloc (Nat.le_refl _) _)) (sl_new (c := Ride.cod) w3 #[.int .i64 1, .int .i64 0, .int .i64 5, .int .i64 150] 24 [exRide] 1 rfl (by unfold maxLen; omega) rfl)).mono ?_; rintro e w4 ⟨v, rfl, hbill, hb4⟩; rw [exB.1]; rw [exB.2.1, exB.2.2.1, exB.2.2.2] at hbill; obtain ⟨a2, c2, g2, rfl, -⟩ := hbill.billIn; have HB4 : Hid (Below w.heap.size w w4) := (HB3.out.alloc hs3 _).trans (hb4.mono (by simp; omega)); have HX4 := Lib.hid (box_below (box_alloc HX3.out) hb4); obtain ⟨x0, x1, x2, -, -, -⟩ := box3_cells HX4.out; have hx4 := box_lt HX4.out; clear hb4 hbill))
  go_ret
  exact ⟨rfl, HB4.out.alloc HB4.out.size _⟩
end Go.Proofs.Ytbdkhgenkekioaa
