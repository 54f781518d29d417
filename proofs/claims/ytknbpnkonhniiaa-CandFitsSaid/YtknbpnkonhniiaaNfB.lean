/- Networks: few stops and links; new stops. -/
import Derived.Test.YtknbpnkonhniiaaNeD
namespace Go.Proofs.Ytknbpnkonhniiaa.Ne
open Go.RowKit Go.V Go.Proofs

set_option maxHeartbeats 400000 in
theorem few_any (n : Net) (hs hl : Hdr) (w : World) : Calls Try.prog 7 #[n.val hs hl] w fun e w' => e = .returned (.bool (decide (hs.n ≤ 60 ∧ hl.n ≤ 120))) ∧ Below w.heap.size w w' := by
  obtain ⟨sa, k, sc⟩ := hs
  obtain ⟨la, m, lc⟩ := hl
  have HX := Lib.hid (box_new w (n.box ⟨sa, k, sc⟩ ⟨la, m, lc⟩))
  obtain ⟨c0, c1, c2, -, -, -⟩ := box3_cells HX.out
  have hB : Below w.heap.size w (w.alloc (n.box ⟨sa, k, sc⟩ ⟨la, m, lc⟩)) := (Below.refl _ _).alloc (Nat.le_refl _) _
  by_cases h1 : (k : Int) ≤ 60
  · by_cases h2 : (m : Int) ≤ 120
    · go_enter Try.func7, Try.ntmps7
      go_wp2
      go_ret
      have e1 : k ≤ 60 := by omega
      have e2 : m ≤ 120 := by omega
      exact ⟨by simp [e1, e2], hB⟩
    · have h3 : decide ((m : Int) ≤ 120) = false := decide_eq_false h2
      go_enter Try.func7, Try.ntmps7
      go_wp2
      go_ret
      have e2 : ¬ m ≤ 120 := by omega
      exact ⟨by simp [e2], hB⟩
  · have h3 : decide ((k : Int) ≤ 60) = false := decide_eq_false h1
    go_enter Try.func7, Try.ntmps7
    go_wp2
    go_ret
    have e1 : ¬ k ≤ 60 := by omega
    exact ⟨by simp [e1], hB⟩

theorem infoStp : (Try.prog.info? 53).map (fun i => (i.zero, i.size, i.bytes)) = some (some (.agg #[.int .i64 0, .int .i64 0]), 2, 16) := by kernel_rfl
/-- make([]api.Stop, n), n a number. -/
theorem make_stops (n : Nat) (hn : n ≤ 1000) (w : World) : (Instr.makeSlice 22 (.int .i64 (n : Int)) (.int .i64 (n : Int))).run Try.prog w = .ok (.slice (some ⟨w.heap.size, 0, none⟩) n n) (w.alloc (.cells (madeCells #[.int .i64 0, .int .i64 0] (n * 2)) 53)) := by
  obtain ⟨i, hi, hz, hs, hb⟩ := info_parts infoStp
  have hr := run_make (P := Try.prog) w 22 53 i (.agg #[.int .i64 0, .int .i64 0]) Try.underlying22 hi hz .i64 .i64 n n (by omega) (Int.le_refl _) (by rw [hb]; omega) (by omega)
  simp only [Int.toNat_natCast, hs] at hr
  exact hr

end Go.Proofs.Ytknbpnkonhniiaa.Ne
