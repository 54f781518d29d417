/- Networks: few of them; the table's example, walked. -/
import Derived.Test.YteihffnmgacfpaaNeY
namespace Go.Proofs.Yteihffnmgacfpaa.Ne
open Go.RowKit Go.V Go.Proofs Go.Sort Go.Maps

set_option maxHeartbeats 400000 in
theorem few_any (n : Net) (hs hl : Hdr) (w : World) : Calls Try.prog 16 #[n.val hs hl] w fun e w' => e = .returned (.bool (decide (hs.n ≤ 60 ∧ hl.n ≤ 120))) ∧ Below w.heap.size w w' := by
  obtain ⟨sa, k, sc⟩ := hs
  obtain ⟨la, m, lc⟩ := hl
  have HX := Lib.hid (box_new w (n.box ⟨sa, k, sc⟩ ⟨la, m, lc⟩))
  obtain ⟨c0, c1, c2, -, -, -⟩ := box3_cells HX.out
  have hB : Below w.heap.size w (w.alloc (n.box ⟨sa, k, sc⟩ ⟨la, m, lc⟩)) := (Below.refl _ _).alloc (Nat.le_refl _) _
  by_cases h1 : (k : Int) ≤ 60
  · by_cases h2 : (m : Int) ≤ 120
    · go_enter Try.func16, Try.ntmps16
      go_wp2
      go_ret
      have e1 : k ≤ 60 := by omega
      have e2 : m ≤ 120 := by omega
      exact ⟨by simp [e1, e2], hB⟩
    · have h3 : decide ((m : Int) ≤ 120) = false := decide_eq_false h2
      go_enter Try.func16, Try.ntmps16
      go_wp2
      go_ret
      have e2 : ¬ m ≤ 120 := by omega
      exact ⟨by simp [e2], hB⟩
  · have h3 : decide ((k : Int) ≤ 60) = false := decide_eq_false h1
    go_enter Try.func16, Try.ntmps16
    go_wp2
    go_ret
    have e1 : ¬ k ≤ 60 := by omega
    exact ⟨by simp [e1], hB⟩

def exN : Net := ⟨3, [⟨0, 0⟩, ⟨0, 0⟩, ⟨0, 0⟩], [⟨0, 1, 4⟩, ⟨1, 2, 6⟩]⟩
theorem exN_ok : checkE exN = 0 := by decide
theorem exN_round : (roundE exN.links 3).a = 0 ∧ (roundE exN.links 3).b = 2 ∧ (roundE exN.links 3).far = 10 ∧ roundB 3 = true := by decide +kernel

theorem infoStp : (Try.prog.info? 99).map (fun i => (i.zero, i.size, i.bytes)) = some (some (.agg #[.int .i64 0, .int .i64 0]), 2, 16) := by kernel_rfl
/-- make([]api.Stop, n), n a number. -/
theorem make_stops (n : Nat) (hn : n ≤ 1000) (w : World) : (Instr.makeSlice 22 (.int .i64 (n : Int)) (.int .i64 (n : Int))).run Try.prog w = .ok (.slice (some ⟨w.heap.size, 0, none⟩) n n) (w.alloc (.cells (madeCells #[.int .i64 0, .int .i64 0] (n * 2)) 99)) := by
  obtain ⟨i, hi, hz, hs, hb⟩ := info_parts infoStp
  have hr := run_make (P := Try.prog) w 22 99 i (.agg #[.int .i64 0, .int .i64 0]) Try.underlying22 hi hz .i64 .i64 n n (by omega) (Int.le_refl _) (by rw [hb]; omega) (by omega)
  simp only [Int.toNat_natCast, hs] at hr
  exact hr

set_option maxHeartbeats 2000000 in
set_option maxRecDepth 100000 in
theorem awake18_any (w : World) : Calls Try.prog 15 #[] w fun e w' => e = .returned (.bool true) ∧ Below w.heap.size w w' := by
  have hmk : ∀ w, (Instr.makeSlice 22 (.int .i64 3) (.int .i64 3)).run Try.prog w = .ok (.slice (some ⟨w.heap.size, 0, none⟩) 3 3) (w.alloc (.cells #[.int .i64 0, .int .i64 0, .int .i64 0, .int .i64 0, .int .i64 0, .int .i64 0] 99)) := fun w => by
    have h := make_stops 3 (by omega) w
    have e : madeCells #[.int .i64 0, .int .i64 0] (3 * 2) = #[.int .i64 0, .int .i64 0, .int .i64 0, .int .i64 0, .int .i64 0, .int .i64 0] := by kernel_rfl
    rw [e] at h
    exact h
  go_enter Try.func15, Try.ntmps15
  have HN : Hid (NetIn ((w.alloc (.cells #[.int .i64 0, .int .i64 0, .int .i64 0, .int .i64 0, .int .i64 0, .int .i64 0] 99)).alloc (.cells #[.int .i64 0, .int .i64 1, .int .i64 4, .int .i64 1, .int .i64 2, .int .i64 6] 49)) exN ⟨some ⟨w.heap.size, 0, none⟩, 3, 3⟩ ⟨some ⟨w.heap.size + 1, 0, none⟩, 2, 2⟩) :=
    ⟨(sl_new (c := Stp.cod) w _ _ exN.stops 3 rfl (by unfold maxLen; omega) rfl).below ((Below.refl _ _).alloc (Nat.le_refl _) _), by have := sl_new (c := lcod) (w.alloc (.cells #[.int .i64 0, .int .i64 0, .int .i64 0, .int .i64 0, .int .i64 0, .int .i64 0] 99)) #[.int .i64 0, .int .i64 1, .int .i64 4, .int .i64 1, .int .i64 2, .int .i64 6] 49 exN.links 2 rfl (by unfold maxLen; omega) rfl; simpa using this⟩
  have HB0 : Hid (Below w.heap.size w ((w.alloc (.cells #[.int .i64 0, .int .i64 0, .int .i64 0, .int .i64 0, .int .i64 0, .int .i64 0] 99)).alloc (.cells #[.int .i64 0, .int .i64 1, .int .i64 4, .int .i64 1, .int .i64 2, .int .i64 6] 49))) := ((Below.refl _ _).alloc (Nat.le_refl _) _).alloc (by simp) _
  go_wp2_with (first
    | (go_at_call 17; go_loud (refine (tnew_any exN ⟨some ⟨w.heap.size, 0, none⟩, 3, 3⟩ ⟨some ⟨w.heap.size + 1, 0, none⟩, 2, 2⟩ _ ⟨by show 3 ≤ 1000000; omega, by show 2 ≤ 1000000; omega⟩ HN.out).mono ?_); rintro e w1 ⟨hb, -, hf⟩; obtain ⟨tg, rfl, mg, ht, hne⟩ := hf exN_ok; have HB1 := Lib.hid (HB0.out.trans (hb.mono HB0.out.size)); have HT := Lib.hid ht; have HNE := Lib.hid hne; clear hb hf ht hne)
    | (go_at_call 23; go_loud (refine (tround_any _ _ tg mg 0 exN _ _ HT.out exN_ok (by omega) HNE.out).mono ?_); rintro e w2 ⟨rfl, ht2, hc2⟩; rw [exN_round.1, exN_round.2.1, exN_round.2.2.1, exN_round.2.2.2]; have HT2 := Lib.hid ht2; have HC2 := Lib.hid hc2; clear ht2 hc2)
    | (go_at_call 20; go_loud (refine (tver_any _ _ tg mg _ exN _ _ HT2.out).mono ?_); rintro e w3 ⟨rfl, rfl⟩))
  go_ret
  exact ⟨rfl, HB1.out.trans (HC2.out.below (by have := HT.out.bm; have := HB0.out.size; omega) (by simp) HB1.out.size)⟩
end Go.Proofs.Yteihffnmgacfpaa.Ne
