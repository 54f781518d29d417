/- Fields: the program's reader, walked: Number, Error, Done. -/
import Derived.Test.YtnjgonplojpcnaaWiT
namespace Go.Proofs.Ytnjgonplojpcnaa.Wi
open Go.RowKit Go.V Go.Proofs Go.Sort
open Go.Proofs.Ytnjgonplojpcnaa.Ne (box_alloc box_new box_cell box_below box_lt below_drewN)

theorem rdN_range (c : List Int) (most : Int) (at_ : Nat) (bad : Int) : 0 ≤ (rdN c most at_ bad).1 ∧ (rdN c most at_ bad).1 ≤ 4611686018427387904 := by
  unfold rdN
  split
  · exact ⟨by simp, by simp⟩
  simp only []
  split
  · exact ⟨by simp, by simp⟩
  split
  · next h => exact ⟨by simp, by simp only []; omega⟩
  · exact ⟨by simp, by simp⟩

set_option maxHeartbeats 1000000 in
theorem fnum_any (g : Nat) (a : Option Addr) (n cap : Nat) (at_ : Nat) (bad most : Int) (c : List Int) (w : World) (hb : Fb w g a n cap at_ bad) (hs : Sl bcod w a n cap c) (hB : Byt c) (hn : n ≤ 1000000000) (hat : at_ ≤ n) :
    Calls Try.prog 57 #[.pointer (some ⟨g, 0, none⟩), .int .i64 most] w fun e w' => e = .returned (.int .i64 (rdN c most at_ bad).1) ∧ Fb w' g a n cap (rdN c most at_ bad).2.1 (rdN c most at_ bad).2.2 ∧ w.grownBy w' (some g) := by
  have HB0 : Hid (Below w.heap.size w (w.alloc (.cells #[.int .i64 most] 3))) := (Below.refl _ _).alloc (Nat.le_refl _) _
  have HRW := Lib.hid (fraw_any g w.heap.size a n cap at_ bad most c (w.alloc (.cells #[.int .i64 most] 3)) (box_alloc hb) (box_new w _) (hs.below HB0.out) hB hn hat)
  obtain ⟨r1, r2⟩ := rdN_range c most at_ bad
  obtain ⟨R, hR⟩ : ∃ R, rdN c most at_ bad = R := ⟨_, rfl⟩
  rw [hR] at HRW r1 r2 ⊢
  obtain ⟨v, at2, bad2⟩ := R
  have r1 : 0 ≤ v := r1
  have r2 : v ≤ 4611686018427387904 := r2
  clear hb hs hB hR
  go_enter Try.func57, Try.ntmps57
  go_wp2_with (go_at_call 79; go_loud (refine HRW.out.mono ?_); rintro e w1 ⟨rfl, hb1, hg1⟩; have HB1 := Lib.hid hb1; have HG1 := Lib.hid hg1; clear hb1 hg1)
  go_ret
  exact ⟨rfl, HB1.out, ⟨HG1.out.os, HG1.out.tape, HG1.out.output, by have := HG1.out.size; simp at this; omega, fun k hk hne => (HG1.out.block k (by simp; omega) hne).trans (HB0.out.block k hk)⟩⟩

set_option maxHeartbeats 1000000 in
theorem ferr_any (g : Nat) (a : Option Addr) (n cap : Nat) (at_ : Nat) (bad : Int) (w : World) (hb : Fb w g a n cap at_ bad) :
    Calls Try.prog 81 #[.pointer (some ⟨g, 0, none⟩)] w fun e w' => e = .returned (.int .i64 bad) ∧ Below w.heap.size w w' := by
  obtain ⟨c0, c1, c2, c3, -, -⟩ := box4_cells hb
  clear hb
  go_enter Try.func81, Try.ntmps81
  go_wp2_with fail
  go_ret
  exact ⟨rfl, Below.refl _ _⟩

set_option maxHeartbeats 4000000 in
theorem fdone_any (g : Nat) (a : Option Addr) (n cap : Nat) (at_ : Nat) (bad : Int) (c : List Int) (w : World) (hb : Fb w g a n cap at_ bad) (hln : n = c.length) (_ : n ≤ 1000000000) :
    Calls Try.prog 58 #[.pointer (some ⟨g, 0, none⟩)] w fun e w' => e = .returned (.int .i64 (doneE c at_ bad)) ∧ Below w.heap.size w w' := by
  have HFB := Lib.hid hb
  have HLN := Lib.hid hln
  clear hb hln
  by_cases h0 : bad = 0
  · subst h0
    by_cases hl : at_ < n
    · have hd : decide (at_ < n) = true := decide_eq_true hl
      have HD : Hid (doneE c at_ 0 = 13) := by show _ = _; unfold doneE; rw [if_pos ⟨rfl, by rw [← HLN.out]; exact hl⟩]
      clear hl
      go_enter Try.func58, Try.ntmps58
      go_wp2_with (go_at_call 81; go_loud (refine (ferr_any g a n cap at_ 0 w HFB.out).mono ?_); rintro e w1 ⟨rfl, hb1⟩; have HB1 := Lib.hid hb1; obtain ⟨c0, c1, -, -, -, -⟩ := box4_cells ((hb1.block g (box_lt HFB.out)).trans HFB.out); clear hb1)
      go_quiet (fail)
      go_wp2_with fail
      go_ret
      exact ⟨by rw [HD.out]; rfl, below_drewN HB1.out _⟩
    · have hd : decide (at_ < n) = false := decide_eq_false hl
      have HD : Hid (doneE c at_ 0 = 0) := by show _ = _; unfold doneE; rw [if_neg (fun q => hl (by rw [HLN.out]; exact q.2))]
      clear hl
      go_enter Try.func58, Try.ntmps58
      go_wp2_with (go_at_call 81; go_loud (refine (ferr_any g a n cap at_ 0 w HFB.out).mono ?_); rintro e w1 ⟨rfl, hb1⟩; have HB1 := Lib.hid hb1; obtain ⟨c0, c1, -, -, -, -⟩ := box4_cells ((hb1.block g (box_lt HFB.out)).trans HFB.out); clear hb1)
      go_quiet (fail)
      go_wp2_with fail
      go_ret
      exact ⟨by rw [HD.out]; rfl, below_drewN HB1.out _⟩
  · have h0' : (bad == 0) = false := by simpa using h0
    have HD : Hid (doneE c at_ bad = bad) := by show _ = _; unfold doneE; rw [if_neg (fun q => h0 q.1)]
    clear h0
    go_enter Try.func58, Try.ntmps58
    go_wp2_with (go_at_call 81; go_loud (refine (ferr_any g a n cap at_ bad w HFB.out).mono ?_); rintro e w1 ⟨rfl, hb1⟩; have HB1 := Lib.hid hb1; obtain ⟨c0, c1, -, -, -, -⟩ := box4_cells ((hb1.block g (box_lt HFB.out)).trans HFB.out); clear hb1)
    go_quiet (fail)
    go_wp2_with fail
    go_ret
    exact ⟨by rw [HD.out]; rfl, below_drewN HB1.out _⟩
end Go.Proofs.Ytnjgonplojpcnaa.Wi
