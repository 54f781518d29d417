/- Fields: the document's reader, walked: Number, Done. -/
import Derived.Test.YtbdkhgenkekioaaWiN
namespace Go.Proofs.Ytbdkhgenkekioaa.Wi
open Go.RowKit Go.V Go.Proofs Go.Sort
open Go.Proofs.Ytbdkhgenkekioaa.Ne (box_alloc box_new box_cell box_below box_lt box3_cells below_drewN)

set_option maxHeartbeats 4000000 in
theorem rrnum_any (g : Nat) (a : Option Addr) (n cap : Nat) (at_ : Nat) (bad most : Int) (c : List Int) (w : World) (hb : Rb w g a n cap at_ bad) (hs : Sl bcod w a n cap c) (hB : Byt c) (hn : n ≤ 1000000000) (hat : at_ ≤ n) (hm0 : 0 ≤ most) (hm1 : most < 9223372036854775808) :
    Calls Try.prog 67 #[.pointer (some ⟨g, 0, none⟩), .int .i64 most] w fun e w' => e = .returned (.int .i64 (rdN c most at_ bad).1) ∧ Rb w' g a n cap (rdN c most at_ bad).2.1 (rdN c most at_ bad).2.2 ∧ w.grownBy w' (some g) := by
  have HRW := Lib.hid (rraw_any g a n cap at_ bad c w hb hs hB hn hat)
  have hln : n = c.length := hs.hlen
  have hcl : ∀ k, (takeV (c.drop at_)).2.2 = 0 → (takeV (c.drop at_)).2.1 = k → k ≤ 1000000000 := fun k h1 h2 => by
    have := takeV_len (b := c.drop at_) (n := (takeV (c.drop at_)).1) (k := (takeV (c.drop at_)).2.1) (hB.drop _) (by rw [← h1])
    rw [h2, List.length_drop] at this
    omega
  have HCL := Lib.hid hcl
  clear hb hs hB hln hcl
  by_cases h0 : bad = 0
  case neg =>
    have HD : Hid (rdN c most at_ bad = (0, at_, bad)) := by show _ = _; unfold rdN; rw [if_pos h0]
    have h0' : (bad != 0) = true := by simpa using h0
    have H0 := Lib.hid h0
    clear h0
    go_enter Try.func67, Try.ntmps67
    go_wp2_with (go_at_call 110; go_loud (refine HRW.out.mono ?_); rintro e w1 ⟨hx, -, hg⟩; obtain ⟨rfl, hb1⟩ := hx H0.out; have HB1 := Lib.hid hb1; have HG1 := Lib.hid hg; obtain ⟨-, -, c2, -, -, -⟩ := box3_cells hb1; clear hb1 hg hx)
    go_ret
    exact ⟨by rw [HD.out]; rfl, by rw [HD.out]; exact HB1.out, HG1.out⟩
  case pos =>
    subst h0
    obtain ⟨t, ht⟩ : ∃ t, takeV (c.drop at_) = t := ⟨_, rfl⟩
    obtain ⟨N, K, E⟩ := t
    have HT := Lib.hid ht
    rw [ht] at HRW HCL
    clear ht
    by_cases hE : E = 0
    case neg =>
      have HD : Hid (rdN c most at_ 0 = (0, at_, E)) := by show _ = _; unfold rdN; rw [if_neg (by simp), HT.out]; exact if_pos hE
      have hE' : (E != 0) = true := by simpa using hE
      clear hE
      go_enter Try.func67, Try.ntmps67
      go_wp2_with (go_at_call 110; go_loud (refine HRW.out.mono ?_); rintro e w1 ⟨-, hx, hg⟩; obtain ⟨rfl, hb1⟩ := hx rfl; replace hb1 : Rb w1 g a n cap at_ E := hb1; have HB1 := Lib.hid hb1; have HG1 := Lib.hid hg; obtain ⟨-, -, c2, -, -, -⟩ := box3_cells hb1; clear hb1 hg hx)
      go_ret
      exact ⟨by rw [HD.out]; rfl, by rw [HD.out]; exact HB1.out, HG1.out⟩
    case pos =>
      subst hE
      have hK : K ≤ 1000000000 := HCL.out K rfl rfl
      have hm2 : decide (most < 0) = false := decide_eq_false (by omega)
      by_cases hok : (N : Int) ≤ most ∧ N ≤ 4611686018427387904
      · have HD : Hid (rdN c most at_ 0 = ((N : Int), at_ + K, 0)) := by
          show _ = _; unfold rdN; rw [if_neg (by simp), HT.out]; simp only []; rw [if_neg (by simp), if_pos hok]
        have hd1 : decide (most < (N : Int)) = false := decide_eq_false (by omega)
        have hd2 : decide ((4611686018427387904 : Int) < (N : Int)) = false := decide_eq_false (by omega)
        have hN2 : (N : Int) < 9223372036854775808 := by omega
        have HAK : Hid ((at_ : Int) + (K : Int) = ((at_ + K : Nat) : Int)) := by show _ = _; omega
        clear hok
        go_enter Try.func67, Try.ntmps67
        go_wp2_with (go_at_call 110; go_loud (refine HRW.out.mono ?_); rintro e w1 ⟨-, hx, hg⟩; obtain ⟨rfl, hb1⟩ := hx rfl; replace hb1 : Rb w1 g a n cap at_ 0 := hb1; have HB1 := Lib.hid hb1; have HG1 := Lib.hid hg; obtain ⟨-, c1, c2, -, z1, z2⟩ := box3_cells hb1; clear hb1 hg hx)
        go_ret
        refine ⟨by rw [HD.out]; rfl, ?_, grown_set HG1.out⟩
        rw [HD.out]
        show (w1.setCell ⟨g, 1, none⟩ (.int .i64 ((at_ : Int) + (K : Int)))).heap[g]? = _
        rw [HAK.out]
        exact heap_setCell_same w1 g 1 _ _ _ HB1.out
      · have HD : Hid (rdN c most at_ 0 = (0, at_, 3)) := by
          show _ = _; unfold rdN; rw [if_neg (by simp), HT.out]; simp only []; rw [if_neg (by simp), if_neg hok]
        by_cases hd : most < (N : Int)
        · have hd1 : decide (most < (N : Int)) = true := decide_eq_true hd
          clear hok hd
          go_enter Try.func67, Try.ntmps67
          go_wp2_with (go_at_call 110; go_loud (refine HRW.out.mono ?_); rintro e w1 ⟨-, hx, hg⟩; obtain ⟨rfl, hb1⟩ := hx rfl; replace hb1 : Rb w1 g a n cap at_ 0 := hb1; have HB1 := Lib.hid hb1; have HG1 := Lib.hid hg; obtain ⟨-, c1, c2, -, z1, z2⟩ := box3_cells hb1; clear hb1 hg hx)
          go_ret
          exact ⟨by rw [HD.out]; rfl, by rw [HD.out]; exact heap_setCell_same w1 g 2 _ _ _ HB1.out, grown_set HG1.out⟩
        · have hd1 : decide (most < (N : Int)) = false := decide_eq_false hd
          have hd2 : decide ((4611686018427387904 : Int) < (N : Int)) = true := decide_eq_true (by omega)
          clear hok hd
          go_enter Try.func67, Try.ntmps67
          go_wp2_with (go_at_call 110; go_loud (refine HRW.out.mono ?_); rintro e w1 ⟨-, hx, hg⟩; obtain ⟨rfl, hb1⟩ := hx rfl; replace hb1 : Rb w1 g a n cap at_ 0 := hb1; have HB1 := Lib.hid hb1; have HG1 := Lib.hid hg; obtain ⟨-, c1, c2, -, z1, z2⟩ := box3_cells hb1; clear hb1 hg hx)
          go_ret
          exact ⟨by rw [HD.out]; rfl, by rw [HD.out]; exact heap_setCell_same w1 g 2 _ _ _ HB1.out, grown_set HG1.out⟩

set_option maxHeartbeats 4000000 in
theorem rrdone_any (g : Nat) (a : Option Addr) (n cap : Nat) (at_ : Nat) (bad : Int) (c : List Int) (w : World) (hb : Rb w g a n cap at_ bad) (hln : n = c.length) (_ : n ≤ 1000000000) :
    Calls Try.prog 70 #[.pointer (some ⟨g, 0, none⟩)] w fun e w' => e = .returned (.int .i64 (doneE c at_ bad)) ∧ Below w.heap.size w w' := by
  obtain ⟨c0, c1, c2, -, -, -⟩ := box3_cells hb
  have HLN := Lib.hid hln
  clear hb hln
  by_cases h0 : bad = 0
  · subst h0
    by_cases hl : at_ < n
    · have hd : decide (at_ < n) = true := decide_eq_true hl
      have HD : Hid (doneE c at_ 0 = 13) := by show _ = _; unfold doneE; rw [if_pos ⟨rfl, by rw [← HLN.out]; exact hl⟩]
      clear hl
      go_enter Try.func70, Try.ntmps70
      go_wp2_with fail
      go_quiet (fail)
      go_wp2_with fail
      go_ret
      exact ⟨by rw [HD.out]; rfl, below_drewN (Below.refl _ _) _⟩
    · have hd : decide (at_ < n) = false := decide_eq_false hl
      have HD : Hid (doneE c at_ 0 = 0) := by show _ = _; unfold doneE; rw [if_neg (fun q => hl (by rw [HLN.out]; exact q.2))]
      clear hl
      go_enter Try.func70, Try.ntmps70
      go_wp2_with fail
      go_quiet (fail)
      go_wp2_with fail
      go_ret
      exact ⟨by rw [HD.out]; rfl, below_drewN (Below.refl _ _) _⟩
  · have h0' : (bad == 0) = false := by simpa using h0
    have HD : Hid (doneE c at_ bad = bad) := by show _ = _; unfold doneE; rw [if_neg (fun q => h0 q.1)]
    clear h0
    go_enter Try.func70, Try.ntmps70
    go_wp2_with fail
    go_quiet (fail)
    go_wp2_with fail
    go_ret
    exact ⟨by rw [HD.out]; rfl, below_drewN (Below.refl _ _) _⟩
end Go.Proofs.Ytbdkhgenkekioaa.Wi
