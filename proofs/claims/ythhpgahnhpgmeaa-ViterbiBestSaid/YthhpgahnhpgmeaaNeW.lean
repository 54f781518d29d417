/- Networks: the document's distance of two stops, walked. -/
import Derived.Test.YthhpgahnhpgmeaaNeV
import Derived.Test.YthhpgahnhpgmeaaNeO
namespace Go.Proofs.Ythhpgahnhpgmeaa.Ne
open Go.RowKit Go.V Go.Proofs Go.Sort

set_option maxHeartbeats 4000000 in
set_option maxRecDepth 100000 in
theorem rfar_any (n : Net) (hs hl : Hdr) (a b : Int) (w : World) (h : NetIn w n hs hl) (hok : checkE n = 0) (h60 : hs.n ≤ 60) (h120 : hl.n ≤ 120) :
    Calls Try.prog 102 #[n.val hs hl, .int .i64 a, .int .i64 b] w fun e w' => e = .returned (.int .i64 (tfarE n hs.n a b)) ∧ Below w.heap.size w w' := by
  have HH := Lib.hid h
  have HOK := Lib.hid hok
  have hkn : hs.n = n.stops.length := h.s.hlen
  have HKN := Lib.hid hkn
  have HLO : Hid (LinksOk n.links hs.n) := by show LinksOk _ _; rw [hkn]; exact (check_ok hok).2.2.2.2.1
  have HX := Lib.hid (box_new w (n.box hs hl))
  have HB0 : Hid (Below w.heap.size w (w.alloc (n.box hs hl))) := (Below.refl _ _).alloc (Nat.le_refl _) _
  obtain ⟨c0, c1, c2, -, -, -⟩ := box3_cells HX.out
  clear h hok hkn
  by_cases hin : 0 ≤ a ∧ a < hs.n ∧ 0 ≤ b ∧ b < hs.n
  · obtain ⟨h1, h2, h3, h4⟩ := hin
    have he : tfarE n hs.n a b = far n.links hs.n a b := by unfold tfarE; rw [if_pos ⟨h1, h2, h3, h4⟩]
    have HE := Lib.hid he
    clear he
    obtain ⟨p, rfl⟩ : ∃ p : Nat, a = p := ⟨a.toNat, by omega⟩
    obtain ⟨q, rfl⟩ : ∃ q : Nat, b = q := ⟨b.toNat, by omega⟩
    have hp : p < hs.n := by omega
    have hq : q < hs.n := by omega
    have b1 : decide ((p : Int) < 0) = false := by simp
    have b2 : decide ((q : Int) < 0) = false := by simp
    have b3 : decide ((hs.n : Int) ≤ (p : Int)) = false := decide_eq_false (by omega)
    have b4 : decide ((hs.n : Int) ≤ (q : Int)) = false := decide_eq_false (by omega)
    go_enter Try.func102, Try.ntmps102
    go_wp2_with (go_at_call 112; refine (rfrom_any n hs hl p _ (HH.out.below HB0.out) HOK.out h60 h120 hp).mono ?_; rintro e w1 ⟨o, oc, rfl, ho, hb1⟩; have HB1 := Lib.hid (HB0.out.trans (hb1.mono HB0.out.size)); rw [← HKN.out] at ho; obtain ⟨d, hd, e0, -, e2⟩ := icells ho (bf_len (L := n.links) (k := hs.n) (a := (p : Int))).symm hq; have HD := Lib.hid hd; clear ho hd hb1)
    go_ret
    have e3 := (bf_at (L := n.links) (k := hs.n) (a := (p : Int)) HLO.out (by omega) hq).symm.trans HD.out
    refine ⟨?_, HB1.out⟩
    rw [HE.out, Option.some.inj e3]; rfl
  · have he : tfarE n hs.n a b = -1 := by unfold tfarE; rw [if_neg hin]
    have HE := Lib.hid he
    clear he
    go_enter Try.func102, Try.ntmps102
    by_cases g1 : a < 0
    · go_wp2_with fail
      go_ret
      exact ⟨by rw [HE.out]; rfl, HB0.out⟩
    · have b1 : decide (a < 0) = false := decide_eq_false g1
      by_cases g2 : b < 0
      · go_wp2_with fail
        go_ret
        exact ⟨by rw [HE.out]; rfl, HB0.out⟩
      · have b2 : decide (b < 0) = false := decide_eq_false g2
        by_cases g3 : (hs.n : Int) ≤ a
        · go_wp2_with fail
          go_ret
          exact ⟨by rw [HE.out]; rfl, HB0.out⟩
        · have b3 : decide ((hs.n : Int) ≤ a) = false := decide_eq_false g3
          have g4 : (hs.n : Int) ≤ b := by omega
          go_wp2_with fail
          go_ret
          exact ⟨by rw [HE.out]; rfl, HB0.out⟩
end Go.Proofs.Ythhpgahnhpgmeaa.Ne
