/- Ways: the law MatchTells: walked (printed by gen_XMtV.py). -/
/- MatchTells answers true, whatever comes in, and what came in reads as it did; no condition. -/
import Derived.Test.YtlfbbahihenilaaGreatMhMtT
import Derived.Test.YtlfbbahihenilaaGreatMg30
import Derived.Test.YtlfbbahihenilaaGreatRows
namespace Go.Proofs.YtlfbbahihenilaaGreat.Ne
open Go.RowKit Go.V Go.Proofs

theorem way_chg {W4 W5 W6 : World} {mg : Nat} {s r l : Hdr} {ss : List Int} {R : List Rn} {L : List Lg} (h : WayIn W4 s r l ss R L) (hb : Below W4.heap.size W4 W5) (hc : Chg W5 W6 mg none) (hm : W4.heap.size ≤ mg) : WayIn W6 s r l ss R L := by
  have key : ∀ (b : Nat), b < W4.heap.size → W6.heap[b]? = W4.heap[b]? := fun b hlt => (hc.block b (Nat.lt_of_lt_of_le hlt hb.size) (by omega) (by simp)).trans (hb.block b hlt)
  have hz : W4.heap.size ≤ W6.heap.size := Nat.le_trans hb.size hc.size
  exact ⟨sl_kept h.s hz (fun d hd hcp => key _ (h.s.hat d hd hcp).2.1), sl_kept h.r hz (fun d hd hcp => key _ (h.r.hat d hd hcp).2.1), sl_kept h.l hz (fun d hd hcp => key _ (h.l.hat d hd hcp).2.1)⟩
theorem way_ochg {B : Nat} {W W' : World} {mg : Nat} {s r l : Hdr} {ss : List Int} {R : List Rn} {L : List Lg} (h : WayOwn B W s r l ss R L) (hc : Chg W W' mg none) (hm : mg < B) : WayOwn B W' s r l ss R L := ⟨own_chg h.s hc hm, own_chg h.r hc hm, own_chg h.l hc hm⟩
theorem way_chg2 {W7 W8 W9 : World} {mg : Nat} {s r l : Hdr} {ss : List Int} {R : List Rn} {L : List Lg} (h7 : WayIn W7 s r l ss R L) (h : WayIn W8 s r l ss R L) (hc : Chg W8 W9 mg none) (hm : W7.heap.size ≤ mg) (hz : W7.heap.size ≤ W8.heap.size) : WayIn W9 s r l ss R L :=
  ⟨sl_kept h.s hc.size (fun d hd hcp => hc.block _ (by have := (h7.s.hat d hd hcp).2.1; omega) (by have := (h7.s.hat d hd hcp).2.1; omega) (by simp)), sl_kept h.r hc.size (fun d hd hcp => hc.block _ (by have := (h7.r.hat d hd hcp).2.1; omega) (by have := (h7.r.hat d hd hcp).2.1; omega) (by simp)), sl_kept h.l hc.size (fun d hd hcp => hc.block _ (by have := (h7.l.hat d hd hcp).2.1; omega) (by have := (h7.l.hat d hd hcp).2.1; omega) (by simp))⟩
/-- The same network, another version. -/
def othV (n : Net) : Net := ⟨n.ver.tmod 100 + 1, n.stops, n.links⟩
theorem tmod_in {v : Int} (h : 1 ≤ v) : 0 ≤ v.tmod 100 ∧ v.tmod 100 < 100 := by
  rw [Int.tmod_eq_emod_of_nonneg (by omega)]
  omega
theorem oth_check {n : Net} (h : checkE n = 0) : checkE (othV n) = 0 ∧ (othV n).ver ≠ n.ver ∧ 1 ≤ n.ver ∧ n.ver ≤ 1048576 := by
  unfold checkE at h ⊢
  split at h
  · next h1 =>
    split at h
    · next h2 =>
      unfold netB at h2
      rw [Bool.and_eq_true, Bool.and_eq_true] at h2
      have hv := of_decide_eq_true h2.1.1
      have ht := tmod_in hv.1
      have h3 : netB (othV n) = true := by
        unfold netB
        rw [Bool.and_eq_true, Bool.and_eq_true]
        refine ⟨⟨decide_eq_true ?_, h2.1.2⟩, h2.2⟩
        show 1 ≤ n.ver.tmod 100 + 1 ∧ n.ver.tmod 100 + 1 ≤ 1048576
        omega
      refine ⟨by rw [if_pos (show (othV n).stops.length ≤ 4096 ∧ (othV n).links.length ≤ 16384 from h1), if_pos h3], ?_, hv⟩
      show n.ver.tmod 100 + 1 ≠ n.ver
      rw [Int.tmod_eq_emod_of_nonneg (by omega)]
      omega
    · cases h
  · cases h

set_option maxHeartbeats 16000000 in
set_option maxRecDepth 100000 in
theorem mtells_any (n : Net) (hs hl : Hdr) (r : Rul) (la : Option Addr) (ln lc : Nat) (l : List Smp) (w : World) (hnet : NetIn w n hs hl) (hL : Sl Smp.cod w la ln lc l) :
    Calls Tryz.prog 3 #[n.val hs hl, r.val, .slice la ln lc] w fun e w' => e = .returned (.bool true) ∧ Below w.heap.size w w' := by
  obtain ⟨W0, hW0⟩ : ∃ W0, (w.alloc (n.box hs hl)).alloc r.box = W0 := ⟨_, rfl⟩
  have HX0 : Hid (W0.heap[w.heap.size]? = some (n.box hs hl)) := by rw [← hW0]; exact box_alloc (box_new w _)
  have HY0 : Hid (W0.heap[w.heap.size + 1]? = some r.box) := by
    rw [← hW0]
    have := box_new (w.alloc (n.box hs hl)) r.box
    rwa [World.size_alloc] at this
  have HB0 : Hid (Below w.heap.size w W0) := by rw [← hW0]; exact ((Below.refl _ _).alloc (Nat.le_refl _) _).alloc (by simp) _
  have HNT := Lib.hid hnet
  have HL := Lib.hid hL
  have hs9 : hs.n ≤ 9223372036854775807 := by have := hnet.s.hcap; have := hnet.s.hmax; unfold maxLen at this; omega
  obtain ⟨⟨sp, gp⟩, ⟨xr, xm, xf, xc⟩, st⟩ := r
  obtain ⟨c0, c1, c2⟩ := gcheck_box HX0.out
  obtain ⟨d0, d1, d2, d3, d4, d5, d6⟩ := box7_cells HY0.out
  obtain ⟨bf, hbf⟩ : ∃ b, decide (hs.n ≤ 60 ∧ hl.n ≤ 120) = b := ⟨_, rfl⟩
  have HBF := Lib.hid hbf
  clear hnet hL hbf
  cases bf with
  | false =>
    go_enter Tryz.func3, Tryz.ntmps3
    go_wp2_with (first
      | (go_at_call 6; go_fit (awake26_any _); rintro e w1 ⟨rfl, hb1⟩; have HX1 := Lib.hid (box_below HX0.out hb1); have HY1 := Lib.hid (box_below HY0.out hb1); obtain ⟨c0, c1, c2⟩ := gcheck_box HX1.out; obtain ⟨d0, d1, d2, d3, d4, d5, d6⟩ := box7_cells HY1.out; have HB1 := Lib.hid (HB0.out.trans (hb1.mono HB0.out.size)); clear hb1)
      | (go_at_call 7; go_fit (few_any n hs hl _); rintro e w2 ⟨rfl, hb2⟩; rw [HBF.out]; have HX2 := Lib.hid (box_below HX1.out hb2); have HY2 := Lib.hid (box_below HY1.out hb2); obtain ⟨c0, c1, c2⟩ := gcheck_box HX2.out; obtain ⟨d0, d1, d2, d3, d4, d5, d6⟩ := box7_cells HY2.out; have HB2 := Lib.hid (HB1.out.trans (hb2.mono HB1.out.size)); clear hb2))
    go_ret
    exact ⟨rfl, HB2.out⟩
  | true =>
  obtain ⟨m1, m2⟩ := of_decide_eq_true HBF.out
  by_cases h12 : (12 : Int) < (hs.n : Int)
  · have h12d : decide ((12 : Int) < (hs.n : Int)) = true := decide_eq_true h12
    go_enter Tryz.func3, Tryz.ntmps3
    go_wp2_with (first
      | (go_at_call 6; go_fit (awake26_any _); rintro e w1 ⟨rfl, hb1⟩; have HX1 := Lib.hid (box_below HX0.out hb1); have HY1 := Lib.hid (box_below HY0.out hb1); obtain ⟨c0, c1, c2⟩ := gcheck_box HX1.out; obtain ⟨d0, d1, d2, d3, d4, d5, d6⟩ := box7_cells HY1.out; have HB1 := Lib.hid (HB0.out.trans (hb1.mono HB0.out.size)); clear hb1)
      | (go_at_call 7; go_fit (few_any n hs hl _); rintro e w2 ⟨rfl, hb2⟩; rw [HBF.out]; have HX2 := Lib.hid (box_below HX1.out hb2); have HY2 := Lib.hid (box_below HY1.out hb2); obtain ⟨c0, c1, c2⟩ := gcheck_box HX2.out; obtain ⟨d0, d1, d2, d3, d4, d5, d6⟩ := box7_cells HY2.out; have HB2 := Lib.hid (HB1.out.trans (hb2.mono HB1.out.size)); clear hb2))
    go_ret
    exact ⟨rfl, HB2.out⟩
  have h12d : decide ((12 : Int) < (hs.n : Int)) = false := decide_eq_false h12
  by_cases h60 : (60 : Int) < (ln : Int)
  · have h60d : decide ((60 : Int) < (ln : Int)) = true := decide_eq_true h60
    go_enter Tryz.func3, Tryz.ntmps3
    go_wp2_with (first
      | (go_at_call 6; go_fit (awake26_any _); rintro e w1 ⟨rfl, hb1⟩; have HX1 := Lib.hid (box_below HX0.out hb1); have HY1 := Lib.hid (box_below HY0.out hb1); obtain ⟨c0, c1, c2⟩ := gcheck_box HX1.out; obtain ⟨d0, d1, d2, d3, d4, d5, d6⟩ := box7_cells HY1.out; have HB1 := Lib.hid (HB0.out.trans (hb1.mono HB0.out.size)); clear hb1)
      | (go_at_call 7; go_fit (few_any n hs hl _); rintro e w2 ⟨rfl, hb2⟩; rw [HBF.out]; have HX2 := Lib.hid (box_below HX1.out hb2); have HY2 := Lib.hid (box_below HY1.out hb2); obtain ⟨c0, c1, c2⟩ := gcheck_box HX2.out; obtain ⟨d0, d1, d2, d3, d4, d5, d6⟩ := box7_cells HY2.out; have HB2 := Lib.hid (HB1.out.trans (hb2.mono HB1.out.size)); clear hb2))
    go_ret
    exact ⟨rfl, HB2.out⟩
  have h60d : decide ((60 : Int) < (ln : Int)) = false := decide_eq_false h60
  have hln : ln ≤ 60 := by omega
  obtain ⟨X, hX⟩ : ∃ X, trE n hs.n ⟨⟨sp, gp⟩, ⟨xr, xm, xf, xc⟩, st⟩ l = X := ⟨_, rfl⟩
  have HXE := Lib.hid hX
  have HM1 : Hid (∀ V, Below w.heap.size w V → Calls Tryz.prog 8 #[n.val hs hl, (Rul.mk ⟨sp, gp⟩ ⟨xr, xm, xf, xc⟩ st).val, .slice la ln lc] V fun e w' => ∃ s rr lg, e = .returned (.tuple #[wayV s rr lg X.cost, .int .i64 X.err]) ∧ WayIn w' s rr lg X.ss X.R X.L ∧ Below V.heap.size V w') := fun V hV => by
    refine (mtch_any n hs hl ⟨⟨sp, gp⟩, ⟨xr, xm, xf, xc⟩, st⟩ la ln lc l V (HNT.out.below hV) ⟨m1, m2⟩ hln (HL.out.below hV)).mono ?_
    rintro e w' ⟨s, rr, lg, rfl, ho, hb⟩
    rw [hX] at ho ⊢
    exact ⟨s, rr, lg, rfl, ho.in_, hb⟩
  have HM2 : Hid (∀ V, Below w.heap.size w V → Calls Tryz.prog 9 #[n.val hs hl, (Rul.mk ⟨sp, gp⟩ ⟨xr, xm, xf, xc⟩ st).val, .slice la ln lc, .int .i64 150] V fun e w' => ∃ s rr lg cost f, e = .returned (.tuple #[wayV s rr lg cost, .int .i64 f]) ∧ Below V.heap.size V w' ∧ (f < 0 ∨ (f = X.err ∧ cost = X.cost ∧ WayIn w' s rr lg X.ss X.R X.L))) := fun V hV => by
    have := rmtch_any n hs hl ⟨⟨sp, gp⟩, ⟨xr, xm, xf, xc⟩, st⟩ la ln lc l V (HNT.out.below hV) ⟨m1, m2⟩ hln (HL.out.below hV)
    rw [hX] at this
    exact this
  clear hX
  have mixed : Tryz.prog.follows .mixedOrders = true := by kernel_rfl
  obtain ⟨bm, hbm⟩ : ∃ b, mayR ⟨⟨sp, gp⟩, ⟨xr, xm, xf, xc⟩, st⟩ = b := ⟨_, rfl⟩
  have HMR := Lib.hid hbm
  clear hbm
  go_enter Tryz.func3, Tryz.ntmps3
  go_upto_region 7 with (first
    | (go_at_call 6; go_fit (awake26_any _); rintro e w1 ⟨rfl, hb1⟩; have HX1 := Lib.hid (box_below HX0.out hb1); have HY1 := Lib.hid (box_below HY0.out hb1); obtain ⟨c0, c1, c2⟩ := gcheck_box HX1.out; obtain ⟨d0, d1, d2, d3, d4, d5, d6⟩ := box7_cells HY1.out; have HB1 := Lib.hid (HB0.out.trans (hb1.mono HB0.out.size)); clear hb1)
    | (go_at_call 7; go_fit (few_any n hs hl _); rintro e w2 ⟨rfl, hb2⟩; rw [HBF.out]; have HX2 := Lib.hid (box_below HX1.out hb2); have HY2 := Lib.hid (box_below HY1.out hb2); obtain ⟨c0, c1, c2⟩ := gcheck_box HX2.out; obtain ⟨d0, d1, d2, d3, d4, d5, d6⟩ := box7_cells HY2.out; have HB2 := Lib.hid (HB1.out.trans (hb2.mono HB1.out.size)); clear hb2)
    | (go_at_call 8; go_fit (HM1.out _ HB2.out); rintro e w3 ⟨s1, r1, l1, rfl, ho3, hb3⟩; have HW3 := Lib.hid ho3; have HX3 := Lib.hid (box_below HX2.out hb3); have HY3 := Lib.hid (box_below HY2.out hb3); obtain ⟨c0, c1, c2⟩ := gcheck_box HX3.out; obtain ⟨d0, d1, d2, d3, d4, d5, d6⟩ := box7_cells HY3.out; have HB3 := Lib.hid (HB2.out.trans (hb3.mono HB2.out.size)); clear hb3 ho3; have hba4 : Below w3.heap.size w3 (w3.alloc (.cells #[.slice s1.a s1.n s1.cap, .int .i64 X.cost, .slice r1.a r1.n r1.cap, .slice l1.a l1.n l1.cap] 39)) := (Below.refl _ _).alloc (Nat.le_refl _) _; have HT7 := Lib.hid (box_new w3 (.cells #[.slice s1.a s1.n s1.cap, .int .i64 X.cost, .slice r1.a r1.n r1.cap, .slice l1.a l1.n l1.cap] 39)); have HXa := Lib.hid (box_below HX3.out hba4); have HYa := Lib.hid (box_below HY3.out hba4); have HBa := Lib.hid (HB3.out.trans (hba4.mono HB3.out.size)); have HWa := Lib.hid (HW3.out.below hba4); obtain ⟨c0, c1, c2⟩ := gcheck_box HXa.out; obtain ⟨d0, d1, d2, d3, d4, d5, d6⟩ := box7_cells HYa.out)
    | (go_at_call 9; go_fit (HM2.out _ HBa.out); rintro e w4 ⟨s2, r2, l2, cost2, f2, rfl, hb4, ho4⟩; have HF4 := Lib.hid ho4; have HX4 := Lib.hid (box_below HXa.out hb4); have HY4 := Lib.hid (box_below HYa.out hb4); have HT4 := Lib.hid (box_below HT7.out hb4); have HW4 := Lib.hid (HWa.out.below hb4); have HB4 := Lib.hid (HBa.out.trans (hb4.mono HBa.out.size)); obtain ⟨c0, c1, c2⟩ := gcheck_box HX4.out; obtain ⟨d0, d1, d2, d3, d4, d5, d6⟩ := box7_cells HY4.out; clear hb4 ho4))
  have hba5 : Below w4.heap.size w4 (w4.alloc (.cells #[.slice s2.a s2.n s2.cap, .int .i64 cost2, .slice r2.a r2.n r2.cap, .slice l2.a l2.n l2.cap] 39)) := (Below.refl _ _).alloc (Nat.le_refl _) _
  have HT9 := Lib.hid (box_new w4 (.cells #[.slice s2.a s2.n s2.cap, .int .i64 cost2, .slice r2.a r2.n r2.cap, .slice l2.a l2.n l2.cap] 39))
  obtain ⟨w5, hw5⟩ : ∃ w5, w4.alloc (.cells #[.slice s2.a s2.n s2.cap, .int .i64 cost2, .slice r2.a r2.n r2.cap, .slice l2.a l2.n l2.cap] 39) = w5 := ⟨_, rfl⟩
  rw [hw5] at hba5 HT9 ⊢
  have HX5 := Lib.hid (box_below HX4.out hba5)
  have HY5 := Lib.hid (box_below HY4.out hba5)
  have HT5 := Lib.hid (box_below HT4.out hba5)
  have HW5 := Lib.hid (HW4.out.below hba5)
  have HB5 := Lib.hid (HB4.out.trans (hba5.mono HB4.out.size))
  have HF5 : Hid (f2 < 0 ∨ (f2 = X.err ∧ cost2 = X.cost ∧ WayIn w5 s2 r2 l2 X.ss X.R X.L)) := by
    rcases HF4.out with h | ⟨h1, h2, h3⟩
    · exact .inl h
    · exact .inr ⟨h1, h2, h3.below hba5⟩
  clear hw5 hba5 c0 c1 c2 d0 d1 d2 d3 d4 d5 d6
  obtain ⟨d0, d1, d2, d3, d4, d5, d6⟩ := box7_cells HY5.out
  have D0 := cell_regrown d0
  have D1 := cell_regrown d1
  have D2 := cell_regrown d2
  have D3 := cell_regrown d3
  have D4 := cell_regrown d4
  have D5 := cell_regrown d5
  have D6 := cell_regrown d6
  have q1 : ∀ nd osq, Calls Tryz.prog 10 #[(Rul.mk ⟨sp, gp⟩ ⟨xr, xm, xf, xc⟩ st).val] (Go.Sort.grow (redrawn w5 nd) osq) fun e w' => e = .returned (.bool bm) ∧ Below (Go.Sort.grow (redrawn w5 nd) osq).heap.size (Go.Sort.grow (redrawn w5 nd) osq) w' := fun nd osq => (mtmay_any ⟨⟨sp, gp⟩, ⟨xr, xm, xf, xc⟩, st⟩ _).mono fun e w' ⟨k1, k2⟩ => ⟨by rw [k1, HMR.out], k2⟩
  have q2 : ∀ nd osq, Calls Tryz.prog 11 #[(Rul.mk ⟨sp, gp⟩ ⟨xr, xm, xf, xc⟩ st).val] (Go.Sort.grow (redrawn w5 nd) osq) fun e w' => e = .returned (.bool bm) ∧ Below (Go.Sort.grow (redrawn w5 nd) osq).heap.size (Go.Sort.grow (redrawn w5 nd) osq) w' := fun nd osq => (rmtmay_any ⟨⟨sp, gp⟩, ⟨xr, xm, xf, xc⟩, st⟩ _).mono fun e w' ⟨k1, k2⟩ => ⟨by rw [k1, HMR.out], k2⟩
  have hbm : (bm != bm) = false := by simp
  clear d0 d1 d2 d3 d4 d5 d6
  refine wp_region_quiet_below (by assumption) (by kernel_rfl) ?_
  repeat (go_big_quiet_step (first
    | (go_at_call 10; exact Calls.regrown_of (q1 _ _))
    | (go_at_call 11; exact Calls.regrown_of (q2 _ _))))
  refine wpQuiet_nil ?_
  intro w6 hw6
  obtain ⟨⟨nd, osq⟩, rfl⟩ := hw6
  have hbq := below_regrown w5 nd osq
  generalize Go.Sort.grow (redrawn w5 nd) osq = w6 at hbq ⊢
  have HX6 := Lib.hid (box_below HX5.out hbq)
  have HY6 := Lib.hid (box_below HY5.out hbq)
  have HT6 := Lib.hid (box_below HT5.out hbq)
  have HV6 := Lib.hid (box_below HT9.out hbq)
  have HW6 := Lib.hid (HW5.out.below hbq)
  have HB6 := Lib.hid (HB5.out.trans (hbq.mono HB5.out.size))
  have HF6 : Hid (f2 < 0 ∨ (f2 = X.err ∧ cost2 = X.cost ∧ WayIn w6 s2 r2 l2 X.ss X.R X.L)) := by
    rcases HF5.out with h | ⟨h1, h2, h3⟩
    · exact .inl h
    · exact .inr ⟨h1, h2, h3.below hbq⟩
  clear hbq D0 D1 D2 D3 D4 D5 D6 q1 q2 hbm
  go_upto_region 9 with fail
  go_cut [65] (fun v wx => v = .bool false ∧ Hid (Below w6.heap.size w6 wx))
  case first =>
    by_cases hf : f2 < 0
    · have hfd : decide (0 ≤ f2) = false := decide_eq_false (by omega)
      go_wp2_with fail
      go_meet
      exact ⟨rfl, Below.refl _ _⟩
    · have hfd : decide (0 ≤ f2) = true := decide_eq_true (by omega)
      obtain ⟨rfl, rfl, hw⟩ : f2 = X.err ∧ cost2 = X.cost ∧ WayIn w6 s2 r2 l2 X.ss X.R X.L := by
        rcases HF6.out with h | h
        · exact absurd h hf
        · exact h
      have HWX := Lib.hid hw
      clear hw hf
      obtain ⟨a0, a1, a2, a3⟩ := box4w_cells HT6.out
      obtain ⟨b0, b1, b2, b3⟩ := box4w_cells HV6.out
      go_wp2_with (go_at_call 12; go_fit (wsame_true s1 r1 l1 s2 r2 l2 X.cost X.ss X.R X.L _ HW6.out HWX.out); rintro e w7 ⟨rfl, hb7⟩; have HB7 := Lib.hid hb7; clear hb7)
      go_meet
      exact ⟨rfl, HB7.out⟩
  case rest =>
    obtain ⟨rfl, hcut⟩ := hcut
    have hbq := hcut.out
    rename World => w7
    have HX7 := Lib.hid (box_below HX6.out hbq)
    have HY7 := Lib.hid (box_below HY6.out hbq)
    have HT7' := Lib.hid (box_below HT6.out hbq)
    have HW7 := Lib.hid (HW6.out.below hbq)
    have HB7 := Lib.hid (HB6.out.trans (hbq.mono HB6.out.size))
    clear hcut hbq HF4 HF5 HF6
    obtain ⟨c0, c1, c2⟩ := gcheck_box HX7.out
    obtain ⟨ce, hce⟩ : ∃ ce, checkE n = ce := ⟨_, rfl⟩
    have HCE := Lib.hid hce
    clear hce
    by_cases h0 : ce = 0
    case neg =>
      have h0b : (ce != 0) = true := by simpa using h0
      have hxe : X.err = ce := by rw [← HXE.out, trE_check (by rw [HCE.out]; exact h0), HCE.out]; rfl
      have HC0 := Lib.hid h0
      clear h0
      go_wp2_with (go_at_call 13; go_fit (tnew_any n hs hl _ ⟨by omega, by omega⟩ (HNT.out.below HB7.out)); rintro e w8 ⟨hb8, hno, -⟩; have he := hno (by rw [HCE.out]; exact HC0.out); subst he; rw [HCE.out]; have HB8 := Lib.hid (HB7.out.trans (hb8.mono HB7.out.size)); clear hb8 hno)
      go_ret
      exact ⟨by first | rfl | exact ret_bool (by simp), HB8.out⟩
    subst h0
    have hoc := oth_check HCE.out
    have HOC := Lib.hid hoc
    obtain ⟨vo, hvo⟩ : ∃ vo, n.ver.tmod 100 = vo := ⟨_, rfl⟩
    have hvb := tmod_in hoc.2.2.1
    rw [hvo] at hvb
    have hwv : IntKind.i64.wrap (vo + 1) = vo + 1 := by rw [IntKind.wrap_i64]; omega
    have hvd : (vo + 1 == n.ver) = false := by
      have := hoc.2.1
      have e : (othV n).ver = vo + 1 := by show n.ver.tmod 100 + 1 = _; rw [hvo]
      rw [e] at this
      simpa using this
    have HVO := Lib.hid hvo
    clear hoc hvb
    go_upto_region 15 with (first
      | (go_at_call 13; go_fit (tnew_any n hs hl _ ⟨by omega, by omega⟩ (HNT.out.below HB7.out)); rintro e w8 ⟨hb8, -, hf⟩; obtain ⟨tg, rfl, mg, ht, hne⟩ := hf HCE.out; have HTB := Lib.hid ht; have HNE := Lib.hid hne; have HX8 := Lib.hid (box_below HX7.out hb8); have HY8 := Lib.hid (box_below HY7.out hb8); have HT8 := Lib.hid (box_below HT7'.out hb8); have HB78 := Lib.hid hb8; have HB8 := Lib.hid (HB7.out.trans (hb8.mono HB7.out.size)); obtain ⟨c0, c1, c2⟩ := gcheck_box HX8.out; obtain ⟨d0, d1, d2, d3, d4, d5, d6⟩ := box7_cells HY8.out; clear hb8 hf ht hne)
      | (go_at_call 14; go_fit (with_any w7.heap.size tg mg 0 n n hs hl hs hl ⟨⟨sp, gp⟩, ⟨xr, xm, xf, xc⟩, st⟩ la ln lc l _ HTB.out HNE.out (fun _ => by omega) (HNT.out.below HB8.out) rfl ⟨m1, m2⟩ hln (HL.out.below HB8.out) (fun _ => ⟨rfl, rfl, rfl⟩)); rintro e w9 ⟨s3, r3, l3, rfl, ho9, ht9, hc9⟩; rw [trT_self, HXE.out] at ho9 ⊢; have HO9 := Lib.hid ho9; have HT9b := Lib.hid ht9; have HC9 := Lib.hid hc9; have hmg7 : w7.heap.size ≤ mg := HTB.out.bm; have hz7 := box_lt HY7.out; have hmg8 : mg < w8.heap.size := HTB.out.mg_lt; have HX9 := Lib.hid (hc9.box HX8.out (by omega) (by simp)); have HY9 := Lib.hid (hc9.box HY8.out (by omega) (by simp)); have hz77 := box_lt HT7'.out; have HT9c := Lib.hid (hc9.box HT8.out (by omega) (by simp)); have HW9 := Lib.hid (way_chg HW7.out HB78.out hc9 hmg7); have HMGS : Hid (w7.heap.size ≤ mg ∧ mg < w8.heap.size) := ⟨hmg7, hmg8⟩; have HB9 : Hid (Below w.heap.size w w9) := HB8.out.trans (hc9.below (by have := HB7.out.size; omega) (by simp) HB8.out.size); have hb10 : Below w9.heap.size w9 (w9.alloc (.cells #[.slice s3.a s3.n s3.cap, .int .i64 X.cost, .slice r3.a r3.n r3.cap, .slice l3.a l3.n l3.cap] 39)) := (Below.refl _ _).alloc (Nat.le_refl _) _; have HU10 := Lib.hid (box_new w9 (.cells #[.slice s3.a s3.n s3.cap, .int .i64 X.cost, .slice r3.a r3.n r3.cap, .slice l3.a l3.n l3.cap] 39)); have HX10 := Lib.hid (box_below HX9.out hb10); have HY10 := Lib.hid (box_below HY9.out hb10); have HT10 := Lib.hid (box_below HT9c.out hb10); have HW10 := Lib.hid (HW9.out.below hb10); have HO10 := Lib.hid (way_below HO9.out hb10); have HTB10 := Lib.hid (HT9b.out.below hb10); have HB10 := Lib.hid (HB9.out.trans (hb10.mono HB9.out.size)); obtain ⟨c0, c1, c2⟩ := gcheck_box HX10.out; obtain ⟨d0, d1, d2, d3, d4, d5, d6⟩ := box7_cells HY10.out; clear ho9 ht9 hc9 hb10 hmg7 hmg8 hz7 hz77))
    obtain ⟨w10, hw10⟩ : ∃ w10, w9.alloc (.cells #[.slice s3.a s3.n s3.cap, .int .i64 X.cost, .slice r3.a r3.n r3.cap, .slice l3.a l3.n l3.cap] 39) = w10 := ⟨_, rfl⟩
    rw [hw10] at HU10 HX10 HY10 HT10 HW10 HO10 HTB10 HB10 c0 c1 c2 d0 d1 d2 d3 d4 d5 d6 ⊢
    clear hw10
    have hvo := HVO.out
    have hb11 : Below w10.heap.size w10 (w10.alloc (.cells #[.int .i64 (vo + 1), .slice hs.a hs.n hs.cap, .slice hl.a hl.n hl.cap] 25)) := (Below.refl _ _).alloc (Nat.le_refl _) _
    have HC11 := Lib.hid (box_new w10 (.cells #[.int .i64 (vo + 1), .slice hs.a hs.n hs.cap, .slice hl.a hl.n hl.cap] 25))
    have hu10 := box_lt HU10.out
    have hxl := box_lt HX10.out
    have HX11 := Lib.hid (box_below HX10.out hb11)
    have HY11 := Lib.hid (box_below HY10.out hb11)
    have HT11 := Lib.hid (box_below HT10.out hb11)
    have HU11 := Lib.hid (box_below HU10.out hb11)
    have HW11 := Lib.hid (HW10.out.below hb11)
    have HO11 := Lib.hid (way_below HO10.out hb11)
    have HTB11 := Lib.hid (HTB10.out.below hb11)
    have HB11 := Lib.hid (HB10.out.trans (hb11.mono HB10.out.size))
    clear hb11
    go_upto_region 17 with fail
    obtain ⟨w11, hw11⟩ : ∃ w11, w10.alloc (.cells #[.int .i64 (vo + 1), .slice hs.a hs.n hs.cap, .slice hl.a hl.n hl.cap] 25) = w11 := ⟨_, rfl⟩
    rw [hw11] at HC11 HX11 HY11 HT11 HU11 HW11 HO11 HTB11 HB11 ⊢
    clear hw11 c0 c1 c2 d0 d1 d2 d3 d4 d5 d6 hvo
    obtain ⟨c0, c1, c2⟩ := gcheck_box HX11.out
    obtain ⟨e0, e1, e2, -, -, -⟩ := box3_cells HC11.out
    obtain ⟨d0, d1, d2, d3, d4, d5, d6⟩ := box7_cells HY11.out
    have HOV : Hid (othV n = ⟨vo + 1, n.stops, n.links⟩) := by show _ = _; unfold othV; rw [HVO.out]
    have HTT : Hid (trT n (othV n) hs.n ⟨⟨sp, gp⟩, ⟨xr, xm, xf, xc⟩, st⟩ l = wayNo 2) := by
      show _ = _
      unfold trT
      rw [if_neg (fun e => HOC.out.2.1 e.symm), if_neg (fun e => e HOC.out.1)]
    have HWI : Hid (Calls Tryz.prog 14 #[.pointer (some ⟨tg, 0, none⟩), .agg #[.int .i64 (vo + 1), .slice hs.a hs.n hs.cap, .slice hl.a hl.n hl.cap], (Rul.mk ⟨sp, gp⟩ ⟨xr, xm, xf, xc⟩ st).val, .slice la ln lc] w11 fun e w' => ∃ s rr lg, e = .returned (.tuple #[wayV s rr lg 0, .int .i64 2]) ∧ Chg w11 w' mg none) := by
      have h := with_any w7.heap.size tg mg (0 + 20000) n (othV n) hs hl hs hl ⟨⟨sp, gp⟩, ⟨xr, xm, xf, xc⟩, st⟩ la ln lc l w11 HTB11.out HNE.out (fun e => absurd e.symm HOC.out.2.1) ⟨(HNT.out.below HB11.out).s, (HNT.out.below HB11.out).l⟩ rfl ⟨m1, m2⟩ hln (HL.out.below HB11.out) (fun e => absurd e.symm HOC.out.2.1)
      rw [HTT.out, HOV.out] at h
      refine h.mono ?_
      rintro e w' ⟨s, rr, lg, rfl, ho, ht, hc⟩
      exact ⟨s, rr, lg, rfl, hc⟩
    have hz7 := box_lt HT7'.out
    have hz77 := HMGS.out
    have hz89 := HC9.out.size
    have hu11 := box_lt HU11.out
    go_wp2_with (first
      | (go_at_call 14; go_fit HWI.out; rintro e w12 ⟨s4, r4, l4, rfl, hc12⟩; have hx11 := box_lt HX11.out; have hz10 := HB10.out.size; have HT12 := Lib.hid (hc12.box HT11.out (by omega) (by simp)); have HU12 := Lib.hid (hc12.box HU11.out (by omega) (by simp)); have HW12 := Lib.hid (way_chg2 HW7.out HW11.out hc12 hz77.1 (by omega)); have HO12 := Lib.hid (way_ochg HO11.out hc12 hz77.2).in_; have HB12 : Hid (Below w.heap.size w w12) := HB11.out.trans (hc12.below (by have := HB7.out.size; omega) (by simp) HB11.out.size); have hb13 : Below w12.heap.size w12 (w12.alloc (.cells #[.slice s4.a s4.n s4.cap, .int .i64 0, .slice r4.a r4.n r4.cap, .slice l4.a l4.n l4.cap] 39)) := (Below.refl _ _).alloc (Nat.le_refl _) _; have HT13 := Lib.hid (box_below HT12.out hb13); have HU13 := Lib.hid (box_below HU12.out hb13); have HWY := Lib.hid (HW12.out.below hb13); have HOY := Lib.hid (HO12.out.below hb13); have HB13 := Lib.hid (HB12.out.trans (hb13.mono HB12.out.size)); obtain ⟨a0, a1, a2, a3⟩ := box4w_cells HT13.out; obtain ⟨b0, b1, b2, b3⟩ := box4w_cells HU13.out; clear hc12 hb13)
      | (go_at_call 12; go_fit (wsame_true s1 r1 l1 s3 r3 l3 X.cost X.ss X.R X.L _ HWY.out HOY.out); rintro e w14 ⟨rfl, hb14⟩; have HB14 := Lib.hid (HB13.out.trans (hb14.mono HB13.out.size)); clear hb14))
    go_ret
    exact ⟨rfl, HB14.out⟩
end Go.Proofs.YtlfbbahihenilaaGreat.Ne

namespace Go.Proofs.YtlfbbahihenilaaGreat.lawMatchTells
open Go.ChangeShapes Go.WideShapes Go.ChangeAt Go.RowKit Go.V Go.Proofs.YtlfbbahihenilaaGreat.Ne

theorem own : ownKnob Tryz.prog.godebug = none := by kernel_rfl
theorem laidOut : laidOutB Tryz.prog = true := by kernel_rfl

set_option maxRecDepth 100000 in
theorem lifted (os : Os) (started : os.Started) (H : Type) (enc : TypeId × Value → H) :
    ReturnsInHanded {} Tryz.checked os 3 .any (Rows.matchTellsSpec.pre6 enc Tryz.prog Tryz.f3 Rows.matchTellsRow.domain false) (Rows.matchTellsSpec.post enc Tryz.prog Tryz.f3 false true false false) := by
  refine returnsInHanded_of_change (C := Tryz.checked) own started (by kernel_rfl) Tryz.func3
    (ChangeSpec.witness6 (enc := enc) (C := Tryz.checked) false ⟨#[], #[.agg #[.int .i64 0, .slice none 0 0, .slice none 0 0], .agg #[.int .i64 0, .int .i64 0, .int .i64 0, .int .i64 0, .int .i64 0, .int .i64 0, .int .i64 0], .slice none 0 0], []⟩ 8 (by kernel_rfl) (by kernel_rfl) (by kernel_rfl) (by kernel_rfl)) ?_
  intro W base args ds gs before hval0 hW hcnd _
  have hval : ∀ (j : Nat) t v, Tryz.f3.params[j]? = some t → args[j]? = some v → Value.okWide Tryz.prog W .any base t v := hval0
  have hW' := hW
  obtain ⟨p, q, hA0, hV, rfl, hfz, hnd⟩ := hW
  have hA : DataW.TrodAll enc Tryz.prog W 0 (fun _ => true) true Tryz.f3.params.toList args.toList ds p := hA0
  rw [Tryz.params3] at hA hval
  obtain ⟨v0, vs0, d0, ds0, p0, q0, hargs, rfl, rfl, h0, r0⟩ := trodAll_cons hA
  obtain ⟨v1, vs1, d1, ds1, p1, q1, rfl, rfl, rfl, h1, r1⟩ := trodAll_cons r0
  obtain ⟨v2, vs2, d2, ds2, p2, q2, rfl, rfl, rfl, h2, r2⟩ := trodAll_cons r1
  obtain ⟨rfl, rfl, rfl⟩ := trodAll_nil r2
  obtain rfl : args = #[v0, v1, v2] := by cases args; simp_all
  obtain ⟨rfl, rfl⟩ := trodVars_none hV
  have k0 := h0
  have lt0 : ∀ x ∈ p0, x.block < W.heap.size := by obtain ⟨m, hm⟩ := k0; exact DataW.trod_lt m _ _ _ hm
  have k1 := h1
  have lt1 : ∀ x ∈ p1, x.block < W.heap.size := by obtain ⟨m, hm⟩ := k1; exact DataW.trod_lt m _ _ _ hm
  have k2 := h2
  have lt2 : ∀ x ∈ p2, x.block < W.heap.size := by obtain ⟨m, hm⟩ := k2; exact DataW.trod_lt m _ _ _ hm
  obtain ⟨nt, hs, hl, rfl, hnt, -, -, -⟩ := open_net (hval 0 25 v0 rfl rfl) h0
  obtain ⟨ru, rfl⟩ := open_rul (hval 1 31 v1 rfl rfl) h1
  obtain ⟨ma2, mn2, mc2, ms2, rfl, hms2, -⟩ := open_sl (c := Smp.cod) (ok := Smp.ok) Tryz.underlying32 (by kernel_rfl) (fun n cs y => smp_opened n cs y) (hval 2 32 v2 rfl rfl) h2
  clear hA0 hval0
  refine (mtells_any nt hs hl ru ma2 mn2 mc2 ms2 W hnt hms2).mono fun e W' ⟨he, bel⟩ => ?_
  subst he
  exact ⟨_, rfl, _, _, _, [], _, [], hW', trodAll_mk1 (shut_bool Tryz.underlying4 _), (trodAll_cons_mk (Below.trod laidOut (by kernel_rfl) (of_decide_eq_true (by kernel_rfl)) k0 bel lt0) (trodAll_cons_mk (Below.trod laidOut (by kernel_rfl) (of_decide_eq_true (by kernel_rfl)) k1 bel lt1) (trodAll_cons_mk (Below.trod laidOut (by kernel_rfl) (of_decide_eq_true (by kernel_rfl)) k2 bel lt2) trodAll_mk0))), rfl, bel.frame _, fun h => by cases h⟩

theorem over : Rows.matchTellsRow.holds Tryz.pinned (OpenSpec.ofChange Rows.matchTellsSpec) :=
  OpenClaim.holds_of_wide 3 Tryz.f3 rfl rfl rfl rfl rfl rfl rfl ⟨rfl, rfl, rfl, rfl, rfl⟩ rfl rfl rfl rfl rfl (by kernel_rfl) Tryz.func3 (by kernel_rfl)
    (of_decide_eq_true (by kernel_rfl)) (by unfold Func.isWrapper; first | (rw [if_pos (by decide +kernel)]; kernel_rfl) | (rw [if_neg (by decide +kernel)]; exact ⟨rfl, rfl⟩))
    (fun os started H enc _ => lifted os started H enc)

theorem proved : Rows.MatchTellsSaid := over
#print axioms proved
end Go.Proofs.YtlfbbahihenilaaGreat.lawMatchTells
