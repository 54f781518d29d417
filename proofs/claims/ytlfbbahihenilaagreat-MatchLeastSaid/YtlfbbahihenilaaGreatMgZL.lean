/- Ways: legs that follow each other: walked. -/
/- Ways: the law MatchLeast: walked (printed by gen_XMtY.py). -/
/- Ways: a play of samples and places, opened. -/
/- MatchLeast answers true, whatever comes in, and what came in reads as it did; no condition. -/
import Derived.Test.YtlfbbahihenilaaGreatMhMtS
import Derived.BigQuiet
import Derived.Deep.QuietTactic
import Derived.Test.YtlfbbahihenilaaGreatMg30
import Derived.Test.YtlfbbahihenilaaGreatMg23
import Derived.Test.YtlfbbahihenilaaGreatMg20
import Derived.Test.YtlfbbahihenilaaGreatRows
namespace Go.Proofs.YtlfbbahihenilaaGreat.Ne
open Go.RowKit Go.V Go.Proofs

set_option maxHeartbeats 400000 in
theorem stop25_any (n : Int) (w : World) (h : 0 ≤ n ∧ n < 4096) :
    Calls Tryz.prog 53 #[.int .i64 n] w fun e w' => e = .returned (.bool true) ∧ w = w' := by
  obtain ⟨h1, h2⟩ := h
  have d1 : decide (0 ≤ n) = true := decide_eq_true h1
  have d2 : decide (n < 4096) = true := decide_eq_true h2
  go_enter Tryz.func53, Tryz.ntmps53
  go_wp2
  go_ret
  exact ⟨by simp, rfl⟩
set_option maxHeartbeats 4000000 in
set_option maxRecDepth 100000 in
theorem sright_any (a : Option Addr) (n cap : Nat) (R : List Lg) (w : World) (h : Sl Lg.cod w a n cap R) (hr : LegsOk R) :
    Calls Tryz.prog 18 #[.slice a n cap] w fun e w' => e = .returned (.bool true) ∧ Below w.heap.size w w' := by
  have hm : n ≤ 9223372036854775807 := by have := h.hcap; have := h.hmax; unfold maxLen at this; omega
  have HS := Lib.hid h
  have HR := Lib.hid hr
  have mixed : Tryz.prog.follows .mixedOrders = true := by kernel_rfl
  clear h hr
  go_enter Tryz.func18, Tryz.ntmps18
  go_wp2_with fail
  go_loopw [7] (fun i wr => ∃ (j : Nat), j ≤ n ∧ i = .int .i64 j ∧ Hid (Below w.heap.size w wr)) (fun i _ => n - (intOf i).toNat)
  case atStart => exact ⟨0, by omega, rfl, Below.refl _ _⟩
  case round =>
    obtain ⟨j, hj, rfl, hb⟩ := hrel
    by_cases hlt : j < n
    · have hltz : (j : Int) < (n : Int) := by omega
      obtain ⟨ib, io, ⟨ff, ft, fa, fz⟩, rfl, hib, hf, c0, c1, c2, c3⟩ := lg_at (HS.out.below hb.out) hlt
      obtain ⟨a1, a2, a3, a4, a5⟩ := HR.out.each _ (List.mem_of_getElem? hf)
      simp only [] at a1 a2 a3 a4 a5
      have ha1 : decide (fa < 0) = false := decide_eq_false (by omega)
      have ha2 : decide (fz ≤ fa) = false := decide_eq_false (by omega)
      have ha3 : decide (1099511627776 < fz) = false := decide_eq_false (by omega)
      have hba : Below wr.heap.size wr (wr.alloc (.cells #[.int .i64 ff, .int .i64 ft, .int .i64 fa, .int .i64 fz] 53)) := (Below.refl _ _).alloc (Nat.le_refl _) _
      have hb9 : Hid (Below w.heap.size w (wr.alloc (.cells #[.int .i64 ff, .int .i64 ft, .int .i64 fa, .int .i64 fz] 53))) := hb.out.trans (hba.mono hb.out.size)
      have HT9 := Lib.hid (box_new wr (.cells #[.int .i64 ff, .int .i64 ft, .int .i64 fa, .int .i64 fz] 53))
      obtain ⟨t0, t1, t2, t3⟩ := box4w_cells HT9.out
      have T0 := cell_regrown t0
      have T1 := cell_regrown t1
      have T2 := cell_regrown t2
      have T3 := cell_regrown t3
      have HF := Lib.hid hf
      have HA4 := Lib.hid a4
      have HA5 := Lib.hid a5
      clear a1 a2 a3 a4 a5 hf
      cases j with
      | zero =>
        simp only [Nat.zero_mul, Nat.add_zero] at c0 c1 c2 c3
        go_upto_region 6 with (first
          | (go_at_call 53; go_fit (stop25_any ff _ HA4.out); rintro e w5 ⟨rfl, rfl⟩)
          | (go_at_call 53; go_fit (stop25_any ft _ HA5.out); rintro e w5 ⟨rfl, rfl⟩))
        refine wp_region_quiet_below (by assumption) (by kernel_rfl) ?_
        repeat (go_big_quiet_step (fail))
        refine wpQuiet_nil ?_
        intro w9 hw9
        obtain ⟨⟨nd, osq⟩, rfl⟩ := hw9
        have HB9 : Hid (Below w.heap.size w (Go.Sort.grow (redrawn (wr.alloc (.cells #[.int .i64 ff, .int .i64 ft, .int .i64 fa, .int .i64 fz] 53)) nd) osq)) := hb9.out.trans ((below_regrown _ nd osq).mono hb9.out.size)
        clear T0 T1 T2 T3 t0 t1 t2 t3
        generalize Go.Sort.grow (redrawn (wr.alloc (.cells #[.int .i64 ff, .int .i64 ft, .int .i64 fa, .int .i64 fz] 53)) nd) osq = w9 at HB9 ⊢
        go_wp2_with fail
        go_roundw
        case rel => exact ⟨0 + 1, by omega, by go_num, HB9.out⟩
        case measure => simp [intOf]; omega
      | succ i =>
        obtain ⟨b', off', ⟨gf, gt, ga, gz⟩, hba', -, hg, g0, g1, g2, g3⟩ := lg_at (HS.out.below hb9.out) (i := i) (by omega)
        cases hba'
        have G1 := cell_regrown g1
        have G3 := cell_regrown g3
        obtain ⟨o1, o2⟩ := HR.out.rise _ _ _ hg HF.out
        simp only [] at o1 o2
        have r1 : IntKind.i64.wrap ((↑(i + 1) : Int) - 1) = (i : Int) := by rw [IntKind.wrap_i64]; omega
        have b2 : (i : Int) < (n : Int) := by omega
        have b3 : (0 : Int) < (↑(i + 1) : Int) := by omega
        have ho1 : (ff != gt) = false := by simp [o1]
        have ho2 : decide (fa < gz) = false := decide_eq_false (by omega)
        clear hg g0 g1 g2 g3 o1 o2
        go_upto_region 6 with (first
          | (go_at_call 53; go_fit (stop25_any ff _ HA4.out); rintro e w5 ⟨rfl, rfl⟩)
          | (go_at_call 53; go_fit (stop25_any ft _ HA5.out); rintro e w5 ⟨rfl, rfl⟩))
        refine wp_region_quiet_below (by assumption) (by kernel_rfl) ?_
        repeat (go_big_quiet_step (fail))
        refine wpQuiet_nil ?_
        intro w9 hw9
        obtain ⟨⟨nd, osq⟩, rfl⟩ := hw9
        have HB9 : Hid (Below w.heap.size w (Go.Sort.grow (redrawn (wr.alloc (.cells #[.int .i64 ff, .int .i64 ft, .int .i64 fa, .int .i64 fz] 53)) nd) osq)) := hb9.out.trans ((below_regrown _ nd osq).mono hb9.out.size)
        clear T0 T1 T2 T3 t0 t1 t2 t3 G1 G3
        generalize Go.Sort.grow (redrawn (wr.alloc (.cells #[.int .i64 ff, .int .i64 ft, .int .i64 fa, .int .i64 fz] 53)) nd) osq = w9 at HB9 ⊢
        go_wp2_with fail
        go_roundw
        case rel => exact ⟨i + 1 + 1, by omega, by go_num, HB9.out⟩
        case measure => simp [intOf]; omega
    · go_wp2_with fail
      go_ret
      exact ⟨rfl, hb.out⟩
end Go.Proofs.YtlfbbahihenilaaGreat.Ne

namespace Go.Proofs.YtlfbbahihenilaaGreat.Ne
open Go.RowKit Go.V Go.Proofs

theorem trE_ok {n : Net} {k : Nat} {r : Rul} {l : List Smp} (h : (trE n k r l).err = 0) : checkE n = 0 ∧ mayR r = true ∧ rightS l = true ∧ allErr n r.x (keepE r.f l) = 0 ∧ ∃ ss, goE (stepE n k r.x) (rowsE n r.x (keepE r.f l)) none = some ss ∧ trE n k r l = ⟨0, ss, (pickE (stepE n k r.x) none (rowsE n r.x (keepE r.f l))).1, runsE ss (keepE r.f l), legsE (runsE ss (keepE r.f l)) r.stay⟩ := by
  by_cases hc : checkE n = 0
  · cases hm : mayR r with
    | false =>
      have e : trE n k r l = wayNo 2 := by unfold trE; rw [if_neg (fun e => e hc), if_pos hm]
      rw [e] at h; cases h
    | true =>
      cases hr : rightS l with
      | false =>
        have e : trE n k r l = wayNo 2 := by rw [← trT_self]; exact trT_right hc hm rfl hr
        rw [e] at h; cases h
      | true =>
        by_cases ha : allErr n r.x (keepE r.f l) = 0
        · cases hg : goE (stepE n k r.x) (rowsE n r.x (keepE r.f l)) none with
          | none =>
            have e : trE n k r l = wayNo 31 := by rw [← trT_self]; exact trT_none hc hm rfl hr ha hg
            rw [e] at h; cases h
          | some ss => exact ⟨hc, rfl, rfl, ha, ss, rfl, by rw [← trT_self]; exact trT_some hc hm rfl hr ha hg⟩
        · have e : trE n k r l = wayNo (allErr n r.x (keepE r.f l)) := by rw [← trT_self]; exact trT_all hc hm rfl hr ha
          rw [e] at h; exact absurd h ha
  · rw [trE_check hc] at h
    exact absurd h hc
theorem trE_no {n : Net} {k : Nat} {r : Rul} {l : List Smp} (h : (trE n k r l).err ≠ 0) : (trE n k r l).ss = [] ∧ (trE n k r l).R = [] ∧ (trE n k r l).L = [] := by
  unfold trE at h ⊢
  split
  · exact ⟨rfl, rfl, rfl⟩
  · split
    · exact ⟨rfl, rfl, rfl⟩
    · split
      · exact ⟨rfl, rfl, rfl⟩
      · split
        · exact ⟨rfl, rfl, rfl⟩
        · next h1 h2 h3 h4 =>
          rw [if_neg h1, if_neg h2, if_neg h3, if_neg h4] at h
          split
          · exact ⟨rfl, rfl, rfl⟩
          · next ss hg =>
            rw [hg] at h
            exact absurd rfl h
set_option linter.unusedSimpArgs false in
set_option maxHeartbeats 16000000 in
set_option maxRecDepth 100000 in
theorem mleast_any (n : Net) (hs hl : Hdr) (r : Rul) (la : Option Addr) (ln lc : Nat) (l : List Smp) (qa : Option Addr) (qn qc : Nat) (os : List Int) (w : World) (hnet : NetIn w n hs hl) (hL : Sl Smp.cod w la ln lc l) (hQ : SlQ icod w qa qn qc os) :
    Calls Tryz.prog 5 #[n.val hs hl, r.val, .agg #[.slice la ln lc, .slice qa qn qc]] w fun e w' => e = .returned (.bool true) ∧ Below w.heap.size w w' := by
  obtain ⟨W0, hW0⟩ : ∃ W0, ((w.alloc (n.box hs hl)).alloc r.box).alloc (.cells #[.slice la ln lc, .slice qa qn qc] 60) = W0 := ⟨_, rfl⟩
  have HX0 : Hid (W0.heap[w.heap.size]? = some (n.box hs hl)) := by rw [← hW0]; exact box_alloc (box_alloc (box_new w _))
  have HY0 : Hid (W0.heap[w.heap.size + 1]? = some r.box) := by
    rw [← hW0]
    have := box_new (w.alloc (n.box hs hl)) r.box
    rw [World.size_alloc] at this
    exact box_alloc this
  have HP0 : Hid (W0.heap[w.heap.size + 1 + 1]? = some (.cells #[.slice la ln lc, .slice qa qn qc] 60 (0, 0))) := by
    rw [← hW0]
    have := box_new ((w.alloc (n.box hs hl)).alloc r.box) (.cells #[.slice la ln lc, .slice qa qn qc] 60)
    rwa [World.size_alloc, World.size_alloc] at this
  have HB0 : Hid (Below w.heap.size w W0) := by rw [← hW0]; exact (((Below.refl _ _).alloc (Nat.le_refl _) _).alloc (by simp) _).alloc (by simp; omega) _
  have HNT := Lib.hid hnet
  have HL := Lib.hid hL
  have HQS := Lib.hid hQ
  have hl9 : ln ≤ 9223372036854775807 := by have := hL.hcap; have := hL.hmax; unfold maxLen at this; omega
  have hq9 : qn ≤ 9223372036854775807 := by have := hQ.hcap; have := hQ.hmax; unfold maxLen at this; omega
  obtain ⟨⟨sp, gp⟩, ⟨xr, xm, xf, xc⟩, st⟩ := r
  obtain ⟨c0, c1, c2⟩ := gcheck_box HX0.out
  obtain ⟨d0, d1, d2, d3, d4, d5, d6⟩ := box7_cells HY0.out
  obtain ⟨p0, p1, -, -⟩ := box2_cells HP0.out
  obtain ⟨bf, hbf⟩ : ∃ b, decide (hs.n ≤ 60 ∧ hl.n ≤ 120) = b := ⟨_, rfl⟩
  have HBF := Lib.hid hbf
  have HLN : Hid (ln = l.length) := hL.hlen
  have HNL : Hid (n.stops.length = hs.n) := hnet.s.hlen.symm
  clear hnet hL hbf hQ
  cases bf with
  | false =>
    go_enter Tryz.func5, Tryz.ntmps5
    go_wp2_with (first
      | (go_at_call 6; go_fit (awake26_any _); rintro e w1 ⟨rfl, hb1⟩; have HX1 := Lib.hid (box_below HX0.out hb1); have HY1 := Lib.hid (box_below HY0.out hb1); have HP1 := Lib.hid (box_below HP0.out hb1); obtain ⟨c0, c1, c2⟩ := gcheck_box HX1.out; obtain ⟨d0, d1, d2, d3, d4, d5, d6⟩ := box7_cells HY1.out; obtain ⟨p0, p1, -, -⟩ := box2_cells HP1.out; have HB1 := Lib.hid (HB0.out.trans (hb1.mono HB0.out.size)); clear hb1)
      | (go_at_call 7; go_fit (few_any n hs hl _); rintro e w2 ⟨rfl, hb2⟩; rw [HBF.out]; have HX2 := Lib.hid (box_below HX1.out hb2); have HY2 := Lib.hid (box_below HY1.out hb2); have HP2 := Lib.hid (box_below HP1.out hb2); obtain ⟨c0, c1, c2⟩ := gcheck_box HX2.out; obtain ⟨d0, d1, d2, d3, d4, d5, d6⟩ := box7_cells HY2.out; obtain ⟨p0, p1, -, -⟩ := box2_cells HP2.out; have HB2 := Lib.hid (HB1.out.trans (hb2.mono HB1.out.size)); clear hb2))
    go_ret
    exact ⟨rfl, HB2.out⟩
  | true =>
  obtain ⟨m1, m2⟩ := of_decide_eq_true HBF.out
  by_cases h12 : (60 : Int) < (ln : Int)
  · have h12d : decide ((60 : Int) < (ln : Int)) = true := decide_eq_true h12
    go_enter Tryz.func5, Tryz.ntmps5
    go_wp2_with (first
      | (go_at_call 6; go_fit (awake26_any _); rintro e w1 ⟨rfl, hb1⟩; have HX1 := Lib.hid (box_below HX0.out hb1); have HY1 := Lib.hid (box_below HY0.out hb1); have HP1 := Lib.hid (box_below HP0.out hb1); obtain ⟨c0, c1, c2⟩ := gcheck_box HX1.out; obtain ⟨d0, d1, d2, d3, d4, d5, d6⟩ := box7_cells HY1.out; obtain ⟨p0, p1, -, -⟩ := box2_cells HP1.out; have HB1 := Lib.hid (HB0.out.trans (hb1.mono HB0.out.size)); clear hb1)
      | (go_at_call 7; go_fit (few_any n hs hl _); rintro e w2 ⟨rfl, hb2⟩; rw [HBF.out]; have HX2 := Lib.hid (box_below HX1.out hb2); have HY2 := Lib.hid (box_below HY1.out hb2); have HP2 := Lib.hid (box_below HP1.out hb2); obtain ⟨c0, c1, c2⟩ := gcheck_box HX2.out; obtain ⟨d0, d1, d2, d3, d4, d5, d6⟩ := box7_cells HY2.out; obtain ⟨p0, p1, -, -⟩ := box2_cells HP2.out; have HB2 := Lib.hid (HB1.out.trans (hb2.mono HB1.out.size)); clear hb2))
    go_ret
    exact ⟨rfl, HB2.out⟩
  have h12d : decide ((60 : Int) < (ln : Int)) = false := decide_eq_false h12
  by_cases h60 : (60 : Int) < (qn : Int)
  · have h60d : decide ((60 : Int) < (qn : Int)) = true := decide_eq_true h60
    go_enter Tryz.func5, Tryz.ntmps5
    go_wp2_with (first
      | (go_at_call 6; go_fit (awake26_any _); rintro e w1 ⟨rfl, hb1⟩; have HX1 := Lib.hid (box_below HX0.out hb1); have HY1 := Lib.hid (box_below HY0.out hb1); have HP1 := Lib.hid (box_below HP0.out hb1); obtain ⟨c0, c1, c2⟩ := gcheck_box HX1.out; obtain ⟨d0, d1, d2, d3, d4, d5, d6⟩ := box7_cells HY1.out; obtain ⟨p0, p1, -, -⟩ := box2_cells HP1.out; have HB1 := Lib.hid (HB0.out.trans (hb1.mono HB0.out.size)); clear hb1)
      | (go_at_call 7; go_fit (few_any n hs hl _); rintro e w2 ⟨rfl, hb2⟩; rw [HBF.out]; have HX2 := Lib.hid (box_below HX1.out hb2); have HY2 := Lib.hid (box_below HY1.out hb2); have HP2 := Lib.hid (box_below HP1.out hb2); obtain ⟨c0, c1, c2⟩ := gcheck_box HX2.out; obtain ⟨d0, d1, d2, d3, d4, d5, d6⟩ := box7_cells HY2.out; obtain ⟨p0, p1, -, -⟩ := box2_cells HP2.out; have HB2 := Lib.hid (HB1.out.trans (hb2.mono HB1.out.size)); clear hb2))
    go_ret
    exact ⟨rfl, HB2.out⟩
  have h60d : decide ((60 : Int) < (qn : Int)) = false := decide_eq_false h60
  have hln : ln ≤ 60 := by omega
  obtain ⟨X, hX⟩ : ∃ X, trE n hs.n ⟨⟨sp, gp⟩, ⟨xr, xm, xf, xc⟩, st⟩ l = X := ⟨_, rfl⟩
  have HXE := Lib.hid hX
  have HM1 : Hid (∀ V, Below w.heap.size w V → Calls Tryz.prog 8 #[n.val hs hl, (Rul.mk ⟨sp, gp⟩ ⟨xr, xm, xf, xc⟩ st).val, .slice la ln lc] V fun e w' => ∃ s rr lg, e = .returned (.tuple #[wayV s rr lg X.cost, .int .i64 X.err]) ∧ WayIn w' s rr lg X.ss X.R X.L ∧ Below V.heap.size V w') := fun V hV => by
    refine (mtch_any n hs hl ⟨⟨sp, gp⟩, ⟨xr, xm, xf, xc⟩, st⟩ la ln lc l V (HNT.out.below hV) ⟨m1, m2⟩ hln (HL.out.below hV)).mono ?_
    rintro e w' ⟨s, rr, lg, rfl, ho, hb⟩
    rw [hX] at ho ⊢
    exact ⟨s, rr, lg, rfl, ho.in_, hb⟩
  clear hX
  by_cases he0 : X.err = 0
  case neg =>
    have heb : (X.err != 0) = true := by simpa using he0
    have hno := trE_no (n := n) (k := hs.n) (r := ⟨⟨sp, gp⟩, ⟨xr, xm, xf, xc⟩, st⟩) (l := l) (by rw [HXE.out]; exact he0)
    rw [HXE.out] at hno
    have HNO := Lib.hid hno
    clear hno he0
    have HM2 : Hid (∀ V, Below w.heap.size w V → Calls Tryz.prog 8 #[n.val hs hl, (Rul.mk ⟨sp, gp⟩ ⟨xr, xm, xf, xc⟩ st).val, .slice la ln lc] V fun e w' => ∃ (s rr lg : Hdr), e = .returned (.tuple #[.agg #[.slice s.a 0 s.cap, .int .i64 X.cost, .slice rr.a 0 rr.cap, .slice lg.a 0 lg.cap], .int .i64 X.err]) ∧ WayIn w' ⟨s.a, 0, s.cap⟩ ⟨rr.a, 0, rr.cap⟩ ⟨lg.a, 0, lg.cap⟩ X.ss X.R X.L ∧ Below V.heap.size V w') := fun V hV => by
      refine (HM1.out V hV).mono ?_
      rintro e w' ⟨s, rr, lg, rfl, ho, hb⟩
      have q1 : s.n = 0 := by rw [ho.s.hlen, HNO.out.1]; rfl
      have q2 : rr.n = 0 := by rw [ho.r.hlen, HNO.out.2.1]; rfl
      have q3 : lg.n = 0 := by rw [ho.l.hlen, HNO.out.2.2]; rfl
      obtain ⟨sa, sn, sc⟩ := s
      obtain ⟨ra, rn, rc⟩ := rr
      obtain ⟨ga, gn, gc⟩ := lg
      cases q1; cases q2; cases q3
      exact ⟨⟨sa, 0, sc⟩, ⟨ra, 0, rc⟩, ⟨ga, 0, gc⟩, rfl, ho, hb⟩
    go_enter Tryz.func5, Tryz.ntmps5
    go_wp2_with (first
      | (go_at_call 6; go_fit (awake26_any _); rintro e w1 ⟨rfl, hb1⟩; have HX1 := Lib.hid (box_below HX0.out hb1); have HY1 := Lib.hid (box_below HY0.out hb1); have HP1 := Lib.hid (box_below HP0.out hb1); obtain ⟨c0, c1, c2⟩ := gcheck_box HX1.out; obtain ⟨d0, d1, d2, d3, d4, d5, d6⟩ := box7_cells HY1.out; obtain ⟨p0, p1, -, -⟩ := box2_cells HP1.out; have HB1 := Lib.hid (HB0.out.trans (hb1.mono HB0.out.size)); clear hb1)
      | (go_at_call 7; go_fit (few_any n hs hl _); rintro e w2 ⟨rfl, hb2⟩; rw [HBF.out]; have HX2 := Lib.hid (box_below HX1.out hb2); have HY2 := Lib.hid (box_below HY1.out hb2); have HP2 := Lib.hid (box_below HP1.out hb2); obtain ⟨c0, c1, c2⟩ := gcheck_box HX2.out; obtain ⟨d0, d1, d2, d3, d4, d5, d6⟩ := box7_cells HY2.out; obtain ⟨p0, p1, -, -⟩ := box2_cells HP2.out; have HB2 := Lib.hid (HB1.out.trans (hb2.mono HB1.out.size)); clear hb2)
      | (go_at_call 8; go_fit (HM2.out _ HB2.out); rintro e w3 ⟨s1, r1, l1, rfl, ho3, hb3⟩; have HW3 := Lib.hid ho3; have HX3 := Lib.hid (box_below HX2.out hb3); have HY3 := Lib.hid (box_below HY2.out hb3); have HP3 := Lib.hid (box_below HP2.out hb3); obtain ⟨c0, c1, c2⟩ := gcheck_box HX3.out; obtain ⟨d0, d1, d2, d3, d4, d5, d6⟩ := box7_cells HY3.out; obtain ⟨p0, p1, -, -⟩ := box2_cells HP3.out; have HB3 := Lib.hid (HB2.out.trans (hb3.mono HB2.out.size)); have hb4 : Below w3.heap.size w3 (w3.alloc (.cells #[.slice s1.a 0 s1.cap, .int .i64 X.cost, .slice r1.a 0 r1.cap, .slice l1.a 0 l1.cap] 39)) := (Below.refl _ _).alloc (Nat.le_refl _) _; have HT4 := Lib.hid (box_new w3 (.cells #[.slice s1.a 0 s1.cap, .int .i64 X.cost, .slice r1.a 0 r1.cap, .slice l1.a 0 l1.cap] 39)); have HW4 := Lib.hid (HW3.out.below hb4); have HX4 := Lib.hid (box_below HX3.out hb4); have HY4 := Lib.hid (box_below HY3.out hb4); have HP4 := Lib.hid (box_below HP3.out hb4); obtain ⟨c0, c1, c2⟩ := gcheck_box HX4.out; obtain ⟨d0, d1, d2, d3, d4, d5, d6⟩ := box7_cells HY4.out; obtain ⟨p0, p1, -, -⟩ := box2_cells HP4.out; have HB4 := Lib.hid (HB3.out.trans (hb4.mono HB3.out.size)); clear hb3 ho3 hb4)
      | (go_at_call 8; have _t := HB4; go_fit (HM2.out _ HB4.out); rintro e w5 ⟨s2, r2, l2, rfl, ho5, hb5⟩; have HV5 := Lib.hid ho5; have HT5 := Lib.hid (box_below HT4.out hb5); have HW5 := Lib.hid (HW4.out.below hb5); have HX5 := Lib.hid (box_below HX4.out hb5); have HY5 := Lib.hid (box_below HY4.out hb5); have HP5 := Lib.hid (box_below HP4.out hb5); obtain ⟨c0, c1, c2⟩ := gcheck_box HX5.out; obtain ⟨d0, d1, d2, d3, d4, d5, d6⟩ := box7_cells HY5.out; obtain ⟨p0, p1, -, -⟩ := box2_cells HP5.out; have HB5 := Lib.hid (HB4.out.trans (hb5.mono HB4.out.size)); have hb6 : Below w5.heap.size w5 (w5.alloc (.cells #[.slice s2.a 0 s2.cap, .int .i64 X.cost, .slice r2.a 0 r2.cap, .slice l2.a 0 l2.cap] 39)) := (Below.refl _ _).alloc (Nat.le_refl _) _; have HU6 := Lib.hid (box_new w5 (.cells #[.slice s2.a 0 s2.cap, .int .i64 X.cost, .slice r2.a 0 r2.cap, .slice l2.a 0 l2.cap] 39)); have HT6 := Lib.hid (box_below HT5.out hb6); have HW6 := Lib.hid (HW5.out.below hb6); have HV6 := Lib.hid (HV5.out.below hb6); have HX6 := Lib.hid (box_below HX5.out hb6); have HY6 := Lib.hid (box_below HY5.out hb6); have HP6 := Lib.hid (box_below HP5.out hb6); obtain ⟨c0, c1, c2⟩ := gcheck_box HX6.out; obtain ⟨d0, d1, d2, d3, d4, d5, d6⟩ := box7_cells HY6.out; obtain ⟨p0, p1, -, -⟩ := box2_cells HP6.out; have HB6 := Lib.hid (HB5.out.trans (hb6.mono HB5.out.size)); obtain ⟨t0, t1, t2, t3⟩ := box4w_cells HT6.out; obtain ⟨u0, u1, u2, u3⟩ := box4w_cells HU6.out; clear hb5 ho5 hb6)
      | (go_at_call 12; go_fit (wsame_true ⟨s1.a, 0, s1.cap⟩ ⟨r1.a, 0, r1.cap⟩ ⟨l1.a, 0, l1.cap⟩ ⟨s2.a, 0, s2.cap⟩ ⟨r2.a, 0, r2.cap⟩ ⟨l2.a, 0, l2.cap⟩ X.cost X.ss X.R X.L _ HW6.out HV6.out); rintro e w7 ⟨rfl, hb7⟩; have HT7 := Lib.hid (box_below HT6.out hb7); have HW7 := Lib.hid (HW6.out.below hb7); have HX7 := Lib.hid (box_below HX6.out hb7); have HY7 := Lib.hid (box_below HY6.out hb7); have HP7 := Lib.hid (box_below HP6.out hb7); obtain ⟨c0, c1, c2⟩ := gcheck_box HX7.out; obtain ⟨d0, d1, d2, d3, d4, d5, d6⟩ := box7_cells HY7.out; obtain ⟨p0, p1, -, -⟩ := box2_cells HP7.out; have HB7 := Lib.hid (HB6.out.trans (hb7.mono HB6.out.size)); obtain ⟨t0, t1, t2, t3⟩ := box4w_cells HT7.out; clear hb7))
    go_ret
    exact ⟨by first | rfl | exact ret_bool (by simp), HB7.out⟩
  case pos =>
    obtain ⟨hce, hmr, hri, hae, ss, hgo, htr⟩ := trE_ok (n := n) (k := hs.n) (r := ⟨⟨sp, gp⟩, ⟨xr, xm, xf, xc⟩, st⟩) (l := l) (by rw [HXE.out]; exact he0)
    rw [HXE.out] at htr
    obtain ⟨K, hK⟩ : ∃ K, keepE ⟨sp, gp⟩ l = K := ⟨_, rfl⟩
    have hK' : keepE (Rul.mk ⟨sp, gp⟩ ⟨xr, xm, xf, xc⟩ st).f l = K := hK
    rw [hK'] at hae hgo htr
    obtain ⟨G, hG⟩ : ∃ G, rowsE n ⟨xr, xm, xf, xc⟩ K = G := ⟨_, rfl⟩
    have hG' : rowsE n (Rul.mk ⟨sp, gp⟩ ⟨xr, xm, xf, xc⟩ st).x K = G := hG
    rw [hG'] at hgo htr
    have hkl : K.length ≤ 60 := by
      have := keepN_len ⟨sp, gp⟩ l l.length (Nat.le_refl _)
      have h2 : (keepE ⟨sp, gp⟩ l).length ≤ l.length := this
      rw [hK] at h2
      have := HLN.out
      omega
    have hvm : vmayE ⟨xr, xm, xf, xc⟩ G = 0 := by
      rw [← hG]
      rcases rows_may hae with h | h
      · exact h
      · omega
    have hbi := best_in (n := n) (k := hs.n) (x := ⟨xr, xm, xf, xc⟩) (l := K) (ss := ss) (by rw [hG]; exact hvm) (by have := HNL.out; omega) (by rw [hG]; exact hgo)
    obtain ⟨b1, b2, b3, b4⟩ := (best_seq (n := n) (k := hs.n) hvm).2 ss hgo
    have hrok := runsN_ok (ss := ss) (l := K) (by rw [← hK]; exact keepE_right hri) hbi.2.1 hbi.1 K.length (Nat.le_refl _)
    have HLO : Hid (LegsOk X.L) := by show LegsOk X.L; rw [htr]; exact (legs_ok st (runsE ss K).length (runsE ss K) (Nat.le_refl _) hrok.1).1
    have HSS : Hid (X.ss = ss) := by show _ = _; rw [htr]
    have HSL : Hid (ss.length = K.length) := hbi.1
    have hcost : X.cost = (pickE (stepE n hs.n ⟨xr, xm, xf, xc⟩) none G).1 := by rw [htr]
    rw [← hcost] at b2 b4
    have HC := Lib.hid b2
    have HC4 := Lib.hid b4
    have HCE := Lib.hid hce
    have HAE := Lib.hid hae
    have HKE := Lib.hid hK
    have HGE := Lib.hid hG
    have HRI := Lib.hid hri
    have HMF : Hid (mayF ⟨sp, gp⟩ = true) := (mayR_in hmr).1
    have HKP : Hid (∀ V, Below w.heap.size w V → Calls Tryz.prog 16 #[(Flt.mk sp gp).val, .slice la ln lc] V fun e w' => ∃ (ka : Option Addr) (kc : Nat) (E : Int), e = .returned (.tuple #[.slice ka K.length kc, .int .i64 E]) ∧ Sl Smp.cod w' ka K.length kc K ∧ Below V.heap.size V w') := fun V hV => by
      refine (ckeep_any ⟨sp, gp⟩ la ln lc l V (by omega) (HL.out.below hV)).mono ?_
      rintro e w' ⟨v, rfl, ho, hb⟩
      rw [show keptE ⟨sp, gp⟩ l = K from (if_pos ⟨HMF.out, HRI.out⟩).trans HKE.out] at ho
      obtain ⟨ka, kc, rfl, hks, -⟩ := ho.slice
      exact ⟨ka, kc, _, rfl, hks, hb⟩
    have HAL : Hid (∀ (ka : Option Addr) (kc : Nat) (V : World), Below w.heap.size w V → Sl Smp.cod V ka K.length kc K → Calls Tryz.prog 17 #[n.val hs hl, (Wgh.mk xr xm xf xc).val, .slice ka K.length kc] V fun e w' => ∃ (pa : Option Addr) (pn pc : Nat), e = .returned (.tuple #[.slice pa pn pc, .int .i64 0]) ∧ PtsIn w' pa pn pc G ∧ Below V.heap.size V w') := fun ka kc V hV hk => by
      refine (call_any n hs hl ⟨xr, xm, xf, xc⟩ ka K.length kc K V ⟨by omega, by omega⟩ (by omega) (HNT.out.below hV) hk).mono ?_
      rintro e w' ⟨v, hh, rfl, ho, hb⟩
      have hae' : allErr n ⟨xr, xm, xf, xc⟩ K = 0 := HAE.out
      rw [if_pos hae'] at ho
      obtain ⟨hp, rfl, hpt⟩ := pts_own ho
      have hpt : PtsIn w' hp.a hp.n hp.cap G := by rw [← HGE.out]; exact hpt
      exact ⟨hp.a, hp.n, hp.cap, by rw [hae'], hpt, hb⟩
    clear hce hmr hri hae hgo htr hK hK' hG hG' hvm hbi b1 b2 b3 b4 hrok hcost
    go_enter Tryz.func5, Tryz.ntmps5
    go_upto_region 14 with (first
      | (go_at_call 6; go_fit (awake26_any _); rintro e w1 ⟨rfl, hb1⟩; have HX1 := Lib.hid (box_below HX0.out hb1); have HY1 := Lib.hid (box_below HY0.out hb1); have HP1 := Lib.hid (box_below HP0.out hb1); obtain ⟨c0, c1, c2⟩ := gcheck_box HX1.out; obtain ⟨d0, d1, d2, d3, d4, d5, d6⟩ := box7_cells HY1.out; obtain ⟨p0, p1, -, -⟩ := box2_cells HP1.out; have HB1 := Lib.hid (HB0.out.trans (hb1.mono HB0.out.size)); clear hb1)
      | (go_at_call 7; go_fit (few_any n hs hl _); rintro e w2 ⟨rfl, hb2⟩; rw [HBF.out]; have HX2 := Lib.hid (box_below HX1.out hb2); have HY2 := Lib.hid (box_below HY1.out hb2); have HP2 := Lib.hid (box_below HP1.out hb2); obtain ⟨c0, c1, c2⟩ := gcheck_box HX2.out; obtain ⟨d0, d1, d2, d3, d4, d5, d6⟩ := box7_cells HY2.out; obtain ⟨p0, p1, -, -⟩ := box2_cells HP2.out; have HB2 := Lib.hid (HB1.out.trans (hb2.mono HB1.out.size)); clear hb2)
      | (go_at_call 8; go_fit (HM1.out _ HB2.out); rintro e w3 ⟨s1, r1, l1, rfl, ho3, hb3⟩; have HW3 := Lib.hid ho3; have HX3 := Lib.hid (box_below HX2.out hb3); have HY3 := Lib.hid (box_below HY2.out hb3); have HP3 := Lib.hid (box_below HP2.out hb3); obtain ⟨c0, c1, c2⟩ := gcheck_box HX3.out; obtain ⟨d0, d1, d2, d3, d4, d5, d6⟩ := box7_cells HY3.out; obtain ⟨p0, p1, -, -⟩ := box2_cells HP3.out; have HB3 := Lib.hid (HB2.out.trans (hb3.mono HB2.out.size)); have hb4 : Below w3.heap.size w3 (w3.alloc (.cells #[.slice s1.a s1.n s1.cap, .int .i64 X.cost, .slice r1.a r1.n r1.cap, .slice l1.a l1.n l1.cap] 39)) := (Below.refl _ _).alloc (Nat.le_refl _) _; have HT4 := Lib.hid (box_new w3 (.cells #[.slice s1.a s1.n s1.cap, .int .i64 X.cost, .slice r1.a r1.n r1.cap, .slice l1.a l1.n l1.cap] 39)); have HW4 := Lib.hid (HW3.out.below hb4); have HX4 := Lib.hid (box_below HX3.out hb4); have HY4 := Lib.hid (box_below HY3.out hb4); have HP4 := Lib.hid (box_below HP3.out hb4); obtain ⟨c0, c1, c2⟩ := gcheck_box HX4.out; obtain ⟨d0, d1, d2, d3, d4, d5, d6⟩ := box7_cells HY4.out; obtain ⟨p0, p1, -, -⟩ := box2_cells HP4.out; have HB4 := Lib.hid (HB3.out.trans (hb4.mono HB3.out.size)); clear hb3 ho3 hb4)
      | (go_at_call 8; have _t := HB4; go_fit (HM1.out _ HB4.out); rintro e w5 ⟨s2, r2, l2, rfl, ho5, hb5⟩; have HV5 := Lib.hid ho5; have HT5 := Lib.hid (box_below HT4.out hb5); have HW5 := Lib.hid (HW4.out.below hb5); have HX5 := Lib.hid (box_below HX4.out hb5); have HY5 := Lib.hid (box_below HY4.out hb5); have HP5 := Lib.hid (box_below HP4.out hb5); obtain ⟨c0, c1, c2⟩ := gcheck_box HX5.out; obtain ⟨d0, d1, d2, d3, d4, d5, d6⟩ := box7_cells HY5.out; obtain ⟨p0, p1, -, -⟩ := box2_cells HP5.out; have HB5 := Lib.hid (HB4.out.trans (hb5.mono HB4.out.size)); have hb6 : Below w5.heap.size w5 (w5.alloc (.cells #[.slice s2.a s2.n s2.cap, .int .i64 X.cost, .slice r2.a r2.n r2.cap, .slice l2.a l2.n l2.cap] 39)) := (Below.refl _ _).alloc (Nat.le_refl _) _; have HU6 := Lib.hid (box_new w5 (.cells #[.slice s2.a s2.n s2.cap, .int .i64 X.cost, .slice r2.a r2.n r2.cap, .slice l2.a l2.n l2.cap] 39)); have HT6 := Lib.hid (box_below HT5.out hb6); have HW6 := Lib.hid (HW5.out.below hb6); have HV6 := Lib.hid (HV5.out.below hb6); have HX6 := Lib.hid (box_below HX5.out hb6); have HY6 := Lib.hid (box_below HY5.out hb6); have HP6 := Lib.hid (box_below HP5.out hb6); obtain ⟨c0, c1, c2⟩ := gcheck_box HX6.out; obtain ⟨d0, d1, d2, d3, d4, d5, d6⟩ := box7_cells HY6.out; obtain ⟨p0, p1, -, -⟩ := box2_cells HP6.out; have HB6 := Lib.hid (HB5.out.trans (hb6.mono HB5.out.size)); obtain ⟨t0, t1, t2, t3⟩ := box4w_cells HT6.out; obtain ⟨u0, u1, u2, u3⟩ := box4w_cells HU6.out; clear hb5 ho5 hb6)
      | (go_at_call 12; go_fit (wsame_true s1 r1 l1 s2 r2 l2 X.cost X.ss X.R X.L _ HW6.out HV6.out); rintro e w7 ⟨rfl, hb7⟩; have HT7 := Lib.hid (box_below HT6.out hb7); have HW7 := Lib.hid (HW6.out.below hb7); have HX7 := Lib.hid (box_below HX6.out hb7); have HY7 := Lib.hid (box_below HY6.out hb7); have HP7 := Lib.hid (box_below HP6.out hb7); obtain ⟨c0, c1, c2⟩ := gcheck_box HX7.out; obtain ⟨d0, d1, d2, d3, d4, d5, d6⟩ := box7_cells HY7.out; obtain ⟨p0, p1, -, -⟩ := box2_cells HP7.out; have HB7 := Lib.hid (HB6.out.trans (hb7.mono HB6.out.size)); obtain ⟨t0, t1, t2, t3⟩ := box4w_cells HT7.out; clear hb7)
      | (go_at_call 16; go_fit (HKP.out _ HB7.out); rintro e w8 ⟨ka, kc, E8, rfl, ho8, hb8⟩; have HK8 := Lib.hid ho8; have HT8 := Lib.hid (box_below HT7.out hb8); have HW8 := Lib.hid (HW7.out.below hb8); have HX8 := Lib.hid (box_below HX7.out hb8); have HY8 := Lib.hid (box_below HY7.out hb8); have HP8 := Lib.hid (box_below HP7.out hb8); obtain ⟨c0, c1, c2⟩ := gcheck_box HX8.out; obtain ⟨d0, d1, d2, d3, d4, d5, d6⟩ := box7_cells HY8.out; obtain ⟨p0, p1, -, -⟩ := box2_cells HP8.out; have HB8 := Lib.hid (HB7.out.trans (hb8.mono HB7.out.size)); obtain ⟨t0, t1, t2, t3⟩ := box4w_cells HT8.out; clear hb8 ho8)
      | (go_at_call 17; go_fit (HAL.out ka kc _ HB8.out HK8.out); rintro e w9 ⟨pa, pn, pc, rfl, ho9, hb9⟩; have HQ9 := Lib.hid ho9; have HT9 := Lib.hid (box_below HT8.out hb9); have HW9 := Lib.hid (HW8.out.below hb9); have HX9 := Lib.hid (box_below HX8.out hb9); have HY9 := Lib.hid (box_below HY8.out hb9); have HP9 := Lib.hid (box_below HP8.out hb9); obtain ⟨c0, c1, c2⟩ := gcheck_box HX9.out; obtain ⟨d0, d1, d2, d3, d4, d5, d6⟩ := box7_cells HY9.out; obtain ⟨p0, p1, -, -⟩ := box2_cells HP9.out; have HB9 := Lib.hid (HB8.out.trans (hb9.mono HB8.out.size)); obtain ⟨t0, t1, t2, t3⟩ := box4w_cells HT9.out; clear hb9 ho9)
      | (go_at_call 13; go_fit (tnew_any n hs hl _ ⟨by omega, by omega⟩ (HNT.out.below HB9.out)); rintro e w10 ⟨hb10, -, hf⟩; obtain ⟨tg, rfl, mg, ht, hne⟩ := hf HCE.out; have HTB := Lib.hid ht; have HNE := Lib.hid hne; have H910 := Lib.hid hb10; have HT10 := Lib.hid (box_below HT9.out hb10); have HW10 := Lib.hid (HW9.out.below hb10); have HX10 := Lib.hid (box_below HX9.out hb10); have HY10 := Lib.hid (box_below HY9.out hb10); have HP10 := Lib.hid (box_below HP9.out hb10); obtain ⟨c0, c1, c2⟩ := gcheck_box HX10.out; obtain ⟨d0, d1, d2, d3, d4, d5, d6⟩ := box7_cells HY10.out; obtain ⟨p0, p1, -, -⟩ := box2_cells HP10.out; have HB10 := Lib.hid (HB9.out.trans (hb10.mono HB9.out.size)); obtain ⟨t0, t1, t2, t3⟩ := box4w_cells HT10.out; clear hb10 hf ht hne))
    obtain ⟨sa1, sn1, sc1⟩ := s1
    have hsn : sn1 = K.length := by have h : sn1 = X.ss.length := HW10.out.s.hlen; rw [h, HSS.out, HSL.out]
    subst hsn
    go_upto_region 16 with (go_at_call 18; go_fit (sright_any l1.a l1.n l1.cap X.L _ HW10.out.l HLO.out); rintro e w11 ⟨rfl, hb11⟩; have HTC := Lib.hid (HTB.out.below hb11); have H911 := Lib.hid (H910.out.trans (hb11.mono H910.out.size)); have HT11 := Lib.hid (box_below HT10.out hb11); have HX11 := Lib.hid (box_below HX10.out hb11); have HY11 := Lib.hid (box_below HY10.out hb11); have HP11 := Lib.hid (box_below HP10.out hb11); obtain ⟨c0, c1, c2⟩ := gcheck_box HX11.out; obtain ⟨d0, d1, d2, d3, d4, d5, d6⟩ := box7_cells HY11.out; obtain ⟨p0, p1, -, -⟩ := box2_cells HP11.out; have HB11 := Lib.hid (HB10.out.trans (hb11.mono HB10.out.size)); obtain ⟨t0, t1, t2, t3⟩ := box4w_cells HT11.out; clear hb11)
    have hm9 : w9.heap.size ≤ mg := HTB.out.bm
    have hz3 : w3.heap.size < w9.heap.size := box_lt HT9.out
    have hz0 := box_lt HP9.out
    obtain ⟨O, hO⟩ : ∃ O, seqE n hs.n ⟨xr, xm, xf, xc⟩ G os = O := ⟨_, rfl⟩
    have HO := Lib.hid hO
    clear hO
    have hos : O < 0 ∨ X.cost ≤ O := by
      have := HC4.out os
      rw [HO.out] at this
      omega
    go_upto_region 17 with (go_at_call 19; go_fit (cseq_gen _ w9 w9.heap.size tg mg 0 n hs hl ⟨xr, xm, xf, xc⟩ ⟨pa, pn, pc⟩ ⟨qa, qn, qc⟩ G os HTC.out HCE.out m1 m2 (by omega) HNE.out (Chg.of_below H911.out mg none) HQ9.out (HQS.out.below HB9.out) (mapAt_new hm9)); rintro e w12 ⟨rfl, ht12, hc12⟩; rw [HO.out]; have HT12 := Lib.hid ht12; have HC12 := Lib.hid hc12; clear ht12 hc12)
    have HY12 := Lib.hid (HC12.out.box HY11.out (by omega) (by simp))
    have HW12 := Lib.hid (HC12.out.box HT11.out (by omega) (by simp))
    have HC912 : Hid (Chg w9 w12 mg none) := (Chg.of_below H911.out mg none).trans HC12.out (.inl rfl)
    have HB12 : Hid (Below w.heap.size w w12) := HB11.out.trans (HC12.out.below (by omega) (by simp) HB11.out.size)
    have HK : Hid (∀ w', Chg w12 w' mg none → w'.cell? ⟨w.heap.size + 1, 2, none⟩ = some (.int .i64 xr) ∧ w'.cell? ⟨w.heap.size + 1, 3, none⟩ = some (.int .i64 xm) ∧ w'.cell? ⟨w.heap.size + 1, 4, none⟩ = some (.int .i64 xf) ∧ w'.cell? ⟨w.heap.size + 1, 5, none⟩ = some (.int .i64 xc) ∧ w'.cell? ⟨w3.heap.size, 0, none⟩ = some (.slice sa1 K.length sc1) ∧ w'.cell? ⟨w3.heap.size, 1, none⟩ = some (.int .i64 X.cost)) := fun w' hw' => by
      have h1 := box7_cells (hw'.box HY12.out (by omega) (by simp))
      have h2 := box4w_cells (hw'.box HW12.out (by omega) (by simp))
      exact ⟨h1.2.2.1, h1.2.2.2.1, h1.2.2.2.2.1, h1.2.2.2.2.2.1, h2.1, h2.2.1⟩
    have hss9 : SlQ icod w9 sa1 K.length sc1 ss := by
      have h : Sl icod w9 sa1 K.length sc1 X.ss := HW9.out.s
      rw [HSS.out] at h
      exact h.q
    have HS9 := Lib.hid hss9
    clear hss9 c0 c1 c2 d0 d1 d2 d3 d4 d5 d6 p0 p1 t0 t1 t2 t3
    obtain ⟨k0, k1, k2, k3, k4, k5⟩ := HK.out _ (Chg.refl _ _ _)
    have hdr : Chg w12 w12.drew mg none := Chg.of_below (Below.drew (Below.refl _ _)) _ _
    have HDR := Lib.hid hdr
    clear hdr
    by_cases hO0 : O < 0
    · have hd1 : decide (O < 0) = true := decide_eq_true hO0
      refine wp_region_held_drew (S := (fun w' => w'.cell? ⟨w.heap.size + 1, 2, none⟩ = some (.int .i64 xr) ∧ w'.cell? ⟨w.heap.size + 1, 3, none⟩ = some (.int .i64 xm) ∧ w'.cell? ⟨w.heap.size + 1, 4, none⟩ = some (.int .i64 xf) ∧ w'.cell? ⟨w.heap.size + 1, 5, none⟩ = some (.int .i64 xc) ∧ w'.cell? ⟨w3.heap.size, 0, none⟩ = some (.slice sa1 K.length sc1) ∧ w'.cell? ⟨w3.heap.size, 1, none⟩ = some (.int .i64 X.cost))) (by kernel_rfl) ?_ (fun hHeld => ?_)
      · exact HK.out _ HDR.out
      refine wpAnyH_take (i := 0) (v := ?_) rfl (by kernel_rfl) (by kernel_rfl) (by kernel_rfl) (fun _ _ _ h => h) (Or.inl ⟨by rfl, ?_⟩) (by assumption) ?_
      rotate_left
      · (intro w hSw; (try dsimp only at hSw); go_simp); try (with_reducible rfl)
      first | simp only [Act.put, List.setIfInBounds_toArray, List.set_cons_zero, List.set_cons_succ, List.getElem_toArray, List.getElem_cons_zero, List.getElem_cons_succ] | skip
      refine wpAnyH_take (i := 1) (v := ?_) rfl (by kernel_rfl) (by kernel_rfl) (by kernel_rfl) (fun _ _ _ h => h) (Or.inl ⟨by rfl, ?_⟩) (by assumption) ?_
      rotate_left
      · (intro w hSw; (try dsimp only at hSw); go_simp); try (with_reducible rfl)
      first | simp only [Act.put, List.setIfInBounds_toArray, List.set_cons_zero, List.set_cons_succ, List.getElem_toArray, List.getElem_cons_zero, List.getElem_cons_succ] | skip
      refine wpAnyH_take (i := 2) (v := ?_) rfl (by kernel_rfl) (by kernel_rfl) (by kernel_rfl) (fun _ _ _ h => h) (Or.inl ⟨by rfl, ?_⟩) (by assumption) ?_
      rotate_left
      · (intro w hSw; (try dsimp only at hSw); go_simp); try (with_reducible rfl)
      first | simp only [Act.put, List.setIfInBounds_toArray, List.set_cons_zero, List.set_cons_succ, List.getElem_toArray, List.getElem_cons_zero, List.getElem_cons_succ] | skip
      refine wpAnyH_take (i := 3) (v := ?_) rfl (by kernel_rfl) (by kernel_rfl) (by kernel_rfl) (fun _ _ _ h => h) (Or.inl ⟨by rfl, ?_⟩) (by assumption) ?_
      rotate_left
      · (intro w hSw; (try dsimp only at hSw); go_simp); try (with_reducible rfl)
      first | simp only [Act.put, List.setIfInBounds_toArray, List.set_cons_zero, List.set_cons_succ, List.getElem_toArray, List.getElem_cons_zero, List.getElem_cons_succ] | skip
      refine wpAnyH_take (i := 4) (v := ?_) rfl (by kernel_rfl) (by kernel_rfl) (by kernel_rfl) (fun _ _ _ h => h) (Or.inl ⟨by rfl, ?_⟩) (by assumption) ?_
      rotate_left
      · (intro w hSw; (try dsimp only at hSw); go_simp); try (with_reducible rfl)
      first | simp only [Act.put, List.setIfInBounds_toArray, List.set_cons_zero, List.set_cons_succ, List.getElem_toArray, List.getElem_cons_zero, List.getElem_cons_succ] | skip
      refine wpAnyH_take (i := 5) (v := ?_) rfl (by kernel_rfl) (by kernel_rfl) (by kernel_rfl) (fun _ _ _ h => h) (Or.inl ⟨by rfl, ?_⟩) (by assumption) ?_
      rotate_left
      · (intro w hSw; (try dsimp only at hSw); go_simp); try (with_reducible rfl)
      first | simp only [Act.put, List.setIfInBounds_toArray, List.set_cons_zero, List.set_cons_succ, List.getElem_toArray, List.getElem_cons_zero, List.getElem_cons_succ] | skip
      refine wpAnyH_take (i := 7) (v := ?_) rfl (by kernel_rfl) (by kernel_rfl) (by kernel_rfl) (fun _ _ _ h => h) (Or.inl ⟨by rfl, ?_⟩) (by assumption) ?_
      rotate_left
      · (intro w hSw; (try dsimp only at hSw); go_simp); try (with_reducible rfl)
      first | simp only [Act.put, List.setIfInBounds_toArray, List.set_cons_zero, List.set_cons_succ, List.getElem_toArray, List.getElem_cons_zero, List.getElem_cons_succ] | skip
      refine wpAnyH_take (i := 8) (v := ?_) rfl (by kernel_rfl) (by kernel_rfl) (by kernel_rfl) (fun _ _ _ h => h) (Or.inl ⟨by rfl, ?_⟩) (by assumption) ?_
      rotate_left
      · (intro w hSw; (try dsimp only at hSw); go_simp); try (with_reducible rfl)
      first | simp only [Act.put, List.setIfInBounds_toArray, List.set_cons_zero, List.set_cons_succ, List.getElem_toArray, List.getElem_cons_zero, List.getElem_cons_succ] | skip
      refine wpAnyH_ready (rs := [6]) (by kernel_rfl) (by simp) ?_
      refine AllReadyH.cons rfl (fun Kq hKq => ?_) AllReadyH.nil
      go_simp
      (go_at_call 19; go_fit (cseq_gen _ w9 w9.heap.size tg mg (0 + 2048) n hs hl ⟨xr, xm, xf, xc⟩ ⟨pa, pn, pc⟩ ⟨sa1, K.length, sc1⟩ G ss (HT12.out.below (Below.drew (Below.refl _ _))) HCE.out m1 m2 (by omega) HNE.out (HC912.out.trans HDR.out (.inl rfl)) HQ9.out HS9.out (mapAt_new hm9)); rintro e w13 ⟨rfl, ht13, hc13⟩; rw [HC.out]; have HC13 : Hid (Chg w12 w13 mg none) := HDR.out.trans hc13 (.inl rfl); have HB13 : Hid (Below w.heap.size w w13) := HB12.out.trans (HC13.out.below (by omega) (by simp) HB12.out.size); obtain ⟨k0, k1, k2, k3, k4, k5⟩ := HK.out _ HC13.out; clear ht13 hc13)
      refine hKq.out _ _ ?_ (fun hHeld => ?_)
      · exact HK.out _ HC13.out
      clear hKq Kq
      first | simp only [Act.put, List.setIfInBounds_toArray, List.set_cons_zero, List.set_cons_succ, List.getElem_toArray, List.getElem_cons_zero, List.getElem_cons_succ] | skip
      refine wpAnyH_take (i := 9) (v := ?_) rfl (by kernel_rfl) (by kernel_rfl) (by kernel_rfl) (fun _ _ _ h => h) (Or.inl ⟨by rfl, ?_⟩) (by assumption) ?_
      rotate_left
      · (intro w hSw; (try dsimp only at hSw); go_simp); try (with_reducible rfl)
      first | simp only [Act.put, List.setIfInBounds_toArray, List.set_cons_zero, List.set_cons_succ, List.getElem_toArray, List.getElem_cons_zero, List.getElem_cons_succ] | skip
      refine wpAnyH_take (i := 10) (v := ?_) rfl (by kernel_rfl) (by kernel_rfl) (by kernel_rfl) (fun _ _ _ h => h) (Or.inl ⟨by rfl, ?_⟩) (by assumption) ?_
      rotate_left
      · (intro w hSw; (try dsimp only at hSw); go_simp); try (with_reducible rfl)
      first | simp only [Act.put, List.setIfInBounds_toArray, List.set_cons_zero, List.set_cons_succ, List.getElem_toArray, List.getElem_cons_zero, List.getElem_cons_succ] | skip
      refine wpAnyH_take (i := 11) (v := ?_) rfl (by kernel_rfl) (by kernel_rfl) (by kernel_rfl) (fun _ _ _ h => h) (Or.inl ⟨by rfl, ?_⟩) (by assumption) ?_
      rotate_left
      · (intro w hSw; (try dsimp only at hSw); go_simp); try (with_reducible rfl)
      first | simp only [Act.put, List.setIfInBounds_toArray, List.set_cons_zero, List.set_cons_succ, List.getElem_toArray, List.getElem_cons_zero, List.getElem_cons_succ] | skip
      refine wpAnyH_take (i := 12) (v := ?_) rfl (by kernel_rfl) (by kernel_rfl) (by kernel_rfl) (fun _ _ _ h => h) (Or.inl ⟨by rfl, ?_⟩) (by assumption) ?_
      rotate_left
      · (intro w hSw; (try dsimp only at hSw); go_simp); try (with_reducible rfl)
      first | simp only [Act.put, List.setIfInBounds_toArray, List.set_cons_zero, List.set_cons_succ, List.getElem_toArray, List.getElem_cons_zero, List.getElem_cons_succ] | skip
      refine wpAnyH_take (i := 13) (v := ?_) rfl (by kernel_rfl) (by kernel_rfl) (by kernel_rfl) (fun _ _ _ h => h) (Or.inl ⟨by rfl, ?_⟩) (by assumption) ?_
      rotate_left
      · (intro w hSw; (try dsimp only at hSw); go_simp); try (with_reducible rfl)
      first | simp only [Act.put, List.setIfInBounds_toArray, List.set_cons_zero, List.set_cons_succ, List.getElem_toArray, List.getElem_cons_zero, List.getElem_cons_succ] | skip
      refine wpAnyH_take (i := 14) (v := undef) rfl (by kernel_rfl) (by kernel_rfl) (by kernel_rfl) (fun _ _ _ h => h) (Or.inr ⟨by rfl, rfl⟩) (by assumption) ?_
      first | simp only [Act.put, List.setIfInBounds_toArray, List.set_cons_zero, List.set_cons_succ, List.getElem_toArray, List.getElem_cons_zero, List.getElem_cons_succ] | skip
      refine wpAnyH_take (i := 15) (v := undef) rfl (by kernel_rfl) (by kernel_rfl) (by kernel_rfl) (fun _ _ _ h => h) (Or.inr ⟨by rfl, rfl⟩) (by assumption) ?_
      first | simp only [Act.put, List.setIfInBounds_toArray, List.set_cons_zero, List.set_cons_succ, List.getElem_toArray, List.getElem_cons_zero, List.getElem_cons_succ] | skip
      refine wpAnyH_take (i := 16) (v := undef) rfl (by kernel_rfl) (by kernel_rfl) (by kernel_rfl) (fun _ _ _ h => h) (Or.inr ⟨by rfl, rfl⟩) (by assumption) ?_
      first | simp only [Act.put, List.setIfInBounds_toArray, List.set_cons_zero, List.set_cons_succ, List.getElem_toArray, List.getElem_cons_zero, List.getElem_cons_succ] | skip
      refine wpAnyH_take (i := 17) (v := undef) rfl (by kernel_rfl) (by kernel_rfl) (by kernel_rfl) (fun _ _ _ h => h) (Or.inr ⟨by rfl, rfl⟩) (by assumption) ?_
      first | simp only [Act.put, List.setIfInBounds_toArray, List.set_cons_zero, List.set_cons_succ, List.getElem_toArray, List.getElem_cons_zero, List.getElem_cons_succ] | skip
      refine wpAnyH_take (i := 18) (v := ?_) rfl (by kernel_rfl) (by kernel_rfl) (by kernel_rfl) (fun _ _ _ h => h) (Or.inl ⟨by rfl, ?_⟩) (by assumption) ?_
      rotate_left
      · (intro w hSw; (try dsimp only at hSw); go_simp); try (with_reducible rfl)
      first | simp only [Act.put, List.setIfInBounds_toArray, List.set_cons_zero, List.set_cons_succ, List.getElem_toArray, List.getElem_cons_zero, List.getElem_cons_succ] | skip
      refine wpAnyH_take (i := 19) (v := ?_) rfl (by kernel_rfl) (by kernel_rfl) (by kernel_rfl) (fun _ _ _ h => h) (Or.inl ⟨by rfl, ?_⟩) (by assumption) ?_
      rotate_left
      · (intro w hSw; (try dsimp only at hSw); go_simp); try (with_reducible rfl)
      first | simp only [Act.put, List.setIfInBounds_toArray, List.set_cons_zero, List.set_cons_succ, List.getElem_toArray, List.getElem_cons_zero, List.getElem_cons_succ] | skip
      refine wpAnyH_take (i := 20) (v := ?_) rfl (by kernel_rfl) (by kernel_rfl) (by kernel_rfl) (fun _ _ _ h => h) (Or.inl ⟨by rfl, ?_⟩) (by assumption) ?_
      rotate_left
      · (intro w hSw; (try dsimp only at hSw); go_simp); try (with_reducible rfl)
      first | simp only [Act.put, List.setIfInBounds_toArray, List.set_cons_zero, List.set_cons_succ, List.getElem_toArray, List.getElem_cons_zero, List.getElem_cons_succ] | skip
      refine wpAnyH_done (by kernel_rfl) ?_ _
      go_wp2_with fail
      go_ret
      exact ⟨by first | rfl | exact ret_bool (by simp), HB13.out⟩
    · have hO1 : X.cost ≤ O := by omega
      have hd1 : decide (O < 0) = false := decide_eq_false hO0
      have hd2 : decide (X.cost ≤ O) = true := decide_eq_true hO1
      go_region_held3 (fun w' => w'.cell? ⟨w.heap.size + 1, 2, none⟩ = some (.int .i64 xr) ∧ w'.cell? ⟨w.heap.size + 1, 3, none⟩ = some (.int .i64 xm) ∧ w'.cell? ⟨w.heap.size + 1, 4, none⟩ = some (.int .i64 xf) ∧ w'.cell? ⟨w.heap.size + 1, 5, none⟩ = some (.int .i64 xc) ∧ w'.cell? ⟨w3.heap.size, 0, none⟩ = some (.slice sa1 K.length sc1) ∧ w'.cell? ⟨w3.heap.size, 1, none⟩ = some (.int .i64 X.cost)) (first | exact HK.out _ (Chg.refl _ _ _) | exact HK.out _ HDR.out | exact HK.out _ HC13.out) (first | (go_at_call 19; go_fit (cseq_gen _ w9 w9.heap.size tg mg (0 + 2048) n hs hl ⟨xr, xm, xf, xc⟩ ⟨pa, pn, pc⟩ ⟨sa1, K.length, sc1⟩ G ss (HT12.out.below (Below.drew (Below.refl _ _))) HCE.out m1 m2 (by omega) HNE.out (HC912.out.trans HDR.out (.inl rfl)) HQ9.out HS9.out (mapAt_new hm9)); rintro e w13 ⟨rfl, ht13, hc13⟩; rw [HC.out]; have HC13 : Hid (Chg w12 w13 mg none) := HDR.out.trans hc13 (.inl rfl); have HB13 : Hid (Below w.heap.size w w13) := HB12.out.trans (HC13.out.below (by omega) (by simp) HB12.out.size); obtain ⟨k0, k1, k2, k3, k4, k5⟩ := HK.out _ HC13.out; clear ht13 hc13))
      all_goals
        go_wp2_with fail
        go_ret
        exact ⟨by first | rfl | exact ret_bool (by simp), HB13.out⟩
end Go.Proofs.YtlfbbahihenilaaGreat.Ne

namespace Go.Proofs.YtlfbbahihenilaaGreat.Ne
open Go.RowKit Go.V Go.Proofs Go.ChangeShapes Go.WideShapes Go.ChangeAt

set_option maxRecDepth 100000 in
theorem open_play26 {H : Type} {enc : TypeId × Value → H} {w : World} {b0 base : Nat} {spare : Nat → Bool} {held : Bool} {v : Value} {d : DataW H} {ps : List MemPlace} (hval : Value.okWide Tryz.prog w .any base 60 v) (h : DataW.Trod enc Tryz.prog w b0 spare held 60 v d ps) :
    ∃ (a0 : Option Addr) (m0 p0 : Nat) (l0 : List Smp) (a1 : Option Addr) (m1 p1 : Nat) (l1 : List Int), v = .agg #[.slice a0 m0 p0, .slice a1 m1 p1] ∧ Sl Smp.cod w a0 m0 p0 l0 ∧ SlQ icod w a1 m1 p1 l1 := by
  simp only [Value.okWide, Tryz.underlying60] at hval
  obtain ⟨cs, rfl, hsz, ts, hts, -, hcell⟩ := hval
  obtain ⟨fuel, hf⟩ := h
  obtain ⟨xs, m, -, -, hl, hxl, hx⟩ := DataW.trod_struct Tryz.underlying60 hf
  have hc2 : Tryz.prog.cellsOf 60 = 2 := by kernel_rfl
  have hts' : Tryz.prog.cellTypes Tryz.prog.depth 60 = some [32, 35] := by kernel_rfl
  rw [hts'] at hts
  cases hts
  have hcs : Tryz.prog.cellsOf 32 = 1 := by kernel_rfl
  have hcl : Tryz.prog.cellsOf 35 = 1 := by kernel_rfl
  obtain ⟨l⟩ := cs
  rw [hc2] at hsz
  obtain ⟨v0, v1, rfl⟩ := list2w (l := l) (by simpa using hsz)
  have hx2 : xs.length = 2 := by rw [hxl]; rfl
  obtain ⟨y0, y1, rfl⟩ := list2w hx2
  have g0 := hx 0 _ rfl
  have g1 := hx 1 _ rfl
  simp [Value.cells, hcs, hcl] at g0 g1
  have k0 : Value.okWide Tryz.prog w .any base 32 v0 := by
    obtain ⟨u, hu, hk⟩ := hcell 0 v0 rfl
    cases hu
    exact slice_val Tryz.underlying32 hk
  have k1 : Value.okWide Tryz.prog w .any base 35 v1 := by
    obtain ⟨u, hu, hk⟩ := hcell 1 v1 rfl
    cases hu
    exact slice_val Tryz.underlying35 hk
  obtain ⟨a0, m0, p0, l0, rfl, s0, -⟩ := open_sl (c := Smp.cod) (ok := Smp.ok) (d := y0.1) (ps := y0.2) Tryz.underlying32 (by kernel_rfl) (fun n cs y => smp_opened n cs y) k0 ⟨m, by obtain ⟨a, n, c, rfl⟩ := okWide_slice Tryz.underlying32 k0; exact g0⟩
  obtain ⟨a1, m1, p1, l1, rfl, s1, -⟩ := open_sl (c := icod) (ok := Iok) (d := y1.1) (ps := y1.2) Tryz.underlying35 (by kernel_rfl) (fun n cs y => int_opened n cs y) k1 ⟨m, by obtain ⟨a, n, c, rfl⟩ := okWide_slice Tryz.underlying35 k1; exact g1⟩
  exact ⟨a0, m0, p0, l0, a1, m1, p1, l1, rfl, s0, s1.q⟩
end Go.Proofs.YtlfbbahihenilaaGreat.Ne

namespace Go.Proofs.YtlfbbahihenilaaGreat.lawMatchLeast
open Go.ChangeShapes Go.WideShapes Go.ChangeAt Go.RowKit Go.V Go.Proofs.YtlfbbahihenilaaGreat.Ne

theorem own : ownKnob Tryz.prog.godebug = none := by kernel_rfl
theorem laidOut : laidOutB Tryz.prog = true := by kernel_rfl

set_option maxRecDepth 100000 in
theorem lifted (os : Os) (started : os.Started) (H : Type) (enc : TypeId × Value → H) :
    ReturnsInHanded {} Tryz.checked os 5 .any (Rows.matchLeastSpec.pre6 enc Tryz.prog Tryz.f5 Rows.matchLeastRow.domain false) (Rows.matchLeastSpec.post enc Tryz.prog Tryz.f5 false true false false) := by
  refine returnsInHanded_of_change (C := Tryz.checked) own started (by kernel_rfl) Tryz.func5
    (ChangeSpec.witness6 (enc := enc) (C := Tryz.checked) false ⟨#[], #[.agg #[.int .i64 0, .slice none 0 0, .slice none 0 0], .agg #[.int .i64 0, .int .i64 0, .int .i64 0, .int .i64 0, .int .i64 0, .int .i64 0, .int .i64 0], .agg #[.slice none 0 0, .slice none 0 0]], []⟩ 8 (by kernel_rfl) (by kernel_rfl) (by kernel_rfl) (by kernel_rfl)) ?_
  intro W base args ds gs before hval0 hW hcnd _
  have hval : ∀ (j : Nat) t v, Tryz.f5.params[j]? = some t → args[j]? = some v → Value.okWide Tryz.prog W .any base t v := hval0
  have hW' := hW
  obtain ⟨p, q, hA0, hV, rfl, hfz, hnd⟩ := hW
  have hA : DataW.TrodAll enc Tryz.prog W 0 (fun _ => true) true Tryz.f5.params.toList args.toList ds p := hA0
  rw [Tryz.params5] at hA hval
  obtain ⟨v0, vs0, d0, ds0, p0, q0, hargs, rfl, rfl, h0, r0⟩ := trodAll_cons hA
  obtain ⟨v1, vs1, d1, ds1, p1, q1, rfl, rfl, rfl, h1, r1⟩ := trodAll_cons r0
  obtain ⟨v2, vs2, d2, ds2, p2, q2, rfl, rfl, rfl, h2, r2⟩ := trodAll_cons r1
  obtain ⟨rfl, rfl, rfl⟩ := trodAll_nil r2
  obtain rfl : args = #[v0, v1, v2] := by cases args; simp_all
  obtain ⟨rfl, rfl⟩ := trodVars_none hV
  have k0 := h0
  have lt0 : ∀ x ∈ p0, x.block < W.heap.size := by obtain ⟨m, hm⟩ := k0; exact DataW.trod_lt m _ _ _ hm
  have k1 := h1
  have lt1 : ∀ x ∈ p1, x.block < W.heap.size := by obtain ⟨m, hm⟩ := k1; exact DataW.trod_lt m _ _ _ hm
  have k2 := h2
  have lt2 : ∀ x ∈ p2, x.block < W.heap.size := by obtain ⟨m, hm⟩ := k2; exact DataW.trod_lt m _ _ _ hm
  obtain ⟨nt, hs, hl, rfl, hnt, -, -, -⟩ := open_net (hval 0 25 v0 rfl rfl) h0
  obtain ⟨ru, rfl⟩ := open_rul (hval 1 31 v1 rfl rfl) h1
  obtain ⟨la2, lm2, lp2, ll2, qa2, qm2, qp2, ql2, rfl, hlL2, hqL2⟩ := open_play26 (hval 2 60 v2 rfl rfl) h2
  clear hA0 hval0
  refine (mleast_any nt hs hl ru la2 lm2 lp2 ll2 qa2 qm2 qp2 ql2 W hnt hlL2 hqL2).mono fun e W' ⟨he, bel⟩ => ?_
  subst he
  exact ⟨_, rfl, _, _, _, [], _, [], hW', trodAll_mk1 (shut_bool Tryz.underlying4 _), (trodAll_cons_mk (Below.trod laidOut (by kernel_rfl) (of_decide_eq_true (by kernel_rfl)) k0 bel lt0) (trodAll_cons_mk (Below.trod laidOut (by kernel_rfl) (of_decide_eq_true (by kernel_rfl)) k1 bel lt1) (trodAll_cons_mk (Below.trod laidOut (by kernel_rfl) (of_decide_eq_true (by kernel_rfl)) k2 bel lt2) trodAll_mk0))), rfl, bel.frame _, fun h => by cases h⟩

theorem over : Rows.matchLeastRow.holds Tryz.pinned (OpenSpec.ofChange Rows.matchLeastSpec) :=
  OpenClaim.holds_of_wide 5 Tryz.f5 rfl rfl rfl rfl rfl rfl rfl ⟨rfl, rfl, rfl, rfl, rfl⟩ rfl rfl rfl rfl rfl (by kernel_rfl) Tryz.func5 (by kernel_rfl)
    (of_decide_eq_true (by kernel_rfl)) (by unfold Func.isWrapper; first | (rw [if_pos (by decide +kernel)]; kernel_rfl) | (rw [if_neg (by decide +kernel)]; exact ⟨rfl, rfl⟩))
    (fun os started H enc _ => lifted os started H enc)

theorem proved : Rows.MatchLeastSaid := over
#print axioms proved
end Go.Proofs.YtlfbbahihenilaaGreat.lawMatchLeast
