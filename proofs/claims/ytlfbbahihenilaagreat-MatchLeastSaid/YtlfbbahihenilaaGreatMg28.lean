/- Candidates: cand.All: walked. -/
/- Candidates: the chapter's example; the law CandTells: walked. -/
/- Candidates: points of a grid that is none: walked. -/
/- Candidates: the law CandOne: walked. -/
import Derived.Test.YtlfbbahihenilaaGreatMg27
import Derived.Test.YtlfbbahihenilaaGreatMg14
import Derived.Test.YtlfbbahihenilaaGreatMg22
namespace Go.Proofs.YtlfbbahihenilaaGreat.Ne
open Go.RowKit Go.V Go.Proofs

theorem check_stops {n : Net} (h : checkE n = 0) : n.stops.all stpB = true := by
  unfold checkE at h
  split at h
  · split at h
    · next hb =>
      unfold netB at hb
      simp only [Bool.and_eq_true] at hb
      exact hb.1.2
    · cases h
  · cases h
theorem right_any_size {S : List Stp} {z : Int} (hz : 1 ≤ z ∧ z ≤ 67108864) (h : S.all stpB = true) : rightE S z = 0 := by
  unfold rightE
  rw [if_neg (by omega), if_pos h]
theorem cgnew_ok (a : Option Addr) (n cap : Nat) (S : List Stp) (z : Int) (w : World) (hn : n ≤ 200) (h : Sl Stp.cod w a n cap S) (h0 : rightE S z = 0) :
    Calls Tryz.prog 51 #[.slice a n cap, .int .i64 z] w fun e w' => ∃ (g : Nat) (gh : Hdr) (b : Nat), e = .returned (.tuple #[gP g, .int .i64 0]) ∧ GBox w' g gh z b ∧ Sl Stp.cod w' gh.a gh.n gh.cap S ∧ GMap w' b (idxs S z) ∧ Below w.heap.size w w' :=
  (grnew_any a n cap S z w hn h).mono fun e w' ⟨hb, hc⟩ => by
    rcases hc with ⟨hne, -⟩ | ⟨-, g, gh, b, h1, h2, h3, h4⟩
    · exact absurd h0 hne
    · exact ⟨g, gh, b, h1, h2, h3, h4, hb⟩

set_option maxHeartbeats 8000000 in
set_option maxRecDepth 100000 in
theorem call_any (n : Net) (hs hl : Hdr) (x : Wgh) (a : Option Addr) (k cap : Nat) (l : List Smp) (w : World) (hm : hs.n ≤ 200 ∧ hl.n ≤ 1000000) (hk : k ≤ 2048) (hnet : NetIn w n hs hl) (hl0 : Sl Smp.cod w a k cap l) :
    Calls Tryz.prog 17 #[n.val hs hl, x.val, .slice a k cap] w (AllR n x l w) := by
  obtain ⟨xr, xm, xf, xc⟩ := x
  have HX0 : Hid (((w.alloc (n.box hs hl)).alloc (Wgh.mk xr xm xf xc).box).heap[w.heap.size]? = some (.cells #[.int .i64 n.ver, .slice hs.a hs.n hs.cap, .slice hl.a hl.n hl.cap] 25 (0, 0))) := box_alloc (box_new w _)
  have HY0 : Hid (((w.alloc (n.box hs hl)).alloc (Wgh.mk xr xm xf xc).box).heap[w.heap.size + 1]? = some (.cells #[.int .i64 xr, .int .i64 xm, .int .i64 xf, .int .i64 xc] 29 (0, 0))) := by
    have := box_new (w.alloc (n.box hs hl)) (Wgh.mk xr xm xf xc).box
    rw [World.size_alloc] at this
    exact this
  have HB0 : Hid (Below w.heap.size w ((w.alloc (n.box hs hl)).alloc (Wgh.mk xr xm xf xc).box)) := ((Below.refl _ _).alloc (Nat.le_refl _) _).alloc (by simp) _
  obtain ⟨m1, m2⟩ := hm
  have HNT := Lib.hid hnet
  have HL := Lib.hid hl0
  have HKL := Lib.hid hl0.hlen
  have HSN : Hid (n.stops.length ≤ 200) := by show _ ≤ _; rw [← hnet.s.hlen]; exact m1
  obtain ⟨ce, hce⟩ : ∃ c, checkE n = c := ⟨_, rfl⟩
  obtain ⟨bm, hbm⟩ : ∃ b, mayW ⟨xr, xm, xf, xc⟩ = b := ⟨_, rfl⟩
  have HCE := Lib.hid hce
  have HBM := Lib.hid hbm
  clear hnet hl0 hce hbm
  have hx0 := (box_cell HX0.out 0).1
  have hx1 := (box_cell HX0.out 1).1
  have hx2 := (box_cell HX0.out 2).1
  have mixed : Tryz.prog.follows .mixedOrders = true := by kernel_rfl
  by_cases hc0 : ce = 0
  case neg =>
    have hcb : (ce != 0) = true := by simpa using hc0
    have HC := Lib.hid hc0
    clear hc0
    go_enter Tryz.func17, Tryz.ntmps17
    go_wp2_with (go_at_call 35; go_fit (check_any n hs hl _ ⟨by omega, m2⟩ (HNT.out.below HB0.out)); rintro e w2 ⟨rfl, hb2⟩; rw [HCE.out]; have HX2 := Lib.hid (box_below HX0.out hb2); have HY2 := Lib.hid (box_below HY0.out hb2); obtain ⟨y0, y1, y2, y3⟩ := box4w_cells HY2.out; have HB2 := Lib.hid (HB0.out.trans (hb2.mono HB0.out.size)); clear hb2)
    go_ret2
    exact allR_bad (by rw [allErr_check (by rw [HCE.out]; exact HC.out), HCE.out]) HC.out HB2.out
  case pos =>
    subst hc0
    cases bm with
    | false =>
      go_enter Tryz.func17, Tryz.ntmps17
      go_wp2_with (first
        | (go_at_call 35; go_fit (check_any n hs hl _ ⟨by omega, m2⟩ (HNT.out.below HB0.out)); rintro e w2 ⟨rfl, hb2⟩; rw [HCE.out]; have HX2 := Lib.hid (box_below HX0.out hb2); have HY2 := Lib.hid (box_below HY0.out hb2); obtain ⟨y0, y1, y2, y3⟩ := box4w_cells HY2.out; have HB2 := Lib.hid (HB0.out.trans (hb2.mono HB0.out.size)); clear hb2)
        | (go_at_call 29; go_fit (cmay_any ⟨xr, xm, xf, xc⟩ _); rintro e w4 ⟨rfl, hb3⟩; rw [HBM.out]; have HX4 := Lib.hid (box_below HX2.out hb3); have HY4 := Lib.hid (box_below HY2.out hb3); have HB4 := Lib.hid (HB2.out.trans (hb3.mono HB2.out.size)); clear hb3))
      go_ret2
      exact allR_bad (allErr_may HCE.out HBM.out) (by decide) HB4.out
    | true =>
      have HMR := Lib.hid (mayW_reach HBM.out)
      go_enter Tryz.func17, Tryz.ntmps17
      go_upto_block 1 with (first
        | (go_at_call 35; go_fit (check_any n hs hl _ ⟨by omega, m2⟩ (HNT.out.below HB0.out)); rintro e w2 ⟨rfl, hb2⟩; rw [HCE.out]; have HX2 := Lib.hid (box_below HX0.out hb2); have HY2 := Lib.hid (box_below HY0.out hb2); obtain ⟨y0, y1, y2, y3⟩ := box4w_cells HY2.out; have HB2 := Lib.hid (HB0.out.trans (hb2.mono HB0.out.size)); clear hb2)
        | (go_at_call 29; go_fit (cmay_any ⟨xr, xm, xf, xc⟩ _); rintro e w4 ⟨rfl, hb3⟩; rw [HBM.out]; have HX4 := Lib.hid (box_below HX2.out hb3); have HY4 := Lib.hid (box_below HY2.out hb3); have HB4 := Lib.hid (HB2.out.trans (hb3.mono HB2.out.size)); clear hb3))
      have hw4 : w.heap.size + 2 ≤ w4.heap.size := by have := box_lt HY4.out; omega
      clear hx0 hx1 hx2 y0 y1 y2 y3
      go_wp2_with fail
      go_loopw [33] (fun i wr => ∃ (j : Nat), j ≤ k ∧ i = .int .i64 j ∧ Hid (rightN l j = true) ∧ Hid (Below w4.heap.size w4 wr)) (fun i _ => k - (intOf i).toNat)
      case atStart => exact ⟨0, by omega, rfl, rfl, Below.refl _ _⟩
      case round =>
        obtain ⟨j, hj, rfl, hok, hb⟩ := hrel
        have HBW : Hid (Below w.heap.size w wr) := HB4.out.trans (hb.out.mono HB4.out.size)
        have hsz : w4.heap.size ≤ wr.heap.size := hb.out.size
        by_cases hlt : j < k
        · have hltz : (j : Int) < (k : Int) := by omega
          obtain ⟨lb, lo, r, rfl, hlb, hrj, c0, c1, c2⟩ := smp_at (HL.out.below HBW.out) hlt
          have HRJ := Lib.hid hrj
          have HBX : Hid (Below w4.heap.size w4 (wr.alloc (.cells #[.int .i64 r.t, .int .i64 r.x, .int .i64 r.y] 73))) := hb.out.alloc hsz _
          have hBA : Below wr.heap.size wr (wr.alloc (.cells #[.int .i64 r.t, .int .i64 r.x, .int .i64 r.y] 73)) := (Below.refl _ _).alloc (Nat.le_refl _) _
          obtain ⟨z0, z1, z2, -, -, -⟩ := box3_cells (box_new wr (.cells #[.int .i64 r.t, .int .i64 r.x, .int .i64 r.y] 73))
          have Z0 := cell_regrown z0
          have Z1 := cell_regrown z1
          have Z2 := cell_regrown z2
          obtain ⟨bb, hbb⟩ : ∃ b, smpB r = b := ⟨_, rfl⟩
          have HBB := Lib.hid hbb
          have q1 : ∀ nd osq, Calls Tryz.prog 50 #[r.val] (Go.Sort.grow (redrawn (wr.alloc (.cells #[.int .i64 r.t, .int .i64 r.x, .int .i64 r.y] 73)) nd) osq) fun e w' => e = .returned (.bool bb) ∧ Below (Go.Sort.grow (redrawn (wr.alloc (.cells #[.int .i64 r.t, .int .i64 r.x, .int .i64 r.y] 73)) nd) osq).heap.size (Go.Sort.grow (redrawn (wr.alloc (.cells #[.int .i64 r.t, .int .i64 r.x, .int .i64 r.y] 73)) nd) osq) w' := fun nd osq => (smay_any r _).mono fun e w' ⟨k1, k2⟩ => ⟨by rw [k1, hbb], k2⟩
          clear hrj hbb z0 z1 z2
          cases bb with
          | false =>
            go_upto_region 11 with fail
            refine wp_region_quiet_below (by assumption) (by kernel_rfl) ?_
            repeat (go_big_quiet_step ((go_at_call 50; exact Calls.regrown_of (q1 _ _))))
            refine wpQuiet_nil ?_
            intro w9 hw9
            obtain ⟨⟨nd, osq⟩, rfl⟩ := hw9
            have HB9 : Hid (Below w4.heap.size w4 (Go.Sort.grow (redrawn (wr.alloc (.cells #[.int .i64 r.t, .int .i64 r.x, .int .i64 r.y] 73)) nd) osq)) := HBX.out.trans ((below_regrown (wr.alloc (.cells #[.int .i64 r.t, .int .i64 r.x, .int .i64 r.y] 73)) nd osq).mono HBX.out.size)
            clear Z0 Z1 Z2 q1
            generalize Go.Sort.grow (redrawn (wr.alloc (.cells #[.int .i64 r.t, .int .i64 r.x, .int .i64 r.y] 73)) nd) osq = w9 at HB9 ⊢
            go_wp2_with fail
            go_ret2
            exact allR_bad (allErr_right HCE.out HBM.out (rightN_bad HRJ.out (by unfold stepS; rw [HBB.out]; rfl))) (by decide) (HB4.out.trans (HB9.out.mono HB4.out.size))
          | true =>
            cases j with
            | zero =>
              simp only [Nat.zero_mul, Nat.add_zero] at c0 c1 c2
              go_upto_region 11 with fail
              refine wp_region_quiet_below (by assumption) (by kernel_rfl) ?_
              repeat (go_big_quiet_step ((go_at_call 50; exact Calls.regrown_of (q1 _ _))))
              refine wpQuiet_nil ?_
              intro w9 hw9
              obtain ⟨⟨nd, osq⟩, rfl⟩ := hw9
              have HB9 : Hid (Below w4.heap.size w4 (Go.Sort.grow (redrawn (wr.alloc (.cells #[.int .i64 r.t, .int .i64 r.x, .int .i64 r.y] 73)) nd) osq)) := HBX.out.trans ((below_regrown (wr.alloc (.cells #[.int .i64 r.t, .int .i64 r.x, .int .i64 r.y] 73)) nd osq).mono HBX.out.size)
              clear Z0 Z1 Z2 q1
              generalize Go.Sort.grow (redrawn (wr.alloc (.cells #[.int .i64 r.t, .int .i64 r.x, .int .i64 r.y] 73)) nd) osq = w9 at HB9 ⊢
              go_wp2_with fail
              go_roundw
              case rel => exact ⟨1, by omega, by go_num, by show _ = _; rw [rightN_snoc HRJ.out, hok.out, Bool.true_and]; unfold stepS; rw [HBB.out]; rfl, HB9.out⟩
              case measure => simp [intOf]; omega
            | succ j =>
              obtain ⟨b', off', p, hba, hbp, hp, d0, -, -⟩ := smp_at (HL.out.below HBW.out) (i := j) (by omega)
              cases hba
              have d0 := (hBA.cell (p := ⟨lb, lo + j * 3, none⟩) hbp).trans d0
              have D0 := cell_regrown d0
              have HP := Lib.hid hp
              have r1 : IntKind.i64.wrap ((↑(j + 1) : Int) - 1) = (j : Int) := by rw [IntKind.wrap_i64]; omega
              have b2 : (j : Int) < (k : Int) := by omega
              have b3 : (0 : Int) < (↑(j + 1) : Int) := by omega
              have HST : Hid (stepS l (j + 1) r = decide (p.t < r.t)) := by show _ = _; unfold stepS; simp only [HP.out, HBB.out, Bool.true_and]
              clear hp d0
              by_cases hle : r.t ≤ p.t
              · clear b3
                have b3 : (0 : Int) < (↑(j + 1) : Int) := by omega
                go_upto_region 11 with fail
                refine wp_region_quiet_below (by assumption) (by kernel_rfl) ?_
                repeat (go_big_quiet_step ((go_at_call 50; exact Calls.regrown_of (q1 _ _))))
                refine wpQuiet_nil ?_
                intro w9 hw9
                obtain ⟨⟨nd, osq⟩, rfl⟩ := hw9
                have HB9 : Hid (Below w4.heap.size w4 (Go.Sort.grow (redrawn (wr.alloc (.cells #[.int .i64 r.t, .int .i64 r.x, .int .i64 r.y] 73)) nd) osq)) := HBX.out.trans ((below_regrown (wr.alloc (.cells #[.int .i64 r.t, .int .i64 r.x, .int .i64 r.y] 73)) nd osq).mono HBX.out.size)
                clear Z0 Z1 Z2 D0 q1
                generalize Go.Sort.grow (redrawn (wr.alloc (.cells #[.int .i64 r.t, .int .i64 r.x, .int .i64 r.y] 73)) nd) osq = w9 at HB9 ⊢
                go_wp2_with fail
                go_ret2
                exact allR_bad (allErr_right HCE.out HBM.out (rightN_bad HRJ.out (by rw [HST.out]; exact decide_eq_false (by omega)))) (by decide) (HB4.out.trans (HB9.out.mono HB4.out.size))
              · go_upto_region 11 with fail
                refine wp_region_quiet_below (by assumption) (by kernel_rfl) ?_
                repeat (go_big_quiet_step ((go_at_call 50; exact Calls.regrown_of (q1 _ _))))
                refine wpQuiet_nil ?_
                intro w9 hw9
                obtain ⟨⟨nd, osq⟩, rfl⟩ := hw9
                have HB9 : Hid (Below w4.heap.size w4 (Go.Sort.grow (redrawn (wr.alloc (.cells #[.int .i64 r.t, .int .i64 r.x, .int .i64 r.y] 73)) nd) osq)) := HBX.out.trans ((below_regrown (wr.alloc (.cells #[.int .i64 r.t, .int .i64 r.x, .int .i64 r.y] 73)) nd osq).mono HBX.out.size)
                clear Z0 Z1 Z2 D0 q1
                generalize Go.Sort.grow (redrawn (wr.alloc (.cells #[.int .i64 r.t, .int .i64 r.x, .int .i64 r.y] 73)) nd) osq = w9 at HB9 ⊢
                go_wp2_with fail
                go_roundw
                case rel => exact ⟨j + 1 + 1, by omega, by go_num, by show _ = _; rw [rightN_snoc HRJ.out, hok.out, Bool.true_and, HST.out]; exact decide_eq_true (by omega), HB9.out⟩
                case measure => simp [intOf]; omega
        · have hjk : j = k := by omega
          have HRT : Hid (rightS l = true) := by show _ = _; have := hok.out; rw [hjk, HKL.out] at this; exact this
          clear hjk
          have HX5 : Hid (wr.heap[w.heap.size]? = some (.cells #[.int .i64 n.ver, .slice hs.a hs.n hs.cap, .slice hl.a hl.n hl.cap] 25 (0, 0))) := (hb.out.block _ (by omega)).trans HX4.out
          have HY5 : Hid (wr.heap[w.heap.size + 1]? = some (.cells #[.int .i64 xr, .int .i64 xm, .int .i64 xf, .int .i64 xc] 29 (0, 0))) := (hb.out.block _ (by omega)).trans HY4.out
          have hx1 := (box3_cells HX5.out).2.1
          have HST := Lib.hid (check_stops HCE.out)
          go_upto_block 3 with (go_at_call 51; go_fit (cgnew_ok hs.a hs.n hs.cap n.stops 4096 _ m1 (HNT.out.s.below HBW.out) (right_any_size (by decide) HST.out)); rintro e w6 ⟨g, gh, b, rfl, hg, hgs, hgm, hb6⟩; have HG6 := Lib.hid hg; have HGS6 := Lib.hid hgs; have HGM6 := Lib.hid hgm; have HX6 := Lib.hid (box_below HX5.out hb6); have HY6 := Lib.hid (box_below HY5.out hb6); have HB6 := Lib.hid (HBW.out.trans (hb6.mono HBW.out.size)); clear hg hgs hgm hb6)
          clear hx1
          have hw6 : w.heap.size + 2 ≤ w6.heap.size := by have := box_lt HY6.out; omega
          go_wp2_with fail
          go_loopw [13, 65] (fun vo i wr => ∃ (j : Nat) (v : Value) (gr : List Hdr), v = vo ∧ j ≤ k ∧ i = .int .i64 j ∧ Hid (OwnG 141 110 Fnd.cod w6.heap.size wr v gr ((l.take j).map (rowE n ⟨xr, xm, xf, xc⟩))) ∧ Hid (∀ s ∈ l.take j, rowE n ⟨xr, xm, xf, xc⟩ s ≠ []) ∧ Hid (Below w6.heap.size w6 wr)) (fun _ i _ => k - (intOf i).toNat)
          case atStart => exact ⟨0, _, [], rfl, by omega, rfl, OwnG.nil, fun s hs => by simp at hs, Below.refl _ _⟩
          case round =>
            obtain ⟨j, v, gr, rfl, hj, rfl, ho, hne, hb⟩ := hrel
            have hsz : w6.heap.size ≤ wr.heap.size := hb.out.size
            have HBW : Hid (Below w.heap.size w wr) := HB6.out.trans (hb.out.mono HB6.out.size)
            by_cases hlt : j < k
            · have hltz : (j : Int) < (k : Int) := by omega
              obtain ⟨lb, lo, r, rfl, hlb, hrj, c0, c1, c2⟩ := smp_at (HL.out.below HBW.out) hlt
              have HX7 : Hid (wr.heap[w.heap.size]? = _) := (hb.out.block _ (by omega)).trans HX6.out
              have HY7 : Hid (wr.heap[w.heap.size + 1]? = _) := (hb.out.block _ (by omega)).trans HY6.out
              have HRJ := Lib.hid hrj
              have HBX : Hid (Below wr.heap.size wr (wr.alloc (.cells #[.int .i64 r.t, .int .i64 r.x, .int .i64 r.y] 73))) := (Below.refl _ _).alloc (Nat.le_refl _) _
              obtain ⟨f0, f1, f2, -, -, -⟩ := box3_cells (box_below HX7.out HBX.out)
              obtain ⟨f3, f4, f5, f6⟩ := box4w_cells (box_below HY7.out HBX.out)
              obtain ⟨R, hR⟩ : ∃ R, rowE n ⟨xr, xm, xf, xc⟩ r = R := ⟨_, rfl⟩
              have HR := Lib.hid hR
              have hrm0 : smpB r = true := right_may HRT.out r (List.mem_of_getElem? hrj)
              have hbw6 : Below w6.heap.size w6 (wr.alloc (.cells #[.int .i64 r.t, .int .i64 r.x, .int .i64 r.y] 73)) := hb.out.trans (HBX.out.mono hsz)
              have HPT : Hid (Calls Tryz.prog 52 #[gP g, n.val hs hl, (Wgh.mk xr xm xf xc).val, r.val] (wr.alloc (.cells #[.int .i64 r.t, .int .i64 r.x, .int .i64 r.y] 73)) fun e w' => ∃ v, e = .returned (.tuple #[v, .int .i64 0]) ∧ V.Own 141 Fnd.cod (wr.alloc (.cells #[.int .i64 r.t, .int .i64 r.x, .int .i64 r.y] 73)).heap.size w' v R ∧ Below (wr.alloc (.cells #[.int .i64 r.t, .int .i64 r.x, .int .i64 r.y] 73)).heap.size (wr.alloc (.cells #[.int .i64 r.t, .int .i64 r.x, .int .i64 r.y] 73)) w') := by
                rw [← hR]
                exact cpoints_ok g gh 4096 b n hs hl ⟨xr, xm, xf, xc⟩ r _ HSN.out (by decide) (fun s hs => List.all_eq_true.1 HST.out s hs) HBM.out hrm0 ⟨HMR.out.1, HMR.out.2.1, HMR.out.2.2.1⟩ (HNT.out.below (HBW.out.trans (HBX.out.mono HBW.out.size))) (HG6.out.below hbw6) (HGS6.out.below hbw6) (HGM6.out.below hbw6)
              have hxl : w.heap.size + 1 < wr.heap.size := by omega
              clear hrj hR hrm0 hbw6
              go_upto_region 20 with (go_at_call 52; refine HPT.out.mono ?_; rintro e w7 ⟨v7, rfl, ho7, hb7⟩; obtain ⟨q7, rfl, hq7⟩ := row_hdr ho7; obtain ⟨qa, qn, qc⟩ := q7; (have hq7 : qn = R.length := hq7); subst hq7; have HO7 := Lib.hid ho7; have HC7 := Lib.hid (HBX.out.trans (hb7.mono HBX.out.size)); clear ho7 hb7)
              have HB7 : Hid (Below w6.heap.size w6 w7) := hb.out.trans (HC7.out.mono hsz)
              have HBW7 : Hid (Below w.heap.size w w7) := HB6.out.trans (HB7.out.mono HB6.out.size)
              have hs7 : wr.heap.size ≤ w7.heap.size := HC7.out.size
              have hrm : r ∈ l := List.mem_of_getElem? HRJ.out
              clear f0 f1 f2 f3 f4 f5 f6 c0 c1 c2
              cases hRn : R with
              | nil =>
                have HRN := Lib.hid hRn
                subst hRn
                go_wp2_with fail
                go_ret2
                exact allR_bad (allErr_none HCE.out HBM.out HRT.out (.inr ⟨r, hrm, HR.out⟩)) (by decide) HBW7.out
              | cons f0' fr =>
                have hR0 : 0 < R.length := by rw [hRn]; simp
                have HRne : Hid (R ≠ []) := by show _ ≠ _; rw [hRn]; simp
                rw [← hRn]
                clear hRn
                obtain ⟨rl, hrl⟩ : ∃ rl, R.length = rl := ⟨_, rfl⟩
                have hrz : ((rl : Int) == 0) = false := by simp; omega
                rw [hrl] at HO7 ⊢
                clear hrl hR0
                have hghl : gr.length ≤ 2048 := by have := ho.out.len; rw [List.length_map, List.length_take] at this; omega
                have HM1 : Hid (gr.length + 1 ≤ maxLen) := by show _ ≤ _; unfold maxLen; omega
                have HM2 : Hid ((gr.length + 1) * 24 ≤ 140737488355328) := by show _ ≤ _; omega
                have HG7 := Lib.hid (ho.out.below HC7.out)
                have HSN2 : Hid ((l.take (j + 1)).map (rowE n ⟨xr, xm, xf, xc⟩) = (l.take j).map (rowE n ⟨xr, xm, xf, xc⟩) ++ [R]) := by show _ = _; rw [take_at HRJ.out, List.map_append, List.map_cons, List.map_nil, HR.out]
                clear hghl
                go_wp2_with (at_builtin; go_loud (refine wpList_app eltPts rfl (.tmp 80) (.tmp 82) rfl (base := w6.heap.size) _ gr rfl (HG7.out.own.alloc _) _ 1 1 [⟨qa, rl, qc⟩] rfl (sl_new (c := Hdr.cod) w7 #[.slice qa rl qc] 110 [⟨qa, rl, qc⟩] 1 rfl (by unfold maxLen; omega) rfl) HM1.out HM2.out (by simp; omega) ?_); intro v8 w8 ho8 hg8; have HO8 := Lib.hid ho8; have HG8 := Lib.hid hg8; clear ho8 hg8)
                go_roundw
                case rel =>
                  refine ⟨j + 1, _, gr ++ [⟨qa, rl, qc⟩], rfl, by omega, by go_num, ?_, ?_, ?_⟩
                  · show OwnG _ _ _ _ _ _ _ _
                    rw [HSN2.out]
                    refine OwnG.push (by decide) (HG7.out.below ((Below.refl _ _).alloc (Nat.le_refl _) _)) ((HO7.out.lower (by simp; omega)).alloc _) HRne.out (fun y hy => ?_) HO8.out HG8.out
                    have b1 := ho.out.lt y hy
                    have b2 : wr.heap.size + 1 ≤ (Hdr.mk qa rl qc).blk := by simpa using (own_blk HO7.out HRne.out).2.2.1
                    omega
                  · intro s hs
                    rw [take_at HRJ.out, List.mem_append] at hs
                    rcases hs with hs | hs
                    · exact hne.out s hs
                    · rw [List.mem_singleton] at hs; subst hs; rw [HR.out]; exact HRne.out
                  · exact (HB7.out.alloc (by omega) _).trans (Ir.own_below (HG7.out.own.alloc _) HG8.out (by simp; omega))
                case measure => simp [intOf]; omega
            · have hjk : j = k := by omega
              have HT : Hid (l.take j = l) := by show _ = _; rw [hjk, List.take_of_length_le (by rw [HKL.out]; exact Nat.le_refl _)]
              obtain ⟨va, vc, hv, -⟩ := ho.out.sls
              rw [HT.out, List.length_map, ← HKL.out] at hv
              subst hv
              by_cases hk0 : k = 0
              · have hl0 : l = [] := List.eq_nil_of_length_eq_zero (by rw [← HKL.out]; exact hk0)
                have hkz : ((k : Int) == 0) = true := by simp [hk0]
                have HL0 := Lib.hid hl0
                clear hl0 hk0 hjk
                go_wp2_with fail
                go_ret2
                exact allR_bad (allErr_none HCE.out HBM.out HRT.out (.inl HL0.out)) (by decide) HBW.out
              · have hl0 : l ≠ [] := fun e => hk0 (by rw [HKL.out, e]; rfl)
                have hkz : ((k : Int) == 0) = false := by simp; omega
                have h00 := allErr_ok HCE.out HBM.out HRT.out hl0 (by have := hne.out; rwa [HT.out] at this)
                have H00 := Lib.hid h00
                clear hl0 hk0 hjk h00
                go_wp2_with fail
                go_ret2
                refine ⟨.slice va k vc, gr, by rw [H00.out]; rfl, ?_, HBW.out⟩
                rw [if_pos H00.out]
                have := ho.out
                rw [HT.out] at this
                exact ownG_lower this HB6.out.size
end Go.Proofs.YtlfbbahihenilaaGreat.Ne

namespace Go.Proofs.YtlfbbahihenilaaGreat.Ne
open Go.RowKit Go.V Go.Proofs

def awNet : Net := ⟨1, [⟨5, 0⟩, ⟨9, 0⟩], []⟩
def awW : Wgh := ⟨20, 2, 0, 0⟩
def awL : List Smp := [⟨0, 9, 0⟩]
theorem awRow : rowE awNet awW ⟨0, 9, 0⟩ = [⟨1, 0⟩, ⟨0, 16⟩] := by
  have hg : GoodL ⟨9, 0⟩ awNet.stops 400 [⟨1, 0⟩, ⟨0, 16⟩] := by
    refine ⟨by decide, fun f => ?_⟩
    constructor
    · intro hf
      rcases List.mem_cons.1 hf with rfl | hf
      · exact ⟨1, by decide, by decide, by decide⟩
      · rcases List.mem_cons.1 hf with rfl | hf
        · exact ⟨0, by decide, by decide, by decide⟩
        · cases hf
    · rintro ⟨k, hk, rfl, -⟩
      have hk : k < 2 := hk
      have : k = 0 ∨ k = 1 := by omega
      rcases this with rfl | rfl
      · exact List.mem_cons.2 (.inr (List.mem_cons.2 (.inl (by decide))))
      · exact List.mem_cons.2 (.inl (by decide))
  have hs : List.Pairwise ltF [(⟨1, 0⟩ : Fnd), ⟨0, 16⟩] := by
    refine List.pairwise_cons.2 ⟨fun b hb => ?_, List.pairwise_singleton _ _⟩
    rcases List.mem_cons.1 hb with rfl | hb
    · exact .inl (by decide)
    · cases hb
  unfold rowE ptsE
  have e := near_uniq hg hs
  show (nearF ⟨9, 0⟩ awNet.stops 400).take 2 = _
  rw [← e]
  rfl
theorem awErr : allErr awNet awW awL = 0 := by
  refine allErr_ok (by decide) (by decide) (by decide) (by decide) ?_
  intro s hs
  have : s = ⟨0, 9, 0⟩ := by
    rcases List.mem_cons.1 hs with e | e
    · exact e
    · cases e
  subst this
  rw [awRow]
  decide

end Go.Proofs.YtlfbbahihenilaaGreat.Ne

namespace Go.Proofs.YtlfbbahihenilaaGreat.Ne
open Go.RowKit Go.V Go.Shelf Go.Proofs

set_option maxHeartbeats 8000000 in
set_option maxRecDepth 100000 in
theorem cpoints_none (n : Net) (hs hl : Hdr) (x : Wgh) (s : Smp) (w : World) (h0 : hs.n = 0) (hx : mayW x = true) (hsm : smpB s = true) :
    Calls Tryz.prog 52 #[.pointer none, n.val hs hl, x.val, s.val] w fun e w' => e = .returned (.tuple #[.slice none 0 0, .int .i64 2]) ∧ Below w.heap.size w w' := by
  obtain ⟨xr, xm, xf, xc⟩ := x
  have HX0 : Hid ((((w.alloc (n.box hs hl)).alloc (Wgh.mk xr xm xf xc).box).alloc (.cells #[.int .i64 s.t, .int .i64 s.x, .int .i64 s.y] 73)).heap[w.heap.size]? = some (n.box hs hl)) := box_alloc (box_alloc (box_new w _))
  have HY0 : Hid ((((w.alloc (n.box hs hl)).alloc (Wgh.mk xr xm xf xc).box).alloc (.cells #[.int .i64 s.t, .int .i64 s.x, .int .i64 s.y] 73)).heap[w.heap.size + 1]? = some (Wgh.mk xr xm xf xc).box) := by
    have := box_new (w.alloc (n.box hs hl)) (Wgh.mk xr xm xf xc).box
    rw [World.size_alloc] at this
    exact box_alloc this
  have HZ0 : Hid ((((w.alloc (n.box hs hl)).alloc (Wgh.mk xr xm xf xc).box).alloc (.cells #[.int .i64 s.t, .int .i64 s.x, .int .i64 s.y] 73)).heap[w.heap.size + 2]? = some (.cells #[.int .i64 s.t, .int .i64 s.x, .int .i64 s.y] 73 (0, 0))) := by
    have := box_new ((w.alloc (n.box hs hl)).alloc (Wgh.mk xr xm xf xc).box) (.cells #[.int .i64 s.t, .int .i64 s.x, .int .i64 s.y] 73)
    rw [World.size_alloc, World.size_alloc] at this
    exact this
  have HB0 : Hid (Below w.heap.size w (((w.alloc (n.box hs hl)).alloc (Wgh.mk xr xm xf xc).box).alloc (.cells #[.int .i64 s.t, .int .i64 s.x, .int .i64 s.y] 73))) := (((Below.refl _ _).alloc (Nat.le_refl _) _).alloc (by simp) _).alloc (by simp; omega) _
  have hs0 : (((w.alloc (n.box hs hl)).alloc (Wgh.mk xr xm xf xc).box).alloc (.cells #[.int .i64 s.t, .int .i64 s.x, .int .i64 s.y] 73)).heap.size = w.heap.size + 3 := by simp
  have mixed : Tryz.prog.follows .mixedOrders = true := by kernel_rfl
  obtain ⟨bm, hbm⟩ : ∃ b, mayW ⟨xr, xm, xf, xc⟩ = b := ⟨_, rfl⟩
  obtain ⟨bs, hbs⟩ : ∃ b, smpB s = b := ⟨_, rfl⟩
  have HBM := Lib.hid hbm
  have HBS := Lib.hid hbs
  rw [hx] at hbm
  rw [hsm] at hbs
  have H0 := Lib.hid h0
  subst hbm
  subst hbs
  clear h0 hx hsm
  refine (callsIn_wide (n := 8)).1 ?_
  refine callsIn_of_wp_marks Tryz.func52 rfl trivial ?_ rfl
  simp only [Tryz.ntmps52, List.size_toArray, List.length_cons, List.length_nil, Nat.reduceAdd, Nat.reduceSub, Array.replicate_succ, Array.replicate_zero, List.push_toArray, List.append_toArray, List.nil_append, List.cons_append]
  rw [wpIn_wide]
  go_upto_region 1 with fail
  obtain ⟨W0, hW0⟩ : ∃ W0, ((w.alloc (n.box hs hl)).alloc (Wgh.mk xr xm xf xc).box).alloc (.cells #[.int .i64 s.t, .int .i64 s.x, .int .i64 s.y] 73) = W0 := ⟨_, rfl⟩
  rw [hW0] at HX0 HY0 HZ0 HB0 hs0 ⊢
  clear hW0
  have x1 : W0.cell? ⟨w.heap.size, 1, none⟩ = some (.slice hs.a hs.n hs.cap) := (box_cell HX0.out 1).1
  have y0 : W0.cell? ⟨w.heap.size + 1, 0, none⟩ = some (.int .i64 xr) := (box_cell HY0.out 0).1
  have y1 : W0.cell? ⟨w.heap.size + 1, 1, none⟩ = some (.int .i64 xm) := (box_cell HY0.out 1).1
  have y2 : W0.cell? ⟨w.heap.size + 1, 2, none⟩ = some (.int .i64 xf) := (box_cell HY0.out 2).1
  have y3 : W0.cell? ⟨w.heap.size + 1, 3, none⟩ = some (.int .i64 xc) := (box_cell HY0.out 3).1
  have z0 : W0.cell? ⟨w.heap.size + 1 + 1, 0, none⟩ = some (.int .i64 s.t) := (box_cell HZ0.out 0).1
  have z1 : W0.cell? ⟨w.heap.size + 1 + 1, 1, none⟩ = some (.int .i64 s.x) := (box_cell HZ0.out 1).1
  have z2 : W0.cell? ⟨w.heap.size + 1 + 1, 2, none⟩ = some (.int .i64 s.y) := (box_cell HZ0.out 2).1
  have X1 := cell_regrown x1
  have Y0 := cell_regrown y0
  have Y1 := cell_regrown y1
  have Y2 := cell_regrown y2
  have Y3 := cell_regrown y3
  have Z0 := cell_regrown z0
  have Z1 := cell_regrown z1
  have Z2 := cell_regrown z2
  have q1 : ∀ nd osq, Calls Tryz.prog 29 #[(Wgh.mk xr xm xf xc).val] (Go.Sort.grow (redrawn W0 nd) osq) fun e w' => e = .returned (.bool true) ∧ Below (Go.Sort.grow (redrawn W0 nd) osq).heap.size (Go.Sort.grow (redrawn W0 nd) osq) w' := fun nd osq => (cmay_any ⟨xr, xm, xf, xc⟩ _).mono fun e w' ⟨k1, k2⟩ => ⟨by rw [k1, HBM.out], k2⟩
  have q2 : ∀ nd osq, Calls Tryz.prog 50 #[s.val] (Go.Sort.grow (redrawn W0 nd) osq) fun e w' => e = .returned (.bool true) ∧ Below (Go.Sort.grow (redrawn W0 nd) osq).heap.size (Go.Sort.grow (redrawn W0 nd) osq) w' := fun nd osq => (smay_any s _).mono fun e w' ⟨k1, k2⟩ => ⟨by rw [k1, HBS.out], k2⟩
  have q3 : ∀ nd osq, Calls Tryz.prog 83 #[.pointer none] (Go.Sort.grow (redrawn W0 nd) osq) fun e w' => e = .returned (.int .i64 0) ∧ Below (Go.Sort.grow (redrawn W0 nd) osq).heap.size (Go.Sort.grow (redrawn W0 nd) osq) w' := fun nd osq => (grlenn_any _).mono fun e w' ⟨k1, k2⟩ => ⟨k1, k2 ▸ Below.refl _ _⟩
  clear x1 y0 y1 y2 y3 z0 z1 z2
  have hn00 : ((0 : Int) != (hs.n : Int)) = false := by simp [H0.out]
  refine wp_region_quiet_below (by assumption) (by kernel_rfl) ?_
  repeat (go_big_quiet_step (first
    | (go_at_call 29; exact Calls.regrown_of (q1 _ _))
    | (go_at_call 50; exact Calls.regrown_of (q2 _ _))
    | (go_at_call 83; exact Calls.regrown_of (q3 _ _))))
  refine wpQuiet_nil ?_
  intro w9 hw9
  obtain ⟨⟨nd, osq⟩, rfl⟩ := hw9
  have hb9 := below_regrown W0 nd osq
  have HB9 : Hid (Below w.heap.size w (Go.Sort.grow (redrawn W0 nd) osq)) := HB0.out.trans (hb9.mono HB0.out.size)
  have HY9 := Lib.hid (box_below HY0.out hb9)
  have HZ9 := Lib.hid (box_below HZ0.out hb9)
  clear X1 Y0 Y1 Y2 Y3 Z0 Z1 Z2 q1 q2 q3
  generalize Go.Sort.grow (redrawn W0 nd) osq = w9 at HB9 HY9 HZ9 ⊢
  clear hb9
  have y0 : w9.cell? ⟨w.heap.size + 1, 0, none⟩ = some (.int .i64 xr) := (box_cell HY9.out 0).1
  have y1 : w9.cell? ⟨w.heap.size + 1, 1, none⟩ = some (.int .i64 xm) := (box_cell HY9.out 1).1
  have z1 : w9.cell? ⟨w.heap.size + 1 + 1, 1, none⟩ = some (.int .i64 s.x) := (box_cell HZ9.out 1).1
  have z2 : w9.cell? ⟨w.heap.size + 1 + 1, 2, none⟩ = some (.int .i64 s.y) := (box_cell HZ9.out 2).1
  go_wp2_with (go_at_call 84; go_fit (grnear_nil s.x s.y xr xm _); rintro e w10 ⟨rfl, hb10⟩; have HB10 := Lib.hid (HB9.out.trans (hb10.mono HB9.out.size)); clear hb10)
  refine ⟨_, results_tmp2 rfl _ _ _, ?_⟩
  exact ⟨rfl, HB10.out⟩
end Go.Proofs.YtlfbbahihenilaaGreat.Ne

namespace Go.Proofs.YtlfbbahihenilaaGreat.Ne
open Go.RowKit Go.V Go.Proofs

/-- Points of any grid of these stops: as the document says, or none. -/
def cptE (n : Net) (x : Wgh) (s : Smp) : List Fnd := if mayW x = true ∧ smpB s = true then rowE n x s else []
def ptErr (x : Wgh) (s : Smp) : Int := if mayW x = true ∧ smpB s = true then 0 else 2
theorem cpoints_any (g : Nat) (gh : Hdr) (z : Int) (b : Nat) (n : Net) (hs hl : Hdr) (x : Wgh) (s : Smp) (w : World)
    (hn : n.stops.length ≤ 200) (hz : 1 ≤ z ∧ z ≤ 67108864) (hSB : ∀ s ∈ n.stops, stpB s = true)
    (hnet : NetIn w n hs hl) (hg : GBox w g gh z b) (hgs : Sl Stp.cod w gh.a gh.n gh.cap n.stops) (hgm : GMap w b (idxs n.stops z)) :
    Calls Tryz.prog 52 #[gP g, n.val hs hl, x.val, s.val] w fun e w' => ∃ va vc, e = .returned (.tuple #[.slice va (cptE n x s).length vc, .int .i64 (ptErr x s)]) ∧ Sl Fnd.cod w' va (cptE n x s).length vc (cptE n x s) ∧ Below w.heap.size w w' := by
  by_cases hok : mayW x = true ∧ smpB s = true
  · have hr := mayW_reach hok.1
    refine (cpoints_ok g gh z b n hs hl x s w hn hz hSB hok.1 hok.2 ⟨hr.1, hr.2.1, hr.2.2.1⟩ hnet hg hgs hgm).mono ?_
    rintro e w' ⟨v, rfl, ho, hb⟩
    have e1 : cptE n x s = rowE n x s := if_pos hok
    have e2 : ptErr x s = 0 := if_pos hok
    obtain ⟨a, c, rfl, hsl, -⟩ := ho.slice
    rw [e1, e2]
    exact ⟨a, c, rfl, hsl, hb⟩
  · have e1 : cptE n x s = [] := if_neg hok
    have e2 : ptErr x s = 2 := if_neg hok
    have hbad : mayW x = false ∨ smpB s = false ∨ (gh.n : Int) ≠ hs.n := by
      cases hm : mayW x with
      | false => exact .inl rfl
      | true =>
        refine .inr (.inl ?_)
        cases hs' : smpB s with
        | false => rfl
        | true => exact absurd ⟨hm, hs'⟩ hok
    refine (cpoints_bad (gP g) gh.n n hs hl x s w (fun W hW => (grlen_any g gh z b W (hg.below hW)).mono fun e w' ⟨k1, k2⟩ => ⟨k1, k2 ▸ Below.refl _ _⟩) hbad).mono ?_
    rintro e w' ⟨rfl, hb⟩
    rw [e1, e2]
    exact ⟨none, 0, rfl, ⟨rfl, Nat.le_refl _, Nat.zero_le _, fun _ => ⟨rfl, rfl⟩, fun d hd => nomatch hd⟩, hb⟩
theorem cpoints_nil (n : Net) (hs hl : Hdr) (x : Wgh) (s : Smp) (w : World) :
    Calls Tryz.prog 52 #[.pointer none, n.val hs hl, x.val, s.val] w fun e w' => e = .returned (.tuple #[.slice none 0 0, .int .i64 2]) ∧ Below w.heap.size w w' := by
  by_cases hok : mayW x = true ∧ smpB s = true ∧ hs.n = 0
  · exact cpoints_none n hs hl x s w hok.2.2 hok.1 hok.2.1
  · refine cpoints_bad (.pointer none) 0 n hs hl x s w (fun W hW => (grlenn_any W).mono fun e w' ⟨k1, k2⟩ => ⟨k1, k2 ▸ Below.refl _ _⟩) ?_
    cases hm : mayW x with
    | false => exact .inl rfl
    | true =>
      cases hs' : smpB s with
      | false => exact .inr (.inl rfl)
      | true => exact .inr (.inr fun e => hok ⟨hm, hs', by omega⟩)
theorem cpoints_other (g : Nat) (gh : Hdr) (z : Int) (b : Nat) (n : Net) (hs hl : Hdr) (x : Wgh) (s : Smp) (w : World) (hg : GBox w g gh z b) (hne : gh.n ≠ hs.n) :
    Calls Tryz.prog 52 #[gP g, n.val hs hl, x.val, s.val] w fun e w' => e = .returned (.tuple #[.slice none 0 0, .int .i64 2]) ∧ Below w.heap.size w w' :=
  cpoints_bad (gP g) gh.n n hs hl x s w (fun W hW => (grlen_any g gh z b W (hg.below hW)).mono fun e w' ⟨k1, k2⟩ => ⟨k1, k2 ▸ Below.refl _ _⟩) (.inr (.inr (by omega)))
end Go.Proofs.YtlfbbahihenilaaGreat.Ne
