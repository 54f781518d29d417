/- Networks: what comes first is taken out of the heap, walked. -/
/- Rows of rows at any place: each row is the call's own, or nil. -/
/- Rows of numbers of one's own, put anew. -/
/- Networks: what the nearest-first walk has in memory while it goes. -/
/- Networks: links and stops as elements of rows. -/
import Derived.Test.YtlfbbahihenilaaGreatMg15
import Derived.Test.YtlfbbahihenilaaGreatMg05
import Derived.Test.YtlfbbahihenilaaGreatMg00
import Derived.Test.YtlfbbahihenilaaGreatMg02
namespace Go.Proofs.YtlfbbahihenilaaGreat.Ne
open Go.RowKit Go.V Go.Proofs Go.Sort

set_option maxHeartbeats 8000000 in
set_option maxRecDepth 100000 in
theorem hpop_any (w : World) (base g b n k : Nat) (l : List Rch) (h : HeapIn w base g (.slice (some ⟨b, 0, none⟩) n k) l) (hok : HeapOk Rch.far l) (hn : n = l.length) (h1 : 1 ≤ n) (hm : n ≤ 1000000000) :
    Calls Tryz.prog 137 #[.pointer (some ⟨g, 0, none⟩)] w fun e w' => e = .returned (.tuple #[rval (at' l 0), .bool true]) ∧ ∃ l', HeapIn w' base g (.slice (some ⟨b, 0, none⟩) (n - 1) k) l' ∧ HeapOk Rch.far l' ∧ (at' l 0 :: l').Perm l ∧ Chg w w' g (some b) := by
  have mixed : Tryz.prog.follows .mixedOrders = true := by kernel_rfl
  have HN := Lib.hid hn
  have HOK := Lib.hid hok
  have hcap : n ≤ k := by
    obtain ⟨-, h2⟩ := h.own
    rcases h2 with ⟨e, -⟩ | ⟨b', cap', cur, e, -, -, q, -⟩
    · cases e
    · simp only [Value.slice.injEq] at e
      rw [← hn] at q; omega
  have hkm : k ≤ maxLen := by
    obtain ⟨-, h2⟩ := h.own
    rcases h2 with ⟨e, -⟩ | ⟨b', cap', cur, e, -, -, -, q, -⟩
    · cases e
    · simp only [Value.slice.injEq] at e
      rw [e.2.2]; exact q
  unfold maxLen at hkm
  have hgw := box_lt h.box
  have hbw : b < w.heap.size := (World.ownsRow.lt h.own b rfl).2
  have ngb : g ≠ b := fun e => h.apart (by rw [e]; rfl)
  have HA : Hid (HeapIn (w.alloc (.cells #[.int .i64 0, .int .i64 0] 209)) base g (.slice (some ⟨b, 0, none⟩) n k) l) := h.below ((Below.refl _ _).alloc (Nat.le_refl _) _)
  have HX := Lib.hid (box_new w (.cells #[.int .i64 0, .int .i64 0] 209))
  have HB0 : Hid (Below w.heap.size w (w.alloc (.cells #[.int .i64 0, .int .i64 0] 209))) := (Below.refl _ _).alloc (Nat.le_refl _) _
  obtain ⟨Y, hY⟩ : ∃ Y, at' l 0 = Y := ⟨_, rfl⟩
  have HY := Lib.hid hY
  rw [hY]
  clear hn hY
  have r0 : IntKind.i64.wrap ((n : Int) - 1) = ((n - 1 : Nat) : Int) := by rw [IntKind.wrap_i64]; omega
  go_enter Tryz.func137, Tryz.ntmps137
  go_upto_region 5 with (go_at_call 145; refine (htop_any _ base g b n k l HA.out HN.out h1 hm).mono ?_; rintro e w1 ⟨rfl, hb1⟩; rw [HY.out]; have HA1 := Lib.hid (HA.out.below hb1); have HX1 := Lib.hid (box_below HX.out hb1); have HB1 := Lib.hid (HB0.out.trans (hb1.mono HB0.out.size)); have HAB := Lib.hid (HA1.out.below ((Below.refl _ _).alloc (Nat.le_refl _) (.cells #[.int .i64 Y.stop, .int .i64 Y.far] 209))); obtain ⟨c0, c1, -, -⟩ := box2_cells HAB.out.box; have hgx := box_lt HAB.out.box; clear hb1)
  have HXB := Lib.hid (box_below HX1.out ((Below.refl _ _).alloc (Nat.le_refl _) (.cells #[.int .i64 Y.stop, .int .i64 Y.far] 209)))
  have HYB := Lib.hid (box_new w1 (.cells #[.int .i64 Y.stop, .int .i64 Y.far] 209))
  have HBW : Hid (Below w.heap.size w (w1.alloc (.cells #[.int .i64 Y.stop, .int .i64 Y.far] 209))) := HB1.out.trans (((Below.refl _ _).alloc (Nat.le_refl _) _).mono HB1.out.size)
  obtain ⟨y, hy⟩ : ∃ y, w1.heap.size = y := ⟨_, rfl⟩
  obtain ⟨x, hx⟩ : ∃ x, w.heap.size = x := ⟨_, rfl⟩
  have HWX := Lib.hid hx
  have hxy : x < y := by rw [← hx, ← hy]; exact box_lt HX1.out
  obtain ⟨W, hW⟩ : ∃ W, w1.alloc (.cells #[.int .i64 Y.stop, .int .i64 Y.far] 209) = W := ⟨_, rfl⟩
  rw [hW] at HAB HXB HYB HBW c0 c1 hgx ⊢
  rw [hy] at HYB ⊢
  rw [hx] at HXB HBW hgw hbw ⊢
  clear HA HX HB0 HA1 HX1 HB1 hW hx hy
  obtain ⟨m, hm'⟩ : ∃ m, n - 1 = m := ⟨_, rfl⟩
  rw [hm'] at r0 ⊢
  have hmn : n = m + 1 := by omega
  subst hmn
  obtain ⟨X, hX⟩ : ∃ X, at' l m = X := ⟨_, rfl⟩
  have HXM := Lib.hid hX
  obtain ⟨x0, x1, x2, x3⟩ := rcells HAB.out.own HN.out (i := m) (by omega)
  obtain ⟨y0, y1, y2, y3⟩ := rcells HAB.out.own HN.out (i := 0) (by omega)
  rw [hX] at x0 x1
  rw [Nat.zero_mul] at y0 y1 y2 y3
  clear hX hm'
  go_cut [] (fun wx => wx = ((W.setCell ⟨b, 0, none⟩ (.int .i64 X.stop)).setCell ⟨b, 0 + 1, none⟩ (.int .i64 X.far)).drew)
  case first =>
    --<<
    go_region
    all_goals
      go_wp2_with fail
      go_meet
      rfl
    -->>
  subst hcut
  obtain ⟨o1, g1⟩ := rset HAB.out.own HN.out 0 X
  rw [Nat.zero_mul] at o1 g1
  have HLC : Hid ((l.set 0 X).length = m + 1) := by show _ = _; rw [List.length_set]; exact HN.out.symm
  have o2 := o1.cut (m := m) HLC.out.symm (by omega)
  have hpop : (l.set 0 X).take m = popped l := by unfold popped; rw [← HN.out, Nat.add_sub_cancel, HXM.out]
  rw [hpop] at o2
  obtain ⟨W4, hW4⟩ : ∃ W4, (W.setCell ⟨b, 0, none⟩ (.int .i64 X.stop)).setCell ⟨b, 0 + 1, none⟩ (.int .i64 X.far) = W4 := ⟨_, rfl⟩
  rw [hW4] at o2 g1 ⊢
  have HO2 : Hid (V.Own 209 rcod base W4.drew (.slice (some ⟨b, 0, none⟩) m k) (popped l)) := o2.below (Below.drew (Below.refl _ _))
  have HBX : Hid (W4.drew.heap[g]? = some (.cells #[lessV, .slice (some ⟨b, 0, none⟩) (m + 1) k] 224 (0, 0))) := (g1.block g (box_lt HAB.out.box) (fun e => ngb (Option.some.inj e))).trans HAB.out.box
  have HC4 : Hid (Chg W W4.drew g (some b)) := (Chg.of_grown g1 g (some b) (fun k hk => .inr hk.symm)).trans (Chg.of_below (Below.drew (Below.refl _ _)) g (some b)) (.inl rfl)
  have hg4 := box_lt HBX.out
  have HGE := Lib.hid HAB.out.ge
  obtain ⟨wd, hwd⟩ : ∃ wd, W4.drew = wd := ⟨_, rfl⟩
  rw [hwd] at HO2 HBX HC4 hg4 ⊢
  clear hwd hW4 o1 g1 o2 hpop x0 x1 x2 x3 y0 y1 y2 y3 c0 c1 HLC
  obtain ⟨c0, c1, -, c3⟩ := box2_cells HBX.out
  have q1 : (0 : Int) ≤ (m : Int) := by omega
  have q2 : (m : Int) ≤ (k : Int) := by omega
  go_upto_region 7 with fail
  obtain ⟨we, hwe⟩ : ∃ we, wd.setCell ⟨g, 1, none⟩ (.slice (some ⟨b, 0, none⟩) m k) = we := ⟨_, rfl⟩
  rw [hwe]
  have hgs : wd.grownBy we (some g) := by rw [← hwe]; exact set_grown wd g 1 _
  have HIE : Hid (HeapIn we base g (.slice (some ⟨b, 0, none⟩) m k) (popped l)) := ⟨by rw [← hwe, heap_setCell_same wd g 1 _ _ _ HBX.out]; rfl, HO2.out.kept hgs (.inr (fun e => ngb (Option.some.inj e).symm)), HGE.out⟩
  have HCE : Hid (Chg W we g (some b)) := HC4.out.trans (Chg.of_grown hgs g (some b) (fun k hk => .inl (Option.some.inj hk).symm)) (.inl rfl)
  have HDE : Hid (DownOk Rch.far (popped l) 0) := down_start HOK.out
  have HPL : Hid (m = (popped l).length) := by show _ = _; rw [popped_len, ← HN.out, Nat.add_sub_cancel]
  have HPP : Hid ((Y :: popped l).Perm l) := by
    have := popped_perm (l := l) (fun e => by have := HN.out; rw [e] at this; simp at this)
    rwa [HY.out] at this
  have HFIN : Hid (∀ W' l2, HeapIn W' base g (.slice (some ⟨b, 0, none⟩) m k) l2 → Chg W W' g (some b) → HeapOk Rch.far l2 → l2.Perm (popped l) → ∃ l', HeapIn ((W'.setCell ⟨x, 0, none⟩ (.int .i64 Y.stop)).setCell ⟨x, 1, none⟩ (.int .i64 Y.far)) base g (.slice (some ⟨b, 0, none⟩) m k) l' ∧ HeapOk Rch.far l' ∧ (Y :: l').Perm l ∧ Chg w ((W'.setCell ⟨x, 0, none⟩ (.int .i64 Y.stop)).setCell ⟨x, 1, none⟩ (.int .i64 Y.far)) g (some b)) := by
    intro W' l2 hi hc hk2 hp
    have hxb : W'.heap[x]? = some (.cells #[.int .i64 0, .int .i64 0] 209 (0, 0)) := hc.box HXB.out (by omega) (fun e => by have := Option.some.inj e; omega)
    have k1 := set_grown W' x 0 (.int .i64 Y.stop)
    have k2 := set_grown (W'.setCell ⟨x, 0, none⟩ (.int .i64 Y.stop)) x 1 (.int .i64 Y.far)
    have k3 := k1.trans k2
    have hgx' : g ≠ x := by omega
    have hbx' : b ≠ x := by omega
    refine ⟨l2, ⟨(k3.block g (box_lt hi.box) (fun e => hgx' (Option.some.inj e))).trans hi.box, hi.own.kept k3 (.inr (fun e => hbx' (Option.some.inj e))), hi.ge⟩, hk2, (hp.cons Y).trans HPP.out, ?_⟩
    have hWx := HBW.out.size
    refine ⟨k3.os.trans (hc.os.trans HBW.out.os), k3.tape.trans (hc.tape.trans HBW.out.tape), k3.output.trans (hc.output.trans HBW.out.output), Nat.le_trans hWx (Nat.le_trans hc.size k3.size), fun i hi2 h1 h2 => ?_⟩
    rw [HWX.out] at hi2
    have q1 := HBW.out.block i hi2
    have q2 := hc.block i (by have := HBW.out.size; have := HWX.out; omega) h1 h2
    have q3 := k3.block i (by have := HBW.out.size; have := hc.size; have := HWX.out; omega) (fun e => by have := Option.some.inj e; omega)
    rw [q3, q2, q1]
  clear c0 c1 c3 q1 q2 hwe hgs
  have hm1 : m ≤ 1000000000 := by omega
  clear hm h1 hgx hkm hcap hg4
  go_wp2_with fail
  go_loopw [7] (fun i wr => ∃ (j : Nat) (l2 : List Rch), i = .int .i64 j ∧ j ≤ m ∧ Hid (HeapIn wr base g (.slice (some ⟨b, 0, none⟩) m k) l2) ∧ Hid (DownOk Rch.far l2 j) ∧ Hid (l2.Perm (popped l)) ∧ Hid (Chg W wr g (some b))) (fun i _ => m - (intOf i).toNat)
  case atStart => exact ⟨0, popped l, by go_num, by omega, HIE.out, HDE.out, List.Perm.refl _, HCE.out⟩
  case round =>
    obtain ⟨j, l2, rfl, hj, HI2, HD2, HP2, HC2⟩ := hrel
    have HLL : Hid (m = l2.length) := by show _ = _; rw [HP2.out.length_eq]; exact HPL.out
    obtain ⟨q, hq⟩ : ∃ q, q = 2 * j + 1 := ⟨_, rfl⟩
    have r1 : IntKind.i64.wrap (2 * (j : Int)) = 2 * (j : Int) := by rw [IntKind.wrap_i64]; omega
    have r2 : IntKind.i64.wrap (2 * (j : Int) + 1) = (q : Int) := by rw [IntKind.wrap_i64]; omega
    by_cases hlt : q < m
    case neg =>
      --<<
      have r3 : decide ((q : Int) < (m : Int)) = false := by simp; omega
      have HX5 : Hid (wr.heap[x]? = some (.cells #[.int .i64 0, .int .i64 0] 209 (0, 0))) := HC2.out.box HXB.out (by omega) (fun e => by have := Option.some.inj e; omega)
      have HY5 : Hid (wr.heap[y]? = some (.cells #[.int .i64 Y.stop, .int .i64 Y.far] 209 (0, 0))) := HC2.out.box HYB.out (by omega) (fun e => by have := Option.some.inj e; omega)
      obtain ⟨c0, c1, f0, f1⟩ := box2_cells HX5.out
      obtain ⟨d0, d1, -, -⟩ := box2_cells HY5.out
      have hx5 := box_lt HX5.out
      have HFI : Hid (∃ l', HeapIn ((wr.setCell ⟨x, 0, none⟩ (.int .i64 Y.stop)).setCell ⟨x, 1, none⟩ (.int .i64 Y.far)) base g (.slice (some ⟨b, 0, none⟩) m k) l' ∧ HeapOk Rch.far l' ∧ (Y :: l').Perm l ∧ Chg w ((wr.setCell ⟨x, 0, none⟩ (.int .i64 Y.stop)).setCell ⟨x, 1, none⟩ (.int .i64 Y.far)) g (some b)) := HFIN.out wr l2 HI2.out HC2.out (down_leaf HD2.out (by rw [← HLL.out]; omega)) HP2.out
      go_wp2_with fail
      exact bodyPost_ret (results_row_tmp rfl _ _ x _ _ _ _ rfl (box2_set HX5.out _ _) Tryz.underlying209 rfl (by kernel_rfl)) rfl ⟨rfl, HFI.out⟩
      -->>
    case pos =>
      have HQI : Hid (2 * (j : Int) + 1 = (q : Int)) := by show _ = _; omega
      have HDT : Hid (q = 2 * j + 1) := hq
      have hjm : j < m := by omega
      go_upto_region 10 with fail
      rw [HQI.out]
      clear r1 r2 hq
      obtain ⟨d0, d1, e0, e1⟩ := box2_cells HI2.out.box
      obtain ⟨y0, y1, -, -⟩ := rcells HI2.out.own HLL.out hlt
      have D0 := cell_regrown d0
      have D1 := cell_regrown d1
      have Y0 := cell_regrown y0
      have Y1 := cell_regrown y1
      have hg1 := box_lt HI2.out.box
      clear d0 d1 e0 e1 y0 y1
      go_cut [77] (fun v wx => v = .bool (decide (q + 1 < m ∧ (at' l2 (q + 1)).far < (at' l2 q).far)) ∧ Hid (Below wr.heap.size wr wx))
      case first =>
        --<<
        by_cases hq1 : q + 1 < m
        · obtain ⟨x0, x1, -, -⟩ := rcells HI2.out.own HLL.out hq1
          have X0 := cell_regrown x0
          have X1 := cell_regrown x1
          clear x0 x1
          have s1 : (q : Int) + 1 < (m : Int) := by omega
          have s2 : (0 : Int) ≤ (q : Int) + 1 := by omega
          have s3 : (q : Int) < (m : Int) := by omega
          obtain ⟨bb, hbb⟩ : ∃ bb, decide ((at' l2 (q + 1)).far < (at' l2 q).far) = bb := ⟨_, rfl⟩
          have HBB := Lib.hid hbb
          clear hbb
          refine wp_region_quiet_below (by assumption) (by kernel_rfl) ?_
          repeat (go_big_quiet_step ((go_at_call 134; exact Calls.regrown_of (less_b (at' l2 (q + 1)) (at' l2 q) _ bb HBB.out))))
          refine wpQuiet_nil ?_
          intro w2 hw2
          obtain ⟨⟨nd, osq⟩, rfl⟩ := hw2
          have hbq := below_regrown wr nd osq
          generalize grow (redrawn wr nd) osq = w2 at hbq ⊢
          have HBQ := Lib.hid hbq
          clear hbq
          go_wp2_with fail
          go_meet
          exact ⟨by rw [← HBB.out]; simp [hq1], HBQ.out⟩
        · have s1 : decide ((q : Int) + 1 < (m : Int)) = false := by simp; omega
          refine wp_region_quiet_below (by assumption) (by kernel_rfl) ?_
          repeat (go_big_quiet_step ((go_at_call 134; exact Calls.regrown_of (less_b (at' l2 (q + 1)) (at' l2 q) _ false rfl))))
          refine wpQuiet_nil ?_
          intro w2 hw2
          obtain ⟨⟨nd, osq⟩, rfl⟩ := hw2
          have hbq := below_regrown wr nd osq
          generalize grow (redrawn wr nd) osq = w2 at hbq ⊢
          have HBQ := Lib.hid hbq
          clear hbq
          go_wp2_with fail
          go_meet
          exact ⟨by simp [hq1], HBQ.out⟩
        -->>
      obtain ⟨rfl, HBQ⟩ := hcut
      obtain ⟨cc, hcc⟩ : ∃ cc, decide (q + 1 < m ∧ (at' l2 (q + 1)).far < (at' l2 q).far) = cc := ⟨_, rfl⟩
      have HCC := Lib.hid hcc
      rw [hcc]
      clear hcc
      obtain ⟨ws, hws⟩ : ∃ ws : World, ws = wc := ⟨_, rfl⟩
      subst hws
      obtain ⟨z, hz⟩ : ∃ z, z = if cc then q + 1 else q := ⟨_, rfl⟩
      have HZ := Lib.hid hz
      clear hz
      have HZL : Hid (z = least2 Rch.far l2 j) := by
        show _ = _
        unfold least2
        rw [HZ.out, ← HCC.out, ← HLL.out, show 2 * j + 2 = q + 1 by have := HDT.out; omega, show 2 * j + 1 = q by have := HDT.out; omega]
        simp
      go_upto_if 77 with fail
      go_cut [8] (fun v wx => v = .int .i64 (z : Int) ∧ ws = wx)
      case first =>
        --<<
        cases cc with
        | false =>
          go_wp2_with fail
          go_meet
          exact ⟨by rw [HZ.out]; rfl, rfl⟩
        | true =>
          go_wp2_with fail
          go_meet
          exact ⟨by rw [HZ.out]; rfl, rfl⟩
        -->>
      obtain ⟨rfl, rfl⟩ := hcut
      have hzm : z < m := by
        have h1 := HZ.out
        have h2 := HCC.out
        cases cc with
        | false => simp at h1; omega
        | true => simp at h1 h2; omega
      go_upto_region 12 with fail
      have HI3 := Lib.hid (HI2.out.below HBQ.out)
      have HC3 : Hid (Chg W ws g (some b)) := HC2.out.trans (Chg.of_below HBQ.out g (some b)) (.inl rfl)
      clear D0 D1 Y0 Y1 HBQ HI2 hg1
      obtain ⟨d0, d1, e0, e1⟩ := box2_cells HI3.out.box
      obtain ⟨x0, x1, x2, x3⟩ := rcells HI3.out.own HLL.out hzm
      obtain ⟨y0, y1, y2, y3⟩ := rcells HI3.out.own HLL.out hjm
      obtain ⟨Z, hZ⟩ : ∃ Z, at' l2 z = Z := ⟨_, rfl⟩
      obtain ⟨J, hJ⟩ : ∃ J, at' l2 j = J := ⟨_, rfl⟩
      rw [hZ] at x0 x1
      rw [hJ] at y0 y1
      have HZJ : Hid (at' l2 z = Z ∧ at' l2 j = J) := ⟨hZ, hJ⟩
      clear hZ hJ
      have D0 := cell_regrown d0
      have D1 := cell_regrown d1
      have X0 := cell_regrown x0
      have X1 := cell_regrown x1
      have Y0 := cell_regrown y0
      have Y1 := cell_regrown y1
      obtain ⟨bb, hbb⟩ : ∃ bb, decide (Z.far < J.far) = bb := ⟨_, rfl⟩
      have HBB := Lib.hid hbb
      have hg1 := box_lt HI3.out.box
      have s1 : (z : Int) < (m : Int) := by omega
      have s2 : (j : Int) < (m : Int) := by omega
      clear hbb d0 d1 x0 x1 x2 x3 y0 y1 y2 y3 e0 e1
      refine wp_region_quiet_below (by assumption) (by kernel_rfl) ?_
      repeat (go_big_quiet_step ((go_at_call 134; exact Calls.regrown_of (less_b Z J _ bb HBB.out))))
      refine wpQuiet_nil ?_
      intro w2 hw2
      obtain ⟨⟨nd, osq⟩, rfl⟩ := hw2
      have hbq := below_regrown ws nd osq
      generalize grow (redrawn ws nd) osq = w2 at hbq ⊢
      have HI4 := Lib.hid (HI3.out.below hbq)
      have HC4' : Hid (Chg W w2 g (some b)) := HC3.out.trans (Chg.of_below hbq g (some b)) (.inl rfl)
      clear hbq D0 D1 X0 X1 Y0 Y1 HI3 HC3
      have hzl : z < l2.length := by rw [← HLL.out]; exact hzm
      have hjl : j < l2.length := by rw [← HLL.out]; exact hjm
      cases bb with
      | false =>
        --<<
        have HX5 : Hid (w2.heap[x]? = some (.cells #[.int .i64 0, .int .i64 0] 209 (0, 0))) := HC4'.out.box HXB.out (by omega) (fun e => by have := Option.some.inj e; omega)
        have HY5 : Hid (w2.heap[y]? = some (.cells #[.int .i64 Y.stop, .int .i64 Y.far] 209 (0, 0))) := HC4'.out.box HYB.out (by omega) (fun e => by have := Option.some.inj e; omega)
        obtain ⟨c0, c1, f0, f1⟩ := box2_cells HX5.out
        obtain ⟨d0, d1, -, -⟩ := box2_cells HY5.out
        have hx5 := box_lt HX5.out
        have hd : ¬ (at' l2 (least2 Rch.far l2 j)).far < (at' l2 j).far := by rw [← HZL.out, HZJ.out.1, HZJ.out.2]; exact of_decide_eq_false HBB.out
        have HFI : Hid (∃ l', HeapIn ((w2.setCell ⟨x, 0, none⟩ (.int .i64 Y.stop)).setCell ⟨x, 1, none⟩ (.int .i64 Y.far)) base g (.slice (some ⟨b, 0, none⟩) m k) l' ∧ HeapOk Rch.far l' ∧ (Y :: l').Perm l ∧ Chg w ((w2.setCell ⟨x, 0, none⟩ (.int .i64 Y.stop)).setCell ⟨x, 1, none⟩ (.int .i64 Y.far)) g (some b)) := HFIN.out w2 l2 HI4.out HC4'.out (down_done HD2.out hd) HP2.out
        clear hd
        go_wp2_with fail
        exact bodyPost_ret (results_row_tmp rfl _ _ x _ _ _ _ rfl (box2_set HX5.out _ _) Tryz.underlying209 rfl (by kernel_rfl)) rfl ⟨rfl, HFI.out⟩
        -->>
      | true =>
        obtain ⟨d0, d1, e0, e1⟩ := box2_cells HI4.out.box
        obtain ⟨x0, x1, x2, x3⟩ := rcells HI4.out.own HLL.out hzm
        obtain ⟨y0, y1, y2, y3⟩ := rcells HI4.out.own HLL.out hjm
        rw [HZJ.out.1] at x0 x1
        rw [HZJ.out.2] at y0 y1
        have hst := down_step (key := Rch.far) HD2.out (by rw [← HLL.out]; have := HDT.out; omega) (by
          rw [← HZL.out, HZJ.out.1, HZJ.out.2]; exact of_decide_eq_true HBB.out)
        rw [← HZL.out] at hst
        have HST := Lib.hid hst
        have hjz : j < z := hst.2.2
        clear hst
        have hjp : z * 2 ≠ j * 2 ∧ z * 2 + 1 ≠ j * 2 ∧ z * 2 ≠ j * 2 + 1 ∧ z * 2 + 1 ≠ j * 2 + 1 := by omega
        obtain ⟨n1, n2, n3, n4⟩ := hjp
        have hp2 : j * 2 ≠ z * 2 ∧ j * 2 + 1 ≠ z * 2 ∧ j * 2 ≠ z * 2 + 1 ∧ j * 2 + 1 ≠ z * 2 + 1 := by omega
        obtain ⟨n5, n6, n7, n8⟩ := hp2
        go_upto_region 13 with fail
        go_cut [] (fun wx => wx = ((((w2.setCell ⟨b, j * 2, none⟩ (.int .i64 Z.stop)).setCell ⟨b, j * 2 + 1, none⟩ (.int .i64 Z.far)).setCell ⟨b, z * 2, none⟩ (.int .i64 J.stop)).setCell ⟨b, z * 2 + 1, none⟩ (.int .i64 J.far)).drew)
        case first =>
          go_region
          all_goals
            go_wp2_with fail
            go_meet
            rfl
        --<<
        subst hcut
        obtain ⟨o1, g1⟩ := rset HI4.out.own HLL.out j Z
        obtain ⟨o2, g2⟩ := rset o1 (by rw [List.length_set]; exact HLL.out) z J
        have hsw : (l2.set j Z).set z J = V.swp l2 j z := by unfold V.swp; rw [HZJ.out.1, HZJ.out.2]
        rw [hsw] at o2
        have hgg := g1.trans g2
        generalize hW4 : (((w2.setCell ⟨b, j * 2, none⟩ (.int .i64 Z.stop)).setCell ⟨b, j * 2 + 1, none⟩ (.int .i64 Z.far)).setCell ⟨b, z * 2, none⟩ (.int .i64 J.stop)).setCell ⟨b, z * 2 + 1, none⟩ (.int .i64 J.far) = w4 at o2 hgg ⊢
        have HI5 : Hid (HeapIn w4.drew base g (.slice (some ⟨b, 0, none⟩) m k) (V.swp l2 j z)) := HeapIn.below ⟨(hgg.block g (box_lt HI4.out.box) (fun e => ngb (Option.some.inj e))).trans HI4.out.box, o2, HI4.out.ge⟩ (Below.drew (Below.refl _ _))
        have HC5 : Hid (Chg W w4.drew g (some b)) := (HC4'.out.trans (Chg.of_grown hgg g (some b) (fun k hk => .inr hk.symm)) (.inl rfl)).trans (Chg.of_below (Below.drew (Below.refl _ _)) g (some b)) (.inl rfl)
        have HP5 : Hid ((V.swp l2 j z).Perm (popped l)) := (swp_perm hjl hzl).trans HP2.out
        clear o1 g1 o2 hsw hgg hW4 d0 d1 e0 e1 x0 x1 x2 x3 y0 y1 y2 y3 s1 s2
        go_wp2_with fail
        go_roundw
        case rel => exact ⟨z, _, rfl, by omega, HI5.out, HST.out.1, HP5.out, HC5.out⟩
        case measure => simp [intOf]; omega
        -->>
end Go.Proofs.YtlfbbahihenilaaGreat.Ne

namespace Go.V
open Go.RowKit

structure Tbl {α : Type} (e : TypeId) (c : Cod α) (t : TypeId) (base : Nat) (w : World) (b : Nat) (vs : List Value) (f : Nat → List α) : Prop where
  box : w.heap[b]? = some (.cells vs.toArray t (0, 0))
  own : ∀ i v, vs[i]? = some v → Own e c base w v (f i)
  apart : ∀ (i j : Nat) (u v : Value), vs[i]? = some u → vs[j]? = some v → i ≠ j → u.ownBlock = none ∨ u.ownBlock ≠ v.ownBlock
  ge : base ≤ b

section
variable {α : Type} {e : TypeId} {c : Cod α} {t : TypeId} {base : Nat} {w : World} {b : Nat} {vs : List Value} {f : Nat → List α}
theorem Own.not_box {v : Value} {xs : List α} (h : Own e c base w v xs) {cs : Array Value} (hb : w.heap[b]? = some (.cells cs t (0, 0))) (ht : e ≠ t) : v.ownBlock ≠ some b := by
  obtain ⟨-, h2⟩ := h
  rcases h2 with ⟨rfl, -⟩ | ⟨b', cap, cur, rfl, -, h4, -⟩
  · simp [Value.ownBlock]
  · intro q
    simp [Value.ownBlock] at q
    subst q
    rw [h4] at hb
    simp at hb
    exact ht hb.2
theorem Tbl.below (h : Tbl e c t base w b vs f) {w' : World} (hb : Below w.heap.size w w') : Tbl e c t base w' b vs f :=
  ⟨(hb.block b (Array.getElem?_eq_some_iff.1 h.box).1).trans h.box, fun i v hv => (h.own i v hv).below hb, h.apart, h.ge⟩
theorem Tbl.new (w : World) (k : Nat) (hb : base ≤ w.heap.size) : Tbl (α := α) e c t base (w.alloc (.cells (List.replicate k (Value.slice none 0 0)).toArray t)) w.heap.size (List.replicate k (Value.slice none 0 0)) (fun _ => []) := by
  have h0 : ∀ (i : Nat) (v : Value), (List.replicate k (Value.slice none 0 0))[i]? = some v → v = Value.slice none 0 0 := by
    intro i v hv
    rw [List.getElem?_replicate] at hv
    split at hv
    · cases hv; rfl
    · cases hv
  refine ⟨?_, fun i v hv => ?_, fun i j u v hu _ _ => .inl ?_, hb⟩
  · unfold World.alloc; simp
  · rw [h0 i v hv]; exact Own.nil
  · rw [h0 i u hu]; rfl
theorem Tbl.cell (h : Tbl e c t base w b vs f) {i : Nat} {v : Value} (hi : vs[i]? = some v) : w.cell? ⟨b, i, none⟩ = some v ∧ w.frozen? ⟨b, i, none⟩ = false := by
  constructor
  · simp [World.cell?, h.box, hi]
  · simp [World.frozen?, h.box]
/-- A row is appended to, and put anew. -/
theorem Tbl.app (h : Tbl e c t base w b vs f) (ht : e ≠ t) {i : Nat} {v v' : Value} (hi : vs[i]? = some v) {w1 : World} {xs : List α} (ho : Own e c base w1 v' xs) (hg : w.grownBy w1 v.ownBlock) (hat : v'.ownBlock = v.ownBlock ∨ v'.ownBlock = some w.heap.size) :
    Tbl e c t base (w1.setCell ⟨b, i, none⟩ v') b (vs.set i v') (fun j => if j = i then xs else f j) ∧ (base ≤ w.heap.size → Below base w (w1.setCell ⟨b, i, none⟩ v')) ∧ w1.cell? ⟨b, i, none⟩ = some v ∧ w1.frozen? ⟨b, i, none⟩ = false ∧ b < w1.heap.size := by
  have hvb : v.ownBlock ≠ some b := (h.own i v hi).not_box h.box ht
  have hblt := (Array.getElem?_eq_some_iff.1 h.box).1
  have hbx : w1.heap[b]? = some (.cells vs.toArray t (0, 0)) := (hg.block b hblt (fun q => hvb q.symm)).trans h.box
  have hvb' : v'.ownBlock ≠ some b := ho.not_box hbx ht
  have hgs : w1.grownBy (w1.setCell ⟨b, i, none⟩ v') (some b) := ⟨rfl, rfl, rfl, by simp, fun k _ hk => heap_setCell_other _ ⟨b, i, none⟩ k _ (fun q => hk (by simp [q]))⟩
  have hil : i < vs.length := (List.getElem?_eq_some_iff.1 hi).1
  have hcell : w1.cell? ⟨b, i, none⟩ = some v := by simp [World.cell?, hbx, hi]
  have hb2 := heap_setCell_same w1 b i _ _ v' hbx
  refine ⟨⟨?_, fun j u hu => ?_, fun j k u u' hu hu' hjk => ?_, h.ge⟩, fun hbase => ?_, hcell, by simp [World.frozen?, hbx], Nat.lt_of_lt_of_le hblt hg.size⟩
  · rw [hb2]; simp
  · rw [List.getElem?_set] at hu
    split at hu
    · next q =>
      subst q
      try rw [if_pos hil] at hu
      cases hu
      show Own e c base _ v' (if i = i then xs else f i)
      rw [if_pos rfl]
      exact ho.kept hgs (.inr hvb')
    · next q =>
      show Own e c base _ u (if j = i then xs else f j)
      rw [if_neg (fun q' => q q'.symm)]
      have ho' := h.own j u hu
      have hap := h.apart j i u v hu hi (fun q' => q q'.symm)
      exact (ho'.kept hg hap).kept hgs (.inr (fun q' => (ho'.not_box h.box ht) q'))
  · have key : ∀ m u1, vs[m]? = some u1 → m ≠ i → u1.ownBlock = none ∨ u1.ownBlock ≠ v'.ownBlock := by
      intro m u1 hm hmi
      rcases h.apart m i u1 v hm hi hmi with q | q
      · exact .inl q
      · rcases hat with a | a
        · rw [a]; exact .inr q
        · rw [a]
          refine .inr fun q2 => ?_
          have := (World.ownsRow.lt (h.own m u1 hm) _ q2).2
          omega
    rw [List.getElem?_set] at hu hu'
    split at hu
    · next q =>
      subst q
      try rw [if_pos hil] at hu
      cases hu
      rw [if_neg hjk] at hu'
      rcases key k u' hu' (fun q => hjk q.symm) with q | q
      · cases hn : v'.ownBlock with
        | none => exact .inl rfl
        | some z => exact .inr (by rw [q]; simp)
      · exact .inr (fun q2 => q q2.symm)
    · next q =>
      split at hu'
      · next q2 =>
        subst q2
        try rw [if_pos hil] at hu'
        cases hu'
        exact key j u hu (fun q3 => q q3.symm)
      · exact h.apart j k u u' hu hu' hjk
  · have h1 : Below base w w1 := ⟨hg.os, hg.tape, hg.output, hg.size, fun k hk => hg.block k (by omega) (fun q => by
      have := (World.ownsRow.lt (h.own i v hi) k q.symm).1
      omega)⟩
    exact h1.trans ⟨hgs.os, hgs.tape, hgs.output, hgs.size, fun k hk => hgs.block k (by have := hg.size; omega) (fun q => by
      have := Option.some.inj q
      have := h.ge
      omega)⟩
/-- What it reads as. -/
theorem Tbl.row (h : Tbl e c t base w b vs f) {i : Nat} (hi : i < vs.length) : ∃ a cap, vs[i]? = some (.slice a (f i).length cap) ∧ w.cell? ⟨b, i, none⟩ = some (.slice a (f i).length cap) ∧ Sl c w a (f i).length cap (f i) := by
  have hv := List.getElem?_eq_getElem hi
  obtain ⟨a, cap, e1, e2, -⟩ := (h.own i _ hv).slice
  have hc := (h.cell hv).1
  rw [e1] at hv hc
  exact ⟨a, cap, hv, hc, e2⟩
end
end Go.V

namespace Go.Proofs.YtlfbbahihenilaaGreat.Ne
open Go.RowKit Go.V Go.Proofs

theorem own_same {α : Type} {e : TypeId} {c : Cod α} {base o n cap : Nat} {xs : List α} {w w' : World} (h : V.Own e c base w (.slice (some ⟨o, 0, none⟩) n cap) xs) (he : w'.heap[o]? = w.heap[o]?) : V.Own e c base w' (.slice (some ⟨o, 0, none⟩) n cap) xs := by
  obtain ⟨h1, h2⟩ := h
  refine ⟨h1, ?_⟩
  rcases h2 with h2 | ⟨g, cap', cur, e1, h3, h4, h5⟩
  · exact .inl h2
  · have : o = g := by simp only [Value.slice.injEq, Option.some.injEq, Addr.mk.injEq] at e1; exact e1.1.1
    subst this
    exact .inr ⟨o, cap', cur, e1, h3, by rw [he]; exact h4, h5⟩
theorem iflat_set : ∀ (xs : List Int) (i : Nat) (d : Int), (xs.flatMap icod.enc).set i (.int .i64 d) = (xs.set i d).flatMap icod.enc
  | [], _, _ => rfl
  | x :: xs, 0, d => rfl
  | x :: xs, i + 1, d => by
    have ih := iflat_set xs i d
    rw [List.set_cons_succ, List.flatMap_cons, List.flatMap_cons, ← ih]
    rfl
/-- One of a row of numbers is put anew. -/
theorem iset {T : TypeId} {base : Nat} {w : World} {b n cap : Nat} {xs : List Int} (h : V.Own T icod base w (.slice (some ⟨b, 0, none⟩) n cap) xs) (hn : n = xs.length) (i : Nat) (d : Int) :
    V.Own T icod base (w.setCell ⟨b, i, none⟩ (.int .i64 d)) (.slice (some ⟨b, 0, none⟩) n cap) (xs.set i d) ∧ w.grownBy (w.setCell ⟨b, i, none⟩ (.int .i64 d)) (some b) :=
  h.put hn i _ _ (by simp) (iflat_set xs i d)
theorem icells {T : TypeId} {base : Nat} {w : World} {b n cap : Nat} {xs : List Int} (h : V.Own T icod base w (.slice (some ⟨b, 0, none⟩) n cap) xs) (hn : n = xs.length) {i : Nat} (hi : i < n) :
    ∃ d, xs[i]? = some d ∧ w.cell? ⟨b, i, none⟩ = some (.int .i64 d) ∧ w.frozen? ⟨b, i, none⟩ = false ∧ b < w.heap.size := by
  have hx : xs[i]? = some xs[i] := by simp
  obtain ⟨h1, h2⟩ := h.at hn hx
  refine ⟨_, hx, ?_, h2 _, (World.ownsRow.lt h b rfl).2⟩
  have := h1 0 _ rfl
  simpa [icod] using this
end Go.Proofs.YtlfbbahihenilaaGreat.Ne

namespace Go.Proofs.YtlfbbahihenilaaGreat.Ne
open Go.RowKit Go.V Go.Proofs

/-- The links of each stop, as rows. -/
structure AdjIn (w : World) (b k : Nat) (L : List Lnk) : Prop where
  lt : b < w.heap.size
  row : ∀ i : Nat, i < k → ∃ a cap, w.cell? ⟨b, i, none⟩ = some (.slice a (adj L i).length cap) ∧ Sl lcod w a (adj L i).length cap (adj L i)
theorem AdjIn.below {w w' : World} {b k : Nat} {L : List Lnk} (h : AdjIn w b k L) (hb : Below w.heap.size w w') : AdjIn w' b k L :=
  ⟨Nat.lt_of_lt_of_le h.lt hb.size, fun i hi => by
    obtain ⟨a, cap, h1, h2⟩ := h.row i hi
    exact ⟨a, cap, by rw [hb.cell (p := ⟨b, i, none⟩) h.lt]; exact h1, h2.below hb⟩⟩

theorem HeapIn.same {w w' : World} {base g : Nat} {v : Value} {l : List Rch} (h : HeapIn w base g v l) {o : Nat} (hg : w.grownBy w' (some o)) (h1 : g ≠ o) (h2 : v.ownBlock ≠ some o) : HeapIn w' base g v l :=
  ⟨(hg.block g (box_lt h.box) (fun e => h1 (Option.some.inj e))).trans h.box, h.own.kept hg (.inr h2), h.ge⟩

structure FS (W w : World) (o oc g k : Nat) (v : Value) (out : List Int) (H : List Rch) : Prop where
  ge : Below W.heap.size W w
  out : V.Own 3 icod W.heap.size w (.slice (some ⟨o, 0, none⟩) k oc) out
  heap : HeapIn w W.heap.size g v H
  ok : HeapOk Rch.far H
  og : o ≠ g
  oh : v.ownBlock ≠ some o
section
variable {W w w' : World} {o oc g k : Nat} {v v' : Value} {out : List Int} {H H' : List Rch}
theorem FS.lt (h : FS W w o oc g k v out H) : W.heap.size ≤ o ∧ o < w.heap.size := World.ownsRow.lt h.out o rfl
theorem FS.chg (h : FS W w o oc g k v out H) (hc : Chg w w' g v.ownBlock) (hh : HeapIn w' W.heap.size g v' H') (hok : HeapOk Rch.far H') (hv : v'.ownBlock = v.ownBlock ∨ ∃ k, v'.ownBlock = some k ∧ w.heap.size ≤ k) : FS W w' o oc g k v' out H' := by
  refine ⟨h.ge.trans (hc.below h.heap.ge (fun k hk => (World.ownsRow.lt h.heap.own k hk).1) h.ge.size), own_same h.out (hc.block o h.lt.2 h.og (fun e => h.oh e.symm)), hh, hok, h.og, ?_⟩
  rcases hv with e | ⟨j, e, hj⟩
  · rw [e]; exact h.oh
  · rw [e]
    intro e2
    have := Option.some.inj e2
    have := h.lt.2
    omega
theorem FS.below (h : FS W w o oc g k v out H) (hb : Below w.heap.size w w') : FS W w' o oc g k v out H :=
  ⟨h.ge.trans (hb.mono h.ge.size), h.out.below hb, h.heap.below hb, h.ok, h.og, h.oh⟩
theorem FS.put (h : FS W w o oc g k v out H) (hk : k = out.length) (i : Nat) (d : Int) : FS W (w.setCell ⟨o, i, none⟩ (.int .i64 d)) o oc g k v (out.set i d) H := by
  obtain ⟨h1, h2⟩ := iset h.out hk i d
  have := h.lt
  exact ⟨h.ge.trans ⟨h2.os, h2.tape, h2.output, h2.size, fun j hj => h2.block j (by have := h.ge.size; omega) (fun e => by have := Option.some.inj e; omega)⟩, h1, h.heap.same h2 (fun e => h.og e.symm) h.oh, h.ok, h.og, h.oh⟩
theorem FS.push (h : FS W w o oc g k v out H) {x : Rch} (hw : ∃ v' l', HeapIn w' W.heap.size g v' l' ∧ HeapOk Rch.far l' ∧ l'.Perm (x :: H) ∧ Chg w w' g v.ownBlock ∧ (v'.ownBlock = v.ownBlock ∨ ∃ k, v'.ownBlock = some k ∧ w.heap.size ≤ k)) :
    ∃ v' l', FS W w' o oc g k v' out l' ∧ l'.Perm (x :: H) ∧ (∀ y ob, w.heap[y]? = some ob → v.ownBlock ≠ some y → y ≠ g → w'.heap[y]? = some ob ∧ v'.ownBlock ≠ some y) := by
  obtain ⟨v', l', h1, h2, h3, h4, h5⟩ := hw
  refine ⟨v', l', h.chg h4 h1 h2 h5, h3, fun y ob hy h6 h7 => ⟨h4.box hy h7 (fun e => h6 e.symm), ?_⟩⟩
  rcases h5 with e | ⟨j, e, hj⟩
  · rw [e]; exact h6
  · rw [e]
    intro e2
    have := Option.some.inj e2
    have := box_lt hy
    omega
end
end Go.Proofs.YtlfbbahihenilaaGreat.Ne

namespace Go.Proofs.YtlfbbahihenilaaGreat.Ne
open Go.RowKit Go.V Go.Proofs
theorem infoLnk : (Tryz.prog.info? 121).map (fun i => (i.zero, i.size, i.bytes)) = some (some (.agg #[.int .i64 0, .int .i64 0, .int .i64 0]), 3, 24) := by kernel_rfl
theorem eltLnk : Elt Tryz.prog 23 121 lcod 24 := Elt.of Tryz.underlying23 infoLnk rfl (by decide)
theorem eltStpN : Elt Tryz.prog 22 70 Stp.cod 16 := Elt.of (z := .agg #[.int .i64 0, .int .i64 0]) Tryz.underlying22 (by kernel_rfl) rfl (by decide)
end Go.Proofs.YtlfbbahihenilaaGreat.Ne
