/- Networks: the distances by definition, walked: links are gone through till nothing turns. -/
/- Networks: the document's distance of two stops, walked. -/
/- Costs: what a weighing is; which there may be. -/
import Derived.Test.YtlfbbahihenilaaGreatMg16
import Derived.Deep.RegionHeld3
import Derived.Deep.DrawnRows
import Derived.Test.YtlfbbahihenilaaGreatMg18
import Derived.Test.YtlfbbahihenilaaGreatMg02
namespace Go.Proofs.YtlfbbahihenilaaGreat.Ne
open Go.RowKit Go.V Go.Proofs Go.Sort
attribute [local go_sem ↓] Go.wp_at_zero Go.wp_at_succ

theorem infoI2 : (Tryz.prog.info? 3).map (fun i => (i.zero, i.size, i.bytes)) = some (some (.int .i64 0), 1, 8) := by kernel_rfl
theorem eltI : Elt Tryz.prog 35 3 icod 8 := Elt.of Tryz.underlying35 infoI2 rfl (by decide)
theorem own_below {T : TypeId} {base : Nat} {w w1 : World} {v : Value} {xs : List Int} (h : V.Own T icod base w v xs) (hg : w.grownBy w1 v.ownBlock) (hb : base ≤ w.heap.size) : Below base w w1 :=
  ⟨hg.os, hg.tape, hg.output, hg.size, fun k hk => hg.block k (by omega) (fun q => by
    have := (World.ownsRow.lt h k q.symm).1
    omega)⟩
theorem rlx_t {out : List Int} {u v : Nat} {w du dv : Int} (hu : out[u]? = some du) (hv : out[v]? = some dv) (h : decide (0 ≤ du ∧ (dv < 0 ∨ du + w < dv)) = true) : rlx out u v w = out.set v (du + w) := by
  unfold rlx
  rw [getD_at hu, getD_at hv, if_pos (of_decide_eq_true h)]
theorem rlx_f {out : List Int} {u v : Nat} {w du dv : Int} (hu : out[u]? = some du) (hv : out[v]? = some dv) (h : decide (0 ≤ du ∧ (dv < 0 ∨ du + w < dv)) = false) : rlx out u v w = out := by
  unfold rlx
  rw [getD_at hu, getD_at hv, if_neg (of_decide_eq_false h)]
theorem cell_other {w : World} {b i j : Nat} {v u : Value} (h : w.cell? ⟨b, j, none⟩ = some u) (hij : i ≠ j) : (w.setCell ⟨b, i, none⟩ v).cell? ⟨b, j, none⟩ = some u := by
  have hne : (⟨b, i, none⟩ : Addr) ≠ ⟨b, j, none⟩ := by intro e; exact hij (by cases e; rfl)
  first
    | exact (World.cell?_setCell_other _ _ _ _ hne).trans h
    | exact (World.cell?_setCell_other _ _ _ hne).trans h
    | exact (World.cell?_setCell_other _ _ hne).trans h
    | exact (World.cell?_setCell_other _ hne).trans h

set_option maxHeartbeats 8000000 in
set_option maxRecDepth 100000 in
theorem rfrom_any (n : Net) (hs hl : Hdr) (s : Nat) (w : World) (h : NetIn w n hs hl) (hok : checkE n = 0) (h60 : hs.n ≤ 60) (h120 : hl.n ≤ 120) (hsk : s < hs.n) :
    Calls Tryz.prog 118 #[n.val hs hl, .int .i64 s] w fun e w' => ∃ o cap, e = .returned (.slice (some ⟨o, 0, none⟩) hs.n cap) ∧ V.Own 3 icod w.heap.size w' (.slice (some ⟨o, 0, none⟩) hs.n cap) (bf n.links n.stops.length s) ∧ Below w.heap.size w w' := by
  have mixed : Tryz.prog.follows .mixedOrders = true := by kernel_rfl
  obtain ⟨-, -, -, -, k5, -⟩ := check_ok hok
  have HKN := Lib.hid h.s.hlen
  have HLN := Lib.hid h.l.hlen
  obtain ⟨sa, k, sc⟩ := hs
  obtain ⟨la, m, lc⟩ := hl
  have HLK : Hid (LinksOk n.links k) := by
    have e : k = n.stops.length := HKN.out
    show LinksOk _ _
    rw [e]; exact k5
  have h60 : k ≤ 60 := h60
  have h120 : m ≤ 120 := h120
  have hsk : s < k := hsk
  have HX := Lib.hid (box_new w (n.box ⟨sa, k, sc⟩ ⟨la, m, lc⟩))
  have HB0 : Hid (Below w.heap.size w (w.alloc (n.box ⟨sa, k, sc⟩ ⟨la, m, lc⟩))) := (Below.refl _ _).alloc (Nat.le_refl _) _
  have HH : Hid (NetIn (w.alloc (n.box ⟨sa, k, sc⟩ ⟨la, m, lc⟩)) n ⟨sa, k, sc⟩ ⟨la, m, lc⟩) := h.below ((Below.refl _ _).alloc (Nat.le_refl _) _)
  clear h k5
  unfold Net.val
  go_enter Tryz.func118, Tryz.ntmps118
  go_upto_region 2 with fail
  obtain ⟨W, hW⟩ : ∃ W, w.alloc (.cells #[.int .i64 n.ver, .slice sa k sc, .slice la m lc] 25) = W := ⟨_, rfl⟩
  unfold Net.box at HX HB0 HH
  rw [hW] at HX HB0 HH ⊢
  obtain ⟨z, hz⟩ : ∃ z, w.heap.size = z := ⟨_, rfl⟩
  rw [hz] at HX HB0 ⊢
  have HZ := Lib.hid hz
  clear hW hz
  obtain ⟨-, c1, c2, -, -, -⟩ := box3_cells HX.out
  have hzW := box_lt HX.out
  have C1 := Lib.hid c1
  have C2 := Lib.hid c2
  clear c1 c2
  go_wp2_with fail
  go_loopw [5, 6] (fun v i wr => ∃ j : Nat, i = .int .i64 j ∧ j ≤ k ∧ Hid (V.Own 3 icod W.heap.size wr v (List.replicate j (-1))) ∧ Hid (Below W.heap.size W wr)) (fun _ i _ => k - (intOf i).toNat)
  case atStart => exact ⟨0, by go_num, by omega, Own.nil, Below.refl _ _⟩
  case round =>
    obtain ⟨j, rfl, hj, HO, HB⟩ := hrel
    have c1 := (HB.out.cell (p := ⟨z, 1, none⟩) hzW).trans C1.out
    by_cases hlt : j < k
    · have HM1 : Hid ((List.replicate j (-1 : Int)).length + 1 ≤ maxLen) := by show _ ≤ _; rw [List.length_replicate]; unfold maxLen; omega
      have HM2 : Hid (((List.replicate j (-1 : Int)).length + 1) * 8 ≤ 140737488355328) := by show _ ≤ _; rw [List.length_replicate]; omega
      go_wp2_with (at_builtin; go_loud (refine wpList_app eltI rfl (.tmp 17) (.tmp 18) rfl (base := W.heap.size) _ (List.replicate j (-1)) rfl (HO.out.alloc _) _ 1 1 [-1] rfl (sl_new (c := icod) _ #[.int .i64 (-1)] 3 [-1] 1 rfl (by unfold maxLen; omega) rfl) HM1.out HM2.out (by have := HB.out.size; simp; omega) ?_); intro v1 w1 ho hg; have HO1 := Lib.hid ho; have HB1 : Hid (Below W.heap.size W w1) := (HB.out.alloc HB.out.size _).trans (own_below (HO.out.alloc _) hg (by have := HB.out.size; simp; omega)); clear ho hg)
      go_roundw
      case rel =>
        refine ⟨j + 1, by go_num, by omega, ?_, by first | exact Below.drew HB1.out | exact HB1.out⟩
        have e : List.replicate (j + 1) (-1 : Int) = List.replicate j (-1) ++ [-1] := by rw [List.replicate_succ']
        rw [e]; exact HO1.out
      case measure => simp [intOf]; omega
    · have hjk : k = j := by omega
      subst hjk
      obtain ⟨o, oc, cur0, e1, -, -⟩ := own_ne HO.out (by intro e; have := congrArg List.length e; rw [List.length_replicate] at this; simp at this; omega)
      rw [List.length_replicate] at e1
      subst e1
      obtain ⟨d0, hd0, p0, p1, p2⟩ := icells HO.out (List.length_replicate).symm hsk
      have i0 : (s : Int) < (k : Int) := by omega
      obtain ⟨o1, g1⟩ := iset HO.out (List.length_replicate).symm s 0
      have HO1 := Lib.hid o1
      have HB1 : Hid (Below W.heap.size W (wr.setCell ⟨o, s, none⟩ (.int .i64 0))) := HB.out.trans (own_below HO.out g1 HB.out.size)
      clear o1 g1 hd0
      go_wp2_with fail
      clear p0 p1 p2 c1 HO HB
      have HS0 : Hid (Sound n.links k s ((List.replicate k (-1 : Int)).set s 0) 0) := by
        have := bf_sound (L := n.links) (k := k) (a := (s : Int)) (by omega)
        show Sound _ _ _ _ _
        simpa using this
      obtain ⟨L0, hL0⟩ : ∃ L0, (List.replicate k (-1 : Int)).set s 0 = L0 := ⟨_, rfl⟩
      have HL0 := Lib.hid hL0
      rw [hL0] at HO1 HS0
      clear hL0
      go_loopw [7] (fun i wr => ∃ t : Nat, i = .int .i64 t ∧ t ≤ k ∧ Hid (V.Own 3 icod W.heap.size wr (.slice (some ⟨o, 0, none⟩) k oc) (turnN n.links L0 t)) ∧ Hid (Below W.heap.size W wr)) (fun i _ => k - (intOf i).toNat)
      case atStart => exact ⟨0, by go_num, by omega, HO1.out, HB1.out⟩
      case round =>
        obtain ⟨t, rfl, ht, HO, HB⟩ := hrel
        have c1 := (HB.out.cell (p := ⟨z, 1, none⟩) hzW).trans C1.out
        by_cases hlt2 : t < k
        · go_wp2_with fail
          go_loopw [8] (fun i wr => ∃ j : Nat, i = .int .i64 j ∧ j ≤ m ∧ Hid (V.Own 3 icod W.heap.size wr (.slice (some ⟨o, 0, none⟩) k oc) ((n.links.take j).foldl rlxL (turnN n.links L0 t))) ∧ Hid (Below W.heap.size W wr)) (fun i _ => m - (intOf i).toNat)
          case atStart => exact ⟨0, by go_num, by omega, HO.out, HB.out⟩
          case round =>
            obtain ⟨j, rfl, hj3, HO3, HB3⟩ := hrel
            have c2 := (HB3.out.cell (p := ⟨z, 2, none⟩) hzW).trans C2.out
            by_cases hlt3 : j < m
            · obtain ⟨bl, off, l, rfl, hbl, hlj, l0, l1, l2⟩ := lnk_at (HH.out.l.below HB3.out) hlt3
              obtain ⟨q1, q2, q3, q4, q5⟩ := HLK.out l (List.mem_of_getElem? hlj)
              obtain ⟨la, lb, x⟩ := l
              obtain ⟨A, rfl⟩ : ∃ A : Nat, la = A := ⟨la.toNat, by simp at q1; omega⟩
              obtain ⟨B, rfl⟩ : ∃ B : Nat, lb = B := ⟨lb.toNat, by simp at q1 q2; omega⟩
              have hAk : A < k := by simp at q2 q3; omega
              have hBk : B < k := by simp at q3; omega
              have hAB : A < B := by simp at q2; omega
              have HED : Hid (V.Edge n.links (A : Int) (B : Int) x ∧ 0 ≤ x ∧ x ≤ 1048575) := ⟨⟨_, List.mem_of_getElem? hlj, .inl ⟨rfl, rfl⟩, rfl⟩, by simp at q4; omega, by simp at q5; omega⟩
              have HED2 : Hid (V.Edge n.links (B : Int) (A : Int) x) := ⟨_, List.mem_of_getElem? hlj, .inr ⟨rfl, rfl⟩, rfl⟩
              have hx2 : 0 ≤ x ∧ x ≤ 1048575 := HED.out.2
              have HLJ := Lib.hid hlj
              have iA : (A : Int) < (k : Int) := by omega
              have iB : (B : Int) < (k : Int) := by omega
              obtain ⟨cur, hcur⟩ : ∃ cur, (n.links.take j).foldl rlxL (turnN n.links L0 t) = cur := ⟨_, rfl⟩
              have HCU := Lib.hid hcur
              rw [hcur] at HO3
              have HSc : Hid (Sound n.links k s cur 1000000000000) := by
                show Sound _ _ _ _ _
                rw [← hcur]
                have s1 := Sound.turns HLK.out HS0.out t
                have s2 := Sound.fold HLK.out (n.links.take j) _ _ (fun l hl => List.mem_of_mem_take hl) s1
                refine s2.mono ?_
                have e1 : n.links.length ≤ 120 := by have e : m = n.links.length := HLN.out; omega
                have e2 : (n.links.take j).length ≤ 120 := by rw [List.length_take]; omega
                have e3 : (t : Int) * ((n.links.length : Int) * 2097150) ≤ 60 * (120 * 2097150) := by
                  have f1 : (t : Int) ≤ 60 := by omega
                  have f2 : (n.links.length : Int) * 2097150 ≤ 120 * 2097150 := by omega
                  exact Int.mul_le_mul f1 f2 (by omega) (by omega)
                omega
              have HKC : Hid (k = cur.length) := HSc.out.len.symm
              clear q1 q2 q3 q4 q5 hlj hcur
              go_upto_region 14 with fail
              have HOc := Lib.hid (HO3.out.alloc (.cells #[.int .i64 A, .int .i64 B, .int .i64 x] 121))
              have HBc : Hid (Below W.heap.size W (wr.alloc (.cells #[.int .i64 A, .int .i64 B, .int .i64 x] 121))) := HB3.out.alloc HB3.out.size _
              have HYc := Lib.hid (box_new wr (.cells #[.int .i64 A, .int .i64 B, .int .i64 x] 121))
              obtain ⟨y, hy⟩ : ∃ y, wr.heap.size = y := ⟨_, rfl⟩
              have hoy : o ≠ y := by rw [← hy]; exact fun e => by have := (World.ownsRow.lt HO3.out o rfl).2; omega
              have hyo : y ≠ o := fun e => hoy e.symm
              obtain ⟨w9, hw9⟩ : ∃ w9, wr.alloc (.cells #[.int .i64 A, .int .i64 B, .int .i64 x] 121) = w9 := ⟨_, rfl⟩
              rw [hw9] at HOc HBc HYc ⊢
              rw [hy] at HYc ⊢
              clear hw9 hy HO3 HB3 l0 l1 l2 hbl c2
              obtain ⟨du, hdu, p0, -, p2⟩ := icells HOc.out HKC.out hAk
              obtain ⟨dv, hdv, q0, -, -⟩ := icells HOc.out HKC.out hBk
              have hbu : du = -1 ∨ 0 ≤ du ∧ du ≤ 1000000000000 := by
                rcases HSc.out.one _ _ hdu with e | ⟨e, e2, -⟩
                · exact .inl e
                · exact .inr ⟨e, by omega⟩
              have HDU := Lib.hid hdu
              have HDV := Lib.hid hdv
              clear hdu hdv
              obtain ⟨y0, y1, y2, -, -, -⟩ := box3_cells HYc.out
              have Y0 := cell_regrown y0
              have Y1 := cell_regrown y1
              have Y2 := cell_regrown y2
              have P0 := cell_regrown p0
              have Q0 := cell_regrown q0
              have hyw := box_lt HYc.out
              clear y0 y1 y2 p0 q0
              go_cut [71] (fun v wx => v = .bool (decide (0 ≤ du ∧ (dv < 0 ∨ du + x < dv))) ∧ Hid (Below w9.heap.size w9 wx))
              case first =>
                --<<
                by_cases g1 : 0 ≤ du
                · by_cases g2 : dv < 0
                  · refine wp_region_quiet_below (by assumption) (by kernel_rfl) ?_
                    repeat (go_big_quiet_step (fail))
                    refine wpQuiet_nil ?_
                    intro w2 hw2
                    obtain ⟨⟨nd, osq⟩, rfl⟩ := hw2
                    have hbq := below_regrown w9 nd osq
                    generalize grow (redrawn w9 nd) osq = w2 at hbq ⊢
                    have HBQ := Lib.hid hbq
                    clear hbq
                    go_wp2_with fail
                    go_meet
                    exact ⟨by simp [g1, g2], HBQ.out⟩
                  · have g3 : decide (dv < 0) = false := decide_eq_false g2
                    have g4 : decide (0 ≤ du) = true := decide_eq_true g1
                    refine wp_region_quiet_below (by assumption) (by kernel_rfl) ?_
                    repeat (go_big_quiet_step (fail))
                    refine wpQuiet_nil ?_
                    intro w2 hw2
                    obtain ⟨⟨nd, osq⟩, rfl⟩ := hw2
                    have hbq := below_regrown w9 nd osq
                    generalize grow (redrawn w9 nd) osq = w2 at hbq ⊢
                    have HBQ := Lib.hid hbq
                    clear hbq
                    go_wp2_with fail
                    go_meet
                    exact ⟨congrArg Value.bool (decide_eq_decide.2 ⟨fun h => ⟨g1, .inr h⟩, fun h => h.2.resolve_left (by omega)⟩), HBQ.out⟩
                · have g3 : decide (0 ≤ du) = false := decide_eq_false g1
                  refine wp_region_quiet_below (by assumption) (by kernel_rfl) ?_
                  repeat (go_big_quiet_step (fail))
                  refine wpQuiet_nil ?_
                  intro w2 hw2
                  obtain ⟨⟨nd, osq⟩, rfl⟩ := hw2
                  have hbq := below_regrown w9 nd osq
                  generalize grow (redrawn w9 nd) osq = w2 at hbq ⊢
                  have HBQ := Lib.hid hbq
                  clear hbq
                  go_wp2_with fail
                  go_meet
                  exact ⟨congrArg Value.bool (decide_eq_false (fun h => by have := h.1; omega)).symm, HBQ.out⟩
                -->>
              obtain ⟨rfl, HBQ⟩ := hcut
              have HOd := Lib.hid (HOc.out.below HBQ.out)
              have HBd := Lib.hid (HBc.out.trans (HBQ.out.mono HBc.out.size))
              have HYd := Lib.hid (box_below HYc.out HBQ.out)
              obtain ⟨wd, hwd⟩ : ∃ wd : World, wd = wc := ⟨_, rfl⟩
              subst hwd
              clear HOc HBc HYc HBQ Y0 Y1 Y2 P0 Q0 hyw p2
              obtain ⟨bb, hbb⟩ : ∃ bb, decide (0 ≤ du ∧ (dv < 0 ∨ du + x < dv)) = bb := ⟨_, rfl⟩
              rw [hbb]
              have HBB := Lib.hid hbb
              clear hbb
              go_upto_if 71 with fail
              go_cut [] (fun wx => Hid (V.Own 3 icod W.heap.size wx (.slice (some ⟨o, 0, none⟩) k oc) (rlx cur A B x)) ∧ Hid (Below W.heap.size W wx) ∧ Hid (wx.heap[y]? = some (.cells #[.int .i64 A, .int .i64 B, .int .i64 x] 121 (0, 0))))
              case first =>
                --<<
                cases bb with
                | false =>
                  go_wp2_with fail
                  go_meet
                  exact ⟨by show V.Own _ _ _ _ _ _; rw [rlx_f HDU.out HDV.out HBB.out]; exact HOd.out, HBd.out, HYd.out⟩
                | true =>
                  obtain ⟨p0, p1, p2⟩ : wd.cell? ⟨o, A, none⟩ = some (.int .i64 du) ∧ wd.cell? ⟨o, B, none⟩ = some (.int .i64 dv) ∧ wd.frozen? ⟨o, B, none⟩ = false := by
                    obtain ⟨d1, h1, h2, -, -⟩ := icells HOd.out HKC.out hAk
                    obtain ⟨d2, h3, h4, h5, -⟩ := icells HOd.out HKC.out hBk
                    have e1 := h1.symm.trans HDU.out
                    have e2 := h3.symm.trans HDV.out
                    cases e1
                    cases e2
                    exact ⟨h2, h4, h5⟩
                  have how := (World.ownsRow.lt HOd.out o rfl).2
                  obtain ⟨y0, y1, y2, -, -, -⟩ := box3_cells HYd.out
                  have hyw := box_lt HYd.out
                  have hx1 : 0 ≤ du := (of_decide_eq_true HBB.out).1
                  have HWR : Hid (IntKind.i64.wrap (du + x) = du + x) := by show _ = _; exact IntWalk.i64_in _ (by omega)
                  obtain ⟨o1, g1⟩ := iset HOd.out HKC.out B (du + x)
                  have HO1 := Lib.hid o1
                  have HB1 : Hid (Below W.heap.size W (wd.setCell ⟨o, B, none⟩ (.int .i64 (du + x)))) := HBd.out.trans (own_below HOd.out g1 HBd.out.size)
                  have HY1 : Hid ((wd.setCell ⟨o, B, none⟩ (.int .i64 (du + x))).heap[y]? = some (.cells #[.int .i64 A, .int .i64 B, .int .i64 x] 121 (0, 0))) := (g1.block y (box_lt HYd.out) (fun e => hyo (Option.some.inj e))).trans HYd.out
                  clear o1 g1
                  go_upto_region 15 with fail
                  go_region_held3 (fun w' => w'.cell? ⟨y, 0, none⟩ = some (.int .i64 A) ∧ w'.cell? ⟨y, 1, none⟩ = some (.int .i64 B) ∧ w'.cell? ⟨y, 2, none⟩ = some (.int .i64 x) ∧ w'.cell? ⟨o, A, none⟩ = some (.int .i64 du))
                    (first | (exact ⟨y0, y1, y2, p0⟩) | (exact ⟨(World.cell?_setCell_far _ _ _ _ hoy).trans y0, (World.cell?_setCell_far _ _ _ _ hoy).trans y1, (World.cell?_setCell_far _ _ _ _ hoy).trans y2, cell_other p0 (by omega)⟩) | go_keep)
                    (fail)
                  all_goals
                    go_wp2_with fail
                    go_meet
                    try rw [HWR.out]
                    exact ⟨by show V.Own _ _ _ _ _ _; rw [rlx_t HDU.out HDV.out HBB.out]; first | exact HO1.out.below (Below.drew (Below.refl _ _)) | exact HO1.out, by first | exact Below.drew HB1.out | exact HB1.out, by first | exact box_below HY1.out (Below.drew (Below.refl _ _)) | exact HY1.out⟩
                -->>
              obtain ⟨HOc, HBc, HYc⟩ := hcut
              obtain ⟨wa, hwa⟩ : ∃ wa : World, wa = wc := ⟨_, rfl⟩
              subst hwa
              obtain ⟨cur2, hcur2⟩ : ∃ cur2, rlx cur A B x = cur2 := ⟨_, rfl⟩
              have HC2 := Lib.hid hcur2
              rw [hcur2] at HOc
              have HSd : Hid (Sound n.links k s cur2 (1000000000000 + 1048575)) := by
                show Sound _ _ _ _ _
                rw [← hcur2]
                exact HSc.out.rlx hAk hBk HED.out.1 HED.out.2
              clear hcur2 HSc HOd HBd HYd HDU HDV HBB hbu HKC
              have HSc := HSd
              have HKC : Hid (k = cur2.length) := HSc.out.len.symm
              clear du dv bb
  
              obtain ⟨du, hdu, p0, -, p2⟩ := icells HOc.out HKC.out hBk
              obtain ⟨dv, hdv, q0, -, -⟩ := icells HOc.out HKC.out hAk
              have hbu : du = -1 ∨ 0 ≤ du ∧ du ≤ (1000000000000 + 1048575) := by
                rcases HSc.out.one _ _ hdu with e | ⟨e, e2, -⟩
                · exact .inl e
                · exact .inr ⟨e, by omega⟩
              have HDU := Lib.hid hdu
              have HDV := Lib.hid hdv
              clear hdu hdv
              obtain ⟨y0, y1, y2, -, -, -⟩ := box3_cells HYc.out
              have Y0 := cell_regrown y0
              have Y1 := cell_regrown y1
              have Y2 := cell_regrown y2
              have P0 := cell_regrown p0
              have Q0 := cell_regrown q0
              have hyw := box_lt HYc.out
              clear y0 y1 y2 p0 q0
              go_upto_region 16 with fail
              go_cut [113] (fun v wx => v = .bool (decide (0 ≤ du ∧ (dv < 0 ∨ du + x < dv))) ∧ Hid (Below wa.heap.size wa wx))
              case first =>
                --<<
                by_cases g1 : 0 ≤ du
                · by_cases g2 : dv < 0
                  · refine wp_region_quiet_below (by assumption) (by kernel_rfl) ?_
                    repeat (go_big_quiet_step (fail))
                    refine wpQuiet_nil ?_
                    intro w2 hw2
                    obtain ⟨⟨nd, osq⟩, rfl⟩ := hw2
                    have hbq := below_regrown wa nd osq
                    generalize grow (redrawn wa nd) osq = w2 at hbq ⊢
                    have HBQ := Lib.hid hbq
                    clear hbq
                    go_wp2_with fail
                    go_meet
                    exact ⟨by simp [g1, g2], HBQ.out⟩
                  · have g3 : decide (dv < 0) = false := decide_eq_false g2
                    have g4 : decide (0 ≤ du) = true := decide_eq_true g1
                    refine wp_region_quiet_below (by assumption) (by kernel_rfl) ?_
                    repeat (go_big_quiet_step (fail))
                    refine wpQuiet_nil ?_
                    intro w2 hw2
                    obtain ⟨⟨nd, osq⟩, rfl⟩ := hw2
                    have hbq := below_regrown wa nd osq
                    generalize grow (redrawn wa nd) osq = w2 at hbq ⊢
                    have HBQ := Lib.hid hbq
                    clear hbq
                    go_wp2_with fail
                    go_meet
                    exact ⟨congrArg Value.bool (decide_eq_decide.2 ⟨fun h => ⟨g1, .inr h⟩, fun h => h.2.resolve_left (by omega)⟩), HBQ.out⟩
                · have g3 : decide (0 ≤ du) = false := decide_eq_false g1
                  refine wp_region_quiet_below (by assumption) (by kernel_rfl) ?_
                  repeat (go_big_quiet_step (fail))
                  refine wpQuiet_nil ?_
                  intro w2 hw2
                  obtain ⟨⟨nd, osq⟩, rfl⟩ := hw2
                  have hbq := below_regrown wa nd osq
                  generalize grow (redrawn wa nd) osq = w2 at hbq ⊢
                  have HBQ := Lib.hid hbq
                  clear hbq
                  go_wp2_with fail
                  go_meet
                  exact ⟨congrArg Value.bool (decide_eq_false (fun h => by have := h.1; omega)).symm, HBQ.out⟩
                -->>
              obtain ⟨rfl, HBQ⟩ := hcut
              have HOd := Lib.hid (HOc.out.below HBQ.out)
              have HBd := Lib.hid (HBc.out.trans (HBQ.out.mono HBc.out.size))
              have HYd := Lib.hid (box_below HYc.out HBQ.out)
              obtain ⟨wd, hwd⟩ : ∃ wd : World, wd = wc := ⟨_, rfl⟩
              subst hwd
              clear HOc HBc HYc HBQ Y0 Y1 Y2 P0 Q0 hyw p2
              obtain ⟨bb, hbb⟩ : ∃ bb, decide (0 ≤ du ∧ (dv < 0 ∨ du + x < dv)) = bb := ⟨_, rfl⟩
              rw [hbb]
              have HBB := Lib.hid hbb
              clear hbb
              cases bb with
              | false =>
                go_wp2_with fail
                go_roundw
                case rel =>
                  refine ⟨j + 1, by go_num, by omega, ?_, HBd.out⟩
                  have e : (n.links.take (j + 1)).foldl rlxL (turnN n.links L0 t) = rlx cur2 B A x := by
                    rw [take_at HLJ.out, List.foldl_append, HCU.out]
                    simp only [List.foldl_cons, List.foldl_nil, rlxL, Int.toNat_natCast]
                    rw [HC2.out]
                  rw [e, rlx_f HDU.out HDV.out HBB.out]
                  exact HOd.out
                case measure => simp [intOf]; omega
              | true =>
                obtain ⟨p0, p1, p2⟩ : wd.cell? ⟨o, B, none⟩ = some (.int .i64 du) ∧ wd.cell? ⟨o, A, none⟩ = some (.int .i64 dv) ∧ wd.frozen? ⟨o, A, none⟩ = false := by
                  obtain ⟨d1, h1, h2, -, -⟩ := icells HOd.out HKC.out hBk
                  obtain ⟨d2, h3, h4, h5, -⟩ := icells HOd.out HKC.out hAk
                  have e1 := h1.symm.trans HDU.out
                  have e2 := h3.symm.trans HDV.out
                  cases e1
                  cases e2
                  exact ⟨h2, h4, h5⟩
                have how := (World.ownsRow.lt HOd.out o rfl).2
                obtain ⟨y0, y1, y2, -, -, -⟩ := box3_cells HYd.out
                have hyw := box_lt HYd.out
                have hx1 : 0 ≤ du := (of_decide_eq_true HBB.out).1
                have HWR : Hid (IntKind.i64.wrap (du + x) = du + x) := by show _ = _; exact IntWalk.i64_in _ (by omega)
                obtain ⟨o1, g1⟩ := iset HOd.out HKC.out A (du + x)
                have HO1 := Lib.hid o1
                have HB1 : Hid (Below W.heap.size W (wd.setCell ⟨o, A, none⟩ (.int .i64 (du + x)))) := HBd.out.trans (own_below HOd.out g1 HBd.out.size)
                have HY1 : Hid ((wd.setCell ⟨o, A, none⟩ (.int .i64 (du + x))).heap[y]? = some (.cells #[.int .i64 A, .int .i64 B, .int .i64 x] 121 (0, 0))) := (g1.block y (box_lt HYd.out) (fun e => hyo (Option.some.inj e))).trans HYd.out
                clear o1 g1
                go_upto_region 17 with fail
                go_region_held3 (fun w' => w'.cell? ⟨y, 0, none⟩ = some (.int .i64 A) ∧ w'.cell? ⟨y, 1, none⟩ = some (.int .i64 B) ∧ w'.cell? ⟨y, 2, none⟩ = some (.int .i64 x) ∧ w'.cell? ⟨o, B, none⟩ = some (.int .i64 du))
                  (first | (exact ⟨y0, y1, y2, p0⟩) | (exact ⟨(World.cell?_setCell_far _ _ _ _ hoy).trans y0, (World.cell?_setCell_far _ _ _ _ hoy).trans y1, (World.cell?_setCell_far _ _ _ _ hoy).trans y2, cell_other p0 (by omega)⟩) | go_keep)
                  (fail)
                all_goals
                  go_wp2_with fail
                  go_roundw
                  case rel =>
                    try rw [HWR.out]
                    refine ⟨j + 1, by go_num, by omega, ?_, by first | exact Below.drew HB1.out | exact HB1.out⟩
                    have e : (n.links.take (j + 1)).foldl rlxL (turnN n.links L0 t) = rlx cur2 B A x := by
                      rw [take_at HLJ.out, List.foldl_append, HCU.out]
                      simp only [List.foldl_cons, List.foldl_nil, rlxL, Int.toNat_natCast]
                      rw [HC2.out]
                    rw [e, rlx_t HDU.out HDV.out HBB.out]
                    first | exact HO1.out.below (Below.drew (Below.refl _ _)) | exact HO1.out
                  case measure => simp [intOf]; omega
            · have hjm : m = j := by omega
              subst hjm
              go_wp2_with fail
              go_roundw
              case rel =>
                refine ⟨t + 1, by go_num, by omega, ?_, HB3.out⟩
                have := HO3.out
                rw [List.take_of_length_le (by rw [← HLN.out]; exact Nat.le_refl _)] at this
                exact this
              case measure => simp [intOf]; omega
        · have htk : t = k := by omega
          go_wp2_with fail
          go_ret
          refine ⟨o, oc, rfl, ?_, by rw [HZ.out]; exact HB0.out.trans (HB.out.mono (by have := HB0.out.size; have := HZ.out; omega))⟩
          have e : k = n.stops.length := HKN.out
          have := HO.out.lower (base' := w.heap.size) (by have := HB0.out.size; have := HZ.out; omega)
          rw [htk, ← HL0.out] at this
          unfold bf
          rw [← e]
          simpa using this
end Go.Proofs.YtlfbbahihenilaaGreat.Ne

namespace Go.Proofs.YtlfbbahihenilaaGreat.Ne
open Go.RowKit Go.V Go.Proofs Go.Sort

set_option maxHeartbeats 4000000 in
set_option maxRecDepth 100000 in
theorem rfar_any (n : Net) (hs hl : Hdr) (a b : Int) (w : World) (h : NetIn w n hs hl) (hok : checkE n = 0) (h60 : hs.n ≤ 60) (h120 : hl.n ≤ 120) :
    Calls Tryz.prog 110 #[n.val hs hl, .int .i64 a, .int .i64 b] w fun e w' => e = .returned (.int .i64 (tfarE n hs.n a b)) ∧ Below w.heap.size w w' := by
  have HH := Lib.hid h
  have HOK := Lib.hid hok
  have hkn : hs.n = n.stops.length := h.s.hlen
  have HKN := Lib.hid hkn
  have HLO : Hid (LinksOk n.links hs.n) := by show LinksOk _ _; rw [hkn]; exact (check_ok hok).2.2.2.2.1
  have HX := Lib.hid (box_new w (n.box hs hl))
  have HB0 : Hid (Below w.heap.size w (w.alloc (n.box hs hl))) := (Below.refl _ _).alloc (Nat.le_refl _) _
  obtain ⟨c0, c1, c2, -, -, -⟩ := box3_cells HX.out
  clear h hok hkn
  by_cases hin : 0 ≤ a ∧ a < hs.n ∧ 0 ≤ b ∧ b < hs.n
  · obtain ⟨h1, h2, h3, h4⟩ := hin
    have he : tfarE n hs.n a b = far n.links hs.n a b := by unfold tfarE; rw [if_pos ⟨h1, h2, h3, h4⟩]
    have HE := Lib.hid he
    clear he
    obtain ⟨p, rfl⟩ : ∃ p : Nat, a = p := ⟨a.toNat, by omega⟩
    obtain ⟨q, rfl⟩ : ∃ q : Nat, b = q := ⟨b.toNat, by omega⟩
    have hp : p < hs.n := by omega
    have hq : q < hs.n := by omega
    have b1 : decide ((p : Int) < 0) = false := by simp
    have b2 : decide ((q : Int) < 0) = false := by simp
    have b3 : decide ((hs.n : Int) ≤ (p : Int)) = false := decide_eq_false (by omega)
    have b4 : decide ((hs.n : Int) ≤ (q : Int)) = false := decide_eq_false (by omega)
    go_enter Tryz.func110, Tryz.ntmps110
    go_wp2_with (go_at_call 118; refine (rfrom_any n hs hl p _ (HH.out.below HB0.out) HOK.out h60 h120 hp).mono ?_; rintro e w1 ⟨o, oc, rfl, ho, hb1⟩; have HB1 := Lib.hid (HB0.out.trans (hb1.mono HB0.out.size)); rw [← HKN.out] at ho; obtain ⟨d, hd, e0, -, e2⟩ := icells ho (bf_len (L := n.links) (k := hs.n) (a := (p : Int))).symm hq; have HD := Lib.hid hd; clear ho hd hb1)
    go_ret
    have e3 := (bf_at (L := n.links) (k := hs.n) (a := (p : Int)) HLO.out (by omega) hq).symm.trans HD.out
    refine ⟨?_, HB1.out⟩
    rw [HE.out, Option.some.inj e3]; rfl
  · have he : tfarE n hs.n a b = -1 := by unfold tfarE; rw [if_neg hin]
    have HE := Lib.hid he
    clear he
    go_enter Tryz.func110, Tryz.ntmps110
    by_cases g1 : a < 0
    · go_wp2_with fail
      go_ret
      exact ⟨by rw [HE.out]; rfl, HB0.out⟩
    · have b1 : decide (a < 0) = false := decide_eq_false g1
      by_cases g2 : b < 0
      · go_wp2_with fail
        go_ret
        exact ⟨by rw [HE.out]; rfl, HB0.out⟩
      · have b2 : decide (b < 0) = false := decide_eq_false g2
        by_cases g3 : (hs.n : Int) ≤ a
        · go_wp2_with fail
          go_ret
          exact ⟨by rw [HE.out]; rfl, HB0.out⟩
        · have b3 : decide ((hs.n : Int) ≤ a) = false := decide_eq_false g3
          have g4 : (hs.n : Int) ≤ b := by omega
          go_wp2_with fail
          go_ret
          exact ⟨by rw [HE.out]; rfl, HB0.out⟩
end Go.Proofs.YtlfbbahihenilaaGreat.Ne

namespace Go.Proofs.YtlfbbahihenilaaGreat.Ne
end Go.Proofs.YtlfbbahihenilaaGreat.Ne
