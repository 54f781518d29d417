/- Networks: the parts by definition, walked: the least one spreads. -/
import Derived.Test.YteihffnmgacfpaaNuP
import Derived.Test.YteihffnmgacfpaaNeO
namespace Go.Proofs.Yteihffnmgacfpaa.Ne
open Go.RowKit Go.V Go.Proofs Go.Sort

set_option maxHeartbeats 8000000 in
set_option maxRecDepth 100000 in
theorem rparts_any (n : Net) (hs hl : Hdr) (w : World) (h : NetIn w n hs hl) (hok : checkE n = 0) :
    Calls Try.prog 28 #[n.val hs hl] w fun e w' => ∃ v, e = .returned v ∧ V.Own 3 icod w.heap.size w' v (lst (sprdN n.links id hs.n) hs.n) ∧ Below w.heap.size w w' := by
  have mixed : Try.prog.follows .mixedOrders = true := by kernel_rfl
  obtain ⟨k1, k2, -, -, k5, -⟩ := check_ok hok
  have HKN := Lib.hid h.s.hlen
  have HLN := Lib.hid h.l.hlen
  obtain ⟨sa, k, sc⟩ := hs
  obtain ⟨la, m, lc⟩ := hl
  have HLK : Hid (LinksOk n.links k) := by
    have e : k = n.stops.length := HKN.out
    show LinksOk _ _
    rw [e]; exact k5
  have hk4 : k ≤ 4096 := by have e : k = n.stops.length := HKN.out; omega
  have hm4 : m ≤ 16384 := by have e : m = n.links.length := HLN.out; omega
  have HX := Lib.hid (box_new w (n.box ⟨sa, k, sc⟩ ⟨la, m, lc⟩))
  have HB0 : Hid (Below w.heap.size w (w.alloc (n.box ⟨sa, k, sc⟩ ⟨la, m, lc⟩))) := (Below.refl _ _).alloc (Nat.le_refl _) _
  have HH : Hid (NetIn (w.alloc (n.box ⟨sa, k, sc⟩ ⟨la, m, lc⟩)) n ⟨sa, k, sc⟩ ⟨la, m, lc⟩) := h.below ((Below.refl _ _).alloc (Nat.le_refl _) _)
  clear h k5 k1 k2 hok
  unfold Net.val
  go_enter Try.func28, Try.ntmps28
  go_upto_region 1 with fail
  obtain ⟨W, hW⟩ : ∃ W, w.alloc (.cells #[.int .i64 n.ver, .slice sa k sc, .slice la m lc] 25) = W := ⟨_, rfl⟩
  unfold Net.box at HX HB0 HH
  rw [hW] at HX HB0 HH ⊢
  obtain ⟨z, hz⟩ : ∃ z, w.heap.size = z := ⟨_, rfl⟩
  rw [hz] at HX HB0 ⊢
  have HZ := Lib.hid hz
  clear hW hz
  obtain ⟨-, c1, c2, -, -, -⟩ := box3_cells HX.out
  have hzW := box_lt HX.out
  have C1 := Lib.hid c1
  have C2 := Lib.hid c2
  clear c1 c2
  go_wp2_with fail
  go_loopw [3, 4] (fun v i wr => ∃ j : Nat, i = .int .i64 j ∧ j ≤ k ∧ Hid (V.Own 3 icod W.heap.size wr v (lst id j)) ∧ Hid (Below W.heap.size W wr)) (fun _ i _ => k - (intOf i).toNat)
  case atStart => exact ⟨0, by go_num, by omega, Own.nil, Below.refl _ _⟩
  case round =>
    obtain ⟨j, rfl, hj, HO, HB⟩ := hrel
    have c1 := (HB.out.cell (p := ⟨z, 1, none⟩) hzW).trans C1.out
    by_cases hlt : j < k
    · have HM1 : Hid ((lst id j).length + 1 ≤ maxLen) := by show _ ≤ _; rw [lst_len]; unfold maxLen; omega
      have HM2 : Hid (((lst id j).length + 1) * 8 ≤ 140737488355328) := by show _ ≤ _; rw [lst_len]; omega
      go_wp2_with (at_builtin; go_loud (refine wpList_app eltI rfl (.tmp 15) (.tmp 17) rfl (base := W.heap.size) _ (lst id j) rfl (HO.out.alloc _) _ 1 1 [(j : Int)] rfl (sl_new (c := icod) _ #[.int .i64 j] 3 [(j : Int)] 1 rfl (by unfold maxLen; omega) rfl) HM1.out HM2.out (by have := HB.out.size; simp; omega) ?_); intro v1 w1 ho hg; have HO1 := Lib.hid ho; have HB1 : Hid (Below W.heap.size W w1) := (HB.out.alloc HB.out.size _).trans (own_below (HO.out.alloc _) hg (by have := HB.out.size; simp; omega)); clear ho hg)
      go_roundw
      case rel =>
        refine ⟨j + 1, by go_num, by omega, ?_, by first | exact Below.drew HB1.out | exact HB1.out⟩
        rw [lst_snoc]; exact HO1.out
      case measure => simp [intOf]; omega
    · have hjk : k = j := by omega
      subst hjk
      by_cases h0 : k = 0
      · subst h0
        obtain ⟨va, vc, hv, -, -⟩ := HO.out.slice
        subst hv
        go_wp2_with fail
        go_loopw [5] (fun i wx => i = .int .i64 0 ∧ Hid (wx = wr)) (fun _ _ => 0)
        case atStart => exact ⟨by go_num, rfl⟩
        case round =>
          obtain ⟨rfl, hwx⟩ := hrel
          have hwx := hwx.out
          subst hwx
          go_wp2_with fail
          go_ret
          refine ⟨_, rfl, HO.out.lower (by have := HB0.out.size; have := HZ.out; omega), by rw [HZ.out]; exact HB0.out.trans (HB.out.mono (by have := HB0.out.size; have := HZ.out; omega))⟩
      obtain ⟨o, oc, cur0, e1, -, -⟩ := own_ne HO.out (by intro e; have := congrArg List.length e; rw [lst_len] at this; simp at this; omega)
      rw [lst_len] at e1
      subst e1
      go_wp2_with fail
      go_loopw [5] (fun i wr => ∃ t : Nat, i = .int .i64 t ∧ t ≤ k ∧ Hid (V.Own 3 icod W.heap.size wr (.slice (some ⟨o, 0, none⟩) k oc) (lst (sprdN n.links id t) k)) ∧ Hid (Below W.heap.size W wr)) (fun i _ => k - (intOf i).toNat)
      case atStart => exact ⟨0, by go_num, by omega, HO.out, HB.out⟩
      case round =>
        clear c1 HO HB
        obtain ⟨t, rfl, ht, HO, HB⟩ := hrel
        have c1 := (HB.out.cell (p := ⟨z, 1, none⟩) hzW).trans C1.out
        by_cases hlt2 : t < k
        · go_wp2_with fail
          go_loopw [6] (fun i wr => ∃ j : Nat, i = .int .i64 j ∧ j ≤ m ∧ Hid (V.Own 3 icod W.heap.size wr (.slice (some ⟨o, 0, none⟩) k oc) (lst ((n.links.take j).foldl sprd (sprdN n.links id t)) k)) ∧ Hid (Below W.heap.size W wr)) (fun i _ => m - (intOf i).toNat)
          case atStart => exact ⟨0, by go_num, by omega, HO.out, HB.out⟩
          case round =>
            obtain ⟨j, rfl, hj3, HO3, HB3⟩ := hrel
            have c2 := (HB3.out.cell (p := ⟨z, 2, none⟩) hzW).trans C2.out
            by_cases hlt3 : j < m
            · obtain ⟨bl, off, l, rfl, hbl, hlj, l0, l1, l2⟩ := lnk_at (HH.out.l.below HB3.out) hlt3
              obtain ⟨q1, q2, q3, q4, q5⟩ := HLK.out l (List.mem_of_getElem? hlj)
              obtain ⟨la, lb, x⟩ := l
              obtain ⟨A, rfl⟩ : ∃ A : Nat, la = A := ⟨la.toNat, by simp at q1; omega⟩
              obtain ⟨B, rfl⟩ : ∃ B : Nat, lb = B := ⟨lb.toNat, by simp at q1 q2; omega⟩
              have hAk : A < k := by simp at q2 q3; omega
              have hBk : B < k := by simp at q3; omega
              have hAB : A < B := by simp at q2; omega
              have HLJ := Lib.hid hlj
              have iA : (A : Int) < (k : Int) := by omega
              have iB : (B : Int) < (k : Int) := by omega
              obtain ⟨cur, hcur⟩ : ∃ cur, (n.links.take j).foldl sprd (sprdN n.links id t) = cur := ⟨_, rfl⟩
              have HNX : Hid ((n.links.take (j + 1)).foldl sprd (sprdN n.links id t) = sprd cur ⟨A, B, x⟩) := by
                show _ = _
                rw [take_at hlj, List.foldl_append, hcur]; rfl
              rw [hcur] at HO3
              have HKC : Hid (k = (lst cur k).length) := (lst_len cur k).symm
              clear q1 q2 q3 q4 q5 hlj hcur
              go_upto_region 13 with fail
              have HOc := Lib.hid (HO3.out.alloc (.cells #[.int .i64 A, .int .i64 B, .int .i64 x] 49))
              have HBc : Hid (Below W.heap.size W (wr.alloc (.cells #[.int .i64 A, .int .i64 B, .int .i64 x] 49))) := HB3.out.alloc HB3.out.size _
              have HYc := Lib.hid (box_new wr (.cells #[.int .i64 A, .int .i64 B, .int .i64 x] 49))
              obtain ⟨y, hy⟩ : ∃ y, wr.heap.size = y := ⟨_, rfl⟩
              have hoy : o ≠ y := by rw [← hy]; exact fun e => by have := (World.ownsRow.lt HO3.out o rfl).2; omega
              have hyo : y ≠ o := fun e => hoy e.symm
              obtain ⟨w9, hw9⟩ : ∃ w9, wr.alloc (.cells #[.int .i64 A, .int .i64 B, .int .i64 x] 49) = w9 := ⟨_, rfl⟩
              rw [hw9] at HOc HBc HYc ⊢
              rw [hy] at HYc ⊢
              clear hw9 hy HO3 HB3 l0 l1 l2 hbl c2
              obtain ⟨du, hdu, p0, pf, p2⟩ := icells HOc.out HKC.out hAk
              obtain ⟨dv, hdv, q0, qf, -⟩ := icells HOc.out HKC.out hBk
              have hdu' := Option.some.inj ((lst_at cur hAk).symm.trans hdu)
              have hdv' := Option.some.inj ((lst_at cur hBk).symm.trans hdv)
              subst hdu' hdv'
              have how := (World.ownsRow.lt HOc.out o rfl).2
              obtain ⟨y0, y1, y2, -, -, -⟩ := box3_cells HYc.out
              have hyw := box_lt HYc.out
              clear hdu hdv
              rcases Nat.lt_trichotomy (cur A) (cur B) with hc | hc | hc
              · have HC := Lib.hid (sprd_lt (x := x) hc)
                have d1 : decide (((cur A : Nat) : Int) < ((cur B : Nat) : Int)) = true := decide_eq_true (by omega)
                obtain ⟨o1, g1⟩ := iset HOc.out HKC.out B ((cur A : Nat) : Int)
                rw [lst_set] at o1
                have HO1 := Lib.hid o1
                have HB1 : Hid (Below W.heap.size W (w9.setCell ⟨o, B, none⟩ (.int .i64 ((cur A : Nat) : Int)))) := HBc.out.trans (own_below HOc.out g1 HBc.out.size)
                have HY1 : Hid ((w9.setCell ⟨o, B, none⟩ (.int .i64 ((cur A : Nat) : Int))).heap[y]? = some (.cells #[.int .i64 A, .int .i64 B, .int .i64 x] 49 (0, 0))) := (g1.block y (box_lt HYc.out) (fun e => hyo (Option.some.inj e))).trans HYc.out
                clear o1 g1
                have d2 : decide (((cur A : Nat) : Int) < ((cur A : Nat) : Int)) = false := decide_eq_false (by omega)
                have Y0 := cell_regrown y0
                go_quiet (fail)
                go_upto_region 14 with fail
                go_region_held3 (fun w' => w'.cell? ⟨y, 0, none⟩ = some (.int .i64 A) ∧ w'.cell? ⟨y, 1, none⟩ = some (.int .i64 B) ∧ w'.cell? ⟨o, A, none⟩ = some (.int .i64 ((cur A : Nat) : Int)))
                    (first | (exact ⟨y0, y1, p0⟩) | (exact ⟨(World.cell?_setCell_far _ _ _ _ hoy).trans y0, (World.cell?_setCell_far _ _ _ _ hoy).trans y1, cell_other p0 (by omega)⟩) | go_keep)
                    (fail)
                all_goals
                  have HO2 : Hid (V.Own 3 icod W.heap.size ((w9.drewN (nq + 1)).setCell ⟨o, B, none⟩ (.int .i64 ((cur A : Nat) : Int))) (.slice (some ⟨o, 0, none⟩) k oc) (lst (upd cur B (cur A)) k)) := HO1.out.below (below_drewN (Below.refl _ _) _)
                  have HB2 : Hid (Below W.heap.size W ((w9.drewN (nq + 1)).setCell ⟨o, B, none⟩ (.int .i64 ((cur A : Nat) : Int)))) := below_drewN HB1.out _
                  have HY2 : Hid (((w9.drewN (nq + 1)).setCell ⟨o, B, none⟩ (.int .i64 ((cur A : Nat) : Int))).heap[y]? = some (.cells #[.int .i64 A, .int .i64 B, .int .i64 x] 49 (0, 0))) := HY1.out
                  have HKC2 : Hid (k = (lst (upd cur B (cur A)) k).length) := (lst_len _ k).symm
                  obtain ⟨X, hX⟩ : ∃ X, (w9.drewN (nq + 1)).setCell ⟨o, B, none⟩ (.int .i64 ((cur A : Nat) : Int)) = X := ⟨_, rfl⟩
                  rw [hX] at HO2 HB2 HY2 ⊢
                  clear hX HO1 HB1 HY1 p0 pf p2 q0 qf how y0 y1 y2 hyw
                  obtain ⟨du, hdu, p0, pf, p2⟩ := icells HO2.out HKC2.out hAk
                  obtain ⟨dv, hdv, q0, qf, -⟩ := icells HO2.out HKC2.out hBk
                  have hdu' := Option.some.inj ((lst_at _ hAk).symm.trans hdu)
                  have hdv' := Option.some.inj ((lst_at _ hBk).symm.trans hdv)
                  rw [upd_other _ _ (show A ≠ B by omega)] at hdu'
                  rw [upd_same] at hdv'
                  subst hdu' hdv'
                  clear hdu hdv
                  obtain ⟨y0, y1, y2, -, -, -⟩ := box3_cells HY2.out
                  go_wp2_with fail
                  go_quiet (fail)
                  go_wp2_with fail
                  go_roundw
                  case rel => exact ⟨j + 1, by go_num, by omega, by show V.Own _ _ _ _ _ _; rw [HNX.out, HC.out]; exact HO2.out.below (below_drewN (Below.refl _ _) _), below_drewN HB2.out _⟩
                  case measure => simp [intOf]; omega
              · have HC := Lib.hid (sprd_eq (x := x) hc.symm)
                have d1 : decide (((cur A : Nat) : Int) < ((cur B : Nat) : Int)) = false := decide_eq_false (by omega)
                have d2 : decide (((cur B : Nat) : Int) < ((cur A : Nat) : Int)) = false := decide_eq_false (by omega)
                go_quiet (fail)
                go_wp2_with fail
                go_quiet (fail)
                go_wp2_with fail
                go_roundw
                case rel => exact ⟨j + 1, by go_num, by omega, by show V.Own _ _ _ _ _ _; rw [HNX.out, HC.out]; exact HOc.out.below (below_drewN (Below.refl _ _) _), below_drewN HBc.out _⟩
                case measure => simp [intOf]; omega
              · have HC := Lib.hid (sprd_gt (x := x) hc)
                have d1 : decide (((cur A : Nat) : Int) < ((cur B : Nat) : Int)) = false := decide_eq_false (by omega)
                have d2 : decide (((cur B : Nat) : Int) < ((cur A : Nat) : Int)) = true := decide_eq_true (by omega)
                obtain ⟨o1, g1⟩ := iset HOc.out HKC.out A ((cur B : Nat) : Int)
                rw [lst_set] at o1
                have HO1 := Lib.hid o1
                have HB1 : Hid (Below W.heap.size W (w9.setCell ⟨o, A, none⟩ (.int .i64 ((cur B : Nat) : Int)))) := HBc.out.trans (own_below HOc.out g1 HBc.out.size)
                clear o1 g1
                go_quiet (fail)
                go_wp2_with fail
                go_quiet (fail)
                go_upto_region 16 with fail
                go_region_held3 (fun w' => w'.cell? ⟨y, 0, none⟩ = some (.int .i64 A) ∧ w'.cell? ⟨y, 1, none⟩ = some (.int .i64 B) ∧ w'.cell? ⟨o, B, none⟩ = some (.int .i64 ((cur B : Nat) : Int)))
                    (first | (exact ⟨y0, y1, q0⟩) | (exact ⟨(World.cell?_setCell_far _ _ _ _ hoy).trans y0, (World.cell?_setCell_far _ _ _ _ hoy).trans y1, cell_other q0 (by omega)⟩) | go_keep)
                    (fail)
                all_goals
                  go_wp2_with fail
                  go_roundw
                  case rel => exact ⟨j + 1, by go_num, by omega, by show V.Own _ _ _ _ _ _; rw [HNX.out, HC.out]; exact HO1.out.below (below_drewN (Below.refl _ _) _), below_drewN HB1.out _⟩
                  case measure => simp [intOf]; omega
            · have hjm : m = j := by omega
              subst hjm
              go_wp2_with fail
              go_roundw
              case rel =>
                refine ⟨t + 1, by go_num, by omega, ?_, HB3.out⟩
                have := HO3.out
                rw [List.take_of_length_le (by rw [← HLN.out]; exact Nat.le_refl _)] at this
                exact this
              case measure => simp [intOf]; omega
        · have htk : t = k := by omega
          subst htk
          go_wp2_with fail
          go_ret
          refine ⟨_, rfl, HO.out.lower (by have := HB0.out.size; have := HZ.out; omega), by rw [HZ.out]; exact HB0.out.trans (HB.out.mono (by have := HB0.out.size; have := HZ.out; omega))⟩
end Go.Proofs.Yteihffnmgacfpaa.Ne
