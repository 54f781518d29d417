/- Costs: a sequence's cost by definition, walked. -/
import Derived.Test.YthhpgahnhpgmeaaNoD
namespace Go.Proofs.Ythhpgahnhpgmeaa.Ne
open Go.RowKit Go.V Go.Proofs Go.Sort Go.Maps

set_option maxHeartbeats 8000000 in
set_option maxRecDepth 100000 in
theorem rseq_any (w : World) (n : Net) (hs hl : Hdr) (x : Wgh) (hp hq : Hdr) (gs : List (List Pnt)) (ss : List Int)
    (h : NetIn w n hs hl) (hok : checkE n = 0) (h60 : hs.n ≤ 60) (h120 : hl.n ≤ 120) (hP : PtsIn w hp.a hp.n hp.cap gs) (hS : SlQ icod w hq.a hq.n hq.cap ss) :
    Calls Try.prog 54 #[n.val hs hl, x.val, .slice hp.a hp.n hp.cap, .slice hq.a hq.n hq.cap] w fun e w' => e = .returned (.int .i64 (seqE n hs.n x gs ss)) ∧ Below w.heap.size w w' := by
  have mixed : Try.prog.follows .mixedOrders = true := by kernel_rfl
  obtain ⟨xr, xm, xf, xc⟩ := x
  obtain ⟨pa, pn, pc⟩ := hp
  obtain ⟨qa, qn, qc⟩ := hq
  obtain ⟨sa, k, sc⟩ := hs
  obtain ⟨la, m, lc⟩ := hl
  have hkn : k = n.stops.length := h.s.hlen
  have hln : m = n.links.length := h.l.hlen
  have h60 : k ≤ 60 := h60
  have h120 : m ≤ 120 := h120
  have hpl : pn = gs.length := hP.len.1
  have hp9 : pn ≤ 9223372036854775807 := hP.len.2
  have hql : qn = ss.length := hS.hlen
  have hq9 : qn ≤ 9223372036854775807 := by have h1 : qn ≤ qc := hS.hcap; have h2 : qc ≤ maxLen := hS.hmax; unfold maxLen at h2; omega
  have HSE : Hid (seqE n k ⟨xr, xm, xf, xc⟩ gs ss = if pn = qn ∧ pn ≤ 2048 ∧ mayW ⟨xr, xm, xf, xc⟩ = true then sumGo (costAt n k ⟨xr, xm, xf, xc⟩ gs ss) qn 0 0 else -1) := by show _ = _; unfold seqE; rw [← hpl, ← hql]
  have HWI := Lib.hid (fun i => wayE_in hok hkn h60 (by omega) ⟨xr, xm, xf, xc⟩ ss i)
  have HCI := Lib.hid (fun i => costAt_in hok hkn h60 (by omega) ⟨xr, xm, xf, xc⟩ gs ss i)
  obtain ⟨W, hWe⟩ : ∃ W, (w.alloc (n.box ⟨sa, k, sc⟩ ⟨la, m, lc⟩)).alloc (Wgh.mk xr xm xf xc).box = W := ⟨_, rfl⟩
  have HB : Hid (Below w.heap.size w W) := by
    rw [← hWe]; exact ((Below.refl _ _).alloc (Nat.le_refl _) _).alloc (by simp) _
  have HXN : Hid (W.heap[w.heap.size]? = some (n.box ⟨sa, k, sc⟩ ⟨la, m, lc⟩)) := by show _ = _; rw [← hWe]; exact box_alloc (box_new _ _)
  have HXW : Hid (W.heap[w.heap.size + 1]? = some (Wgh.mk xr xm xf xc).box) := by
    show _ = _
    rw [← hWe]
    have := box_new (w.alloc (n.box ⟨sa, k, sc⟩ ⟨la, m, lc⟩)) (Wgh.mk xr xm xf xc).box
    simpa using this
  obtain ⟨x0, x1, x2, x3⟩ := box4_cells HXW.out
  have HH := Lib.hid (h.below HB.out)
  have HOK := Lib.hid hok
  have HP := Lib.hid (hP.below HB.out)
  have HS := Lib.hid (hS.below HB.out)
  clear h hok hP hS hpl hql hkn hln
  go_enter Try.func54, Try.ntmps54
  by_cases c1 : pn = qn
  case neg =>
    have c1i : (pn : Int) ≠ (qn : Int) := by omega
    have d1 : ((pn : Int) == (qn : Int)) = false := by simpa using c1i
    have HE : Hid (seqE n k ⟨xr, xm, xf, xc⟩ gs ss = -1) := by show _ = _; rw [HSE.out, if_neg (fun q => c1 q.1)]
    go_wp2_with fail
    go_ret
    exact ⟨by rw [HE.out]; rfl, HB.out⟩
  case pos =>
    subst c1
    by_cases c2 : 2048 < pn
    · have d2 : decide (2048 < (pn : Int)) = true := decide_eq_true (by omega)
      have HE : Hid (seqE n k ⟨xr, xm, xf, xc⟩ gs ss = -1) := by show _ = _; rw [HSE.out, if_neg (fun q => by omega)]
      go_wp2_with fail
      go_ret
      exact ⟨by rw [HE.out]; rfl, HB.out⟩
    · have d2 : decide (2048 < (pn : Int)) = false := decide_eq_false (by omega)
      obtain ⟨bm, hbm⟩ : ∃ bm, mayW ⟨xr, xm, xf, xc⟩ = bm := ⟨_, rfl⟩
      have HBM := Lib.hid hbm
      clear hbm
      cases bm with
      | false =>
        have HE : Hid (seqE n k ⟨xr, xm, xf, xc⟩ gs ss = -1) := by show _ = _; rw [HSE.out, if_neg (fun q => by rw [HBM.out] at q; simp at q)]
        go_wp2_with (go_at_call 52; refine (rcmay_any ⟨xr, xm, xf, xc⟩ _).mono ?_; rintro e w3 ⟨rfl, hb3⟩; rw [HBM.out]; have HB3 := Lib.hid (HB.out.trans (hb3.mono HB.out.size)); clear hb3)
        go_ret
        exact ⟨by rw [HE.out]; rfl, HB3.out⟩
      | true =>
        obtain ⟨r, hr⟩ : ∃ r, sumGo (costAt n k ⟨xr, xm, xf, xc⟩ gs ss) (pn - 0) 0 0 = r := ⟨_, rfl⟩
        have HE : Hid (seqE n k ⟨xr, xm, xf, xc⟩ gs ss = r) := by show _ = _; rw [HSE.out, if_pos ⟨rfl, by omega, HBM.out⟩]; exact hr
        have HR := Lib.hid hr
        clear hr
        go_wp2_with (go_at_call 52; refine (rcmay_any ⟨xr, xm, xf, xc⟩ _).mono ?_; rintro e w3 ⟨rfl, hb3⟩; rw [HBM.out]; have HB3 : Hid (Below W.heap.size W w3) := hb3; clear hb3)
        clear x0 x1 x2 x3
        go_loopw [9, 10] (fun va i wr => ∃ (j : Nat) (all : Int), i = .int .i64 j ∧ j ≤ pn ∧ va = .int .i64 all ∧ 0 ≤ all ∧ all ≤ (j : Int) * 16561380196352 ∧ Hid (sumGo (costAt n k ⟨xr, xm, xf, xc⟩ gs ss) (pn - j) j all = r) ∧ Hid (Below W.heap.size W wr)) (fun _ i _ => pn - (intOf i).toNat)
        case atStart => exact ⟨0, 0, by go_num, by omega, rfl, by omega, by omega, HR.out, HB3.out⟩
        case round =>
          obtain ⟨j, all, rfl, hj, rfl, ha1, ha2, HRJ, HBJ⟩ := hrel
          by_cases hlt : j < pn
          · have hb2 : (j : Int) * 16561380196352 ≤ 33917706642128896 := by omega
            obtain ⟨pb, po, ph, g, e1, hpbl, hg, hpc, hpq⟩ := (HP.out.below HBJ.out).at hlt
            obtain ⟨pha, phn, phc⟩ := ph
            subst e1
            obtain ⟨qb, qo, s, e2, hqbl, hs', hqc⟩ := int_atq (HS.out.below HBJ.out) (i := j) hlt
            subst e2
            have HPQ := Lib.hid hpq
            have hpt : ptE (gs.getD j []) (ss.getD j 0) = ptE g s := by rw [getD_of hg, getD_of hs']
            have HPT := Lib.hid hpt
            have HSI := Lib.hid hs'
            obtain ⟨⟨qq, qbb⟩, hqq⟩ : ∃ q, sqE g s = q := ⟨_, rfl⟩
            have HQ := Lib.hid hqq
            have hptq : ptE g s = if qbb = true ∧ 0 ≤ qq ∧ qq ≤ 1099511627776 then qq else -1 := by unfold ptE; rw [hqq]
            have HPQ2 := Lib.hid hptq
            have hji : (j : Int) < (pn : Int) := by omega
            have hPQw : wr.cell? ⟨pb, po + j, none⟩ = some (.slice pha phn phc) := hpc
            clear hpq hpt hs' hqq hptq hg hpc
            go_upto_region 7 with fail
            go_region_held3 (fun w' => w'.cell? ⟨pb, po + j, none⟩ = some (.slice pha phn phc) ∧ w'.cell? ⟨qb, qo + j, none⟩ = some (.int .i64 s))
              (go_keep)
              ((go_at_call 84; go_loud (refine (rsquare_any pha phn phc g s _ (HPQ.out.below (Below.drew (Below.refl _ _)))).mono ?_); rintro e w4 ⟨rfl, rfl⟩; rw [HQ.out]))
            have HBX : Hid (Below W.heap.size W wr.drew) := HBJ.out.trans (Below.drew (Below.refl _ _))
            obtain ⟨X, hX⟩ : ∃ X, wr.drew = X := ⟨_, rfl⟩
            rw [hX] at HBX ⊢
            clear hX hqc hPQw
            have hneg : ptE g s < 0 → r = -1 := fun hh => sumGo_neg HRJ.out hlt (by rw [costAt_neg1 (by rw [HPT.out]; exact hh)]; omega)
            have HNG := Lib.hid hneg
            clear hneg
            cases qbb with
            | false =>
              have HLT := Lib.hid (HNG.out (by rw [HPQ2.out]; simp))
              go_wp2_with fail
              go_ret
              exact ⟨by rw [HE.out, HLT.out]; rfl, HB.out.trans (HBX.out.mono HB.out.size)⟩
            | true =>
              by_cases c3 : qq < 0
              · have HLT := Lib.hid (HNG.out (by rw [HPQ2.out, if_neg (by omega)]; omega))
                go_wp2_with fail
                go_ret
                exact ⟨by rw [HE.out, HLT.out]; rfl, HB.out.trans (HBX.out.mono HB.out.size)⟩
              · have d3 : decide (qq < 0) = false := decide_eq_false c3
                by_cases c4 : 1099511627776 < qq
                · have HLT := Lib.hid (HNG.out (by rw [HPQ2.out, if_neg (by omega)]; omega))
                  go_wp2_with fail
                  go_ret
                  exact ⟨by rw [HE.out, HLT.out]; rfl, HB.out.trans (HBX.out.mono HB.out.size)⟩
                · have d4 : decide (1099511627776 < qq) = false := decide_eq_false c4
                  have hpe : ptE g s = qq := by rw [HPQ2.out, if_pos ⟨rfl, by omega, by omega⟩]
                  have HPE := Lib.hid hpe
                  clear hpe HNG
                  by_cases c0 : j = 0
                  · subst c0
                    have hw : wayE n k ⟨xr, xm, xf, xc⟩ ss 0 = 0 := rfl
                    have HCO : Hid (costAt n k ⟨xr, xm, xf, xc⟩ gs ss 0 = qq) := by show _ = _; rw [costAt_pos (by rw [HPT.out, HPE.out]; omega) (by rw [hw]; omega), HPT.out, HPE.out, hw, Int.add_zero]
                    clear hw
                    have HGO := Lib.hid (sumGo_go HRJ.out hlt (by rw [HCO.out]; exact c3))
                    go_wp2_with fail
                    go_roundw
                    case rel => exact ⟨1, all + qq, by go_num, by omega, by go_num, by omega, by omega, by have := HGO.out; rw [HCO.out] at this; exact this, HBX.out⟩
                    case measure => simp [intOf]; omega
                  · obtain ⟨i, hi⟩ : ∃ i, j = i + 1 := ⟨j - 1, by omega⟩
                    subst hi
                    have di : decide (0 < ((i : Int) + 1)) = true := decide_eq_true (by omega)
                    obtain ⟨qb2, qo2, s', e2, hqbl2, hs', hqc0⟩ := int_atq (HS.out.below HBX.out) (i := i) (by show i < pn; omega)
                    cases e2
                    obtain ⟨qb2', qo2', s2, e3, hqbl3, hs2, hqc1⟩ := int_atq (HS.out.below HBX.out) (i := i + 1) hlt
                    cases e3
                    have e4 := hs2.symm.trans HSI.out
                    cases e4
                    clear hs2 hqbl3
                    have HXN2 := Lib.hid (box_below HXN.out HBX.out)
                    have HXW2 := Lib.hid (box_below HXW.out HBX.out)
                    obtain ⟨n0, n1, n2, -, -, -⟩ := box3_cells HXN2.out
                    obtain ⟨x0, x1, x2, x3⟩ := box4_cells HXW2.out
                    have hiq : (i : Int) < (pn : Int) := by omega
                    have hi1 : (i : Int) + 1 < (pn : Int) := by omega
                    have hi0 : (0 : Int) ≤ (i : Int) + 1 := by omega
                    have hitn : ((i : Int) + 1).toNat = i + 1 := by omega
                    have hwj : IntKind.i64.wrap (i : Int) = (i : Int) := IntWalk.i64_in _ (by omega)
                    have hwe : wayE n k ⟨xr, xm, xf, xc⟩ ss (i + 1) = stepE n k ⟨xr, xm, xf, xc⟩ s' s := by unfold wayE; rw [if_neg c0, getD_of (show ss[i + 1 - 1]? = some s' by rw [Nat.add_sub_cancel]; exact hs'), getD_of HSI.out]
                    obtain ⟨st, hst⟩ : ∃ st, stepE n k ⟨xr, xm, xf, xc⟩ s' s = st := ⟨_, rfl⟩
                    rw [hst] at hwe
                    have HST := Lib.hid hst
                    have HWE := Lib.hid hwe
                    have hsti : -1 ≤ st ∧ st ≤ 15461868568576 := by rw [← hwe]; exact HWI.out (i + 1)
                    clear hs' hst hwe
                    go_upto_region 12 with fail
                    go_region_held3 (fun w' => w'.cell? ⟨w.heap.size, 0, none⟩ = some (.int .i64 n.ver) ∧ w'.cell? ⟨w.heap.size, 1, none⟩ = some (.slice sa k sc) ∧ w'.cell? ⟨w.heap.size, 2, none⟩ = some (.slice la m lc) ∧ w'.cell? ⟨w.heap.size + 1, 0, none⟩ = some (.int .i64 xr) ∧ w'.cell? ⟨w.heap.size + 1, 1, none⟩ = some (.int .i64 xm) ∧ w'.cell? ⟨w.heap.size + 1, 2, none⟩ = some (.int .i64 xf) ∧ w'.cell? ⟨w.heap.size + 1, 3, none⟩ = some (.int .i64 xc) ∧ w'.cell? ⟨qb, qo + i, none⟩ = some (.int .i64 s') ∧ w'.cell? ⟨qb, qo + (i + 1), none⟩ = some (.int .i64 s))
                      (first | go_keep | (exact ⟨m0, m1, m2, y0, y1, y2, y3, q1, q2⟩))
                      ((go_at_call 85; go_loud (refine (rstep_any n ⟨sa, k, sc⟩ ⟨la, m, lc⟩ ⟨xr, xm, xf, xc⟩ s' s _ (HH.out.below (HBX.out.trans (Below.drew (Below.refl _ _)))) HOK.out h60 h120).mono ?_); rintro e w5 ⟨rfl, hb5⟩; rw [HST.out]; have hb5' : Below X.heap.size X w5 := (Below.drew (Below.refl _ _)).trans hb5; have HB5 := Lib.hid (HBX.out.trans (hb5'.mono HBX.out.size)); have HXN5 := Lib.hid (box_below HXN2.out hb5'); have HXW5 := Lib.hid (box_below HXW2.out hb5'); obtain ⟨m0, m1, m2, -, -, -⟩ := box3_cells HXN5.out; obtain ⟨y0, y1, y2, y3⟩ := box4_cells HXW5.out; have q1 : w5.cell? ⟨qb, qo + i, none⟩ = some (.int .i64 s') := ((bcell hb5').1 qb _ hqbl2).trans hqc0; have q2 : w5.cell? ⟨qb, qo + (i + 1), none⟩ = some (.int .i64 s) := ((bcell hb5').1 qb _ hqbl2).trans hqc1; clear hb5 hb5'))
                    all_goals
                      by_cases c5 : st < 0
                      · have HRN := Lib.hid (sumGo_neg HRJ.out hlt (by rw [costAt_neg2 (by rw [HWE.out]; omega)]; omega))
                        go_wp2_with fail
                        go_ret
                        exact ⟨by rw [HE.out, HRN.out]; rfl, HB.out.trans (HB5.out.mono HB.out.size)⟩
                      · have d5 : decide (st < 0) = false := decide_eq_false c5
                        have HCO : Hid (costAt n k ⟨xr, xm, xf, xc⟩ gs ss (i + 1) = qq + st) := by show _ = _; rw [costAt_pos (by rw [HPT.out, HPE.out]; omega) (by rw [HWE.out]; omega), HPT.out, HPE.out, HWE.out]
                        have HGO := Lib.hid (sumGo_go HRJ.out hlt (by rw [HCO.out]; omega))
                        go_wp2_with fail
                        go_roundw
                        case rel => exact ⟨i + 1 + 1, all + qq + st, by go_num, by omega, by go_num, by omega, by rw [Int.natCast_add, Int.add_mul]; omega, by have := HGO.out; rw [HCO.out, ← Int.add_assoc] at this; exact this, HB5.out⟩
                        case measure => simp [intOf]; omega
          · have hjk : pn = j := by omega
            subst hjk
            have HEN := Lib.hid (sumGo_end HRJ.out)
            go_wp2_with fail
            go_ret
            exact ⟨by rw [HE.out, ← HEN.out]; rfl, HB.out.trans (HBJ.out.mono HB.out.size)⟩
end Go.Proofs.Ythhpgahnhpgmeaa.Ne
