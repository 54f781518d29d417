/- Costs: a sequence's cost by definition, walked. -/
/- Networks: viterbi: whether rows may be, and how many sequences there are, by definition: walked. -/
/- Networks: viterbi: the best sequence, and what is left, by definition: walked. -/
import Derived.Test.YtlfbbahihenilaaGreatMg21
import Derived.Test.YtlfbbahihenilaaGreatMg24
namespace Go.Proofs.YtlfbbahihenilaaGreat.Ne
open Go.RowKit Go.V Go.Proofs Go.Sort Go.Maps

set_option maxHeartbeats 8000000 in
set_option maxRecDepth 100000 in
theorem rseq_any (w : World) (n : Net) (hs hl : Hdr) (x : Wgh) (hp hq : Hdr) (gs : List (List Pnt)) (ss : List Int)
    (h : NetIn w n hs hl) (hok : checkE n = 0) (h60 : hs.n ≤ 60) (h120 : hl.n ≤ 120) (hP : PtsIn w hp.a hp.n hp.cap gs) (hS : SlQ icod w hq.a hq.n hq.cap ss) :
    Calls Tryz.prog 63 #[n.val hs hl, x.val, .slice hp.a hp.n hp.cap, .slice hq.a hq.n hq.cap] w fun e w' => e = .returned (.int .i64 (seqE n hs.n x gs ss)) ∧ Below w.heap.size w w' := by
  have mixed : Tryz.prog.follows .mixedOrders = true := by kernel_rfl
  obtain ⟨xr, xm, xf, xc⟩ := x
  obtain ⟨pa, pn, pc⟩ := hp
  obtain ⟨qa, qn, qc⟩ := hq
  obtain ⟨sa, k, sc⟩ := hs
  obtain ⟨la, m, lc⟩ := hl
  have hkn : k = n.stops.length := h.s.hlen
  have hln : m = n.links.length := h.l.hlen
  have h60 : k ≤ 60 := h60
  have h120 : m ≤ 120 := h120
  have hpl : pn = gs.length := hP.len.1
  have hp9 : pn ≤ 9223372036854775807 := hP.len.2
  have hql : qn = ss.length := hS.hlen
  have hq9 : qn ≤ 9223372036854775807 := by have h1 : qn ≤ qc := hS.hcap; have h2 : qc ≤ maxLen := hS.hmax; unfold maxLen at h2; omega
  have HSE : Hid (seqE n k ⟨xr, xm, xf, xc⟩ gs ss = if pn = qn ∧ pn ≤ 2048 ∧ mayW ⟨xr, xm, xf, xc⟩ = true then sumGo (costAt n k ⟨xr, xm, xf, xc⟩ gs ss) qn 0 0 else -1) := by show _ = _; unfold seqE; rw [← hpl, ← hql]
  have HWI := Lib.hid (fun i => wayE_in hok hkn h60 (by omega) ⟨xr, xm, xf, xc⟩ ss i)
  have HCI := Lib.hid (fun i => costAt_in hok hkn h60 (by omega) ⟨xr, xm, xf, xc⟩ gs ss i)
  obtain ⟨W, hWe⟩ : ∃ W, (w.alloc (n.box ⟨sa, k, sc⟩ ⟨la, m, lc⟩)).alloc (Wgh.mk xr xm xf xc).box = W := ⟨_, rfl⟩
  have HB : Hid (Below w.heap.size w W) := by
    rw [← hWe]; exact ((Below.refl _ _).alloc (Nat.le_refl _) _).alloc (by simp) _
  have HXN : Hid (W.heap[w.heap.size]? = some (n.box ⟨sa, k, sc⟩ ⟨la, m, lc⟩)) := by show _ = _; rw [← hWe]; exact box_alloc (box_new _ _)
  have HXW : Hid (W.heap[w.heap.size + 1]? = some (Wgh.mk xr xm xf xc).box) := by
    show _ = _
    rw [← hWe]
    have := box_new (w.alloc (n.box ⟨sa, k, sc⟩ ⟨la, m, lc⟩)) (Wgh.mk xr xm xf xc).box
    simpa using this
  obtain ⟨x0, x1, x2, x3⟩ := box4_cells HXW.out
  have HH := Lib.hid (h.below HB.out)
  have HOK := Lib.hid hok
  have HP := Lib.hid (hP.below HB.out)
  have HS := Lib.hid (hS.below HB.out)
  clear h hok hP hS hpl hql hkn hln
  go_enter Tryz.func63, Tryz.ntmps63
  by_cases c1 : pn = qn
  case neg =>
    have c1i : (pn : Int) ≠ (qn : Int) := by omega
    have d1 : ((pn : Int) == (qn : Int)) = false := by simpa using c1i
    have HE : Hid (seqE n k ⟨xr, xm, xf, xc⟩ gs ss = -1) := by show _ = _; rw [HSE.out, if_neg (fun q => c1 q.1)]
    go_wp2_with fail
    go_ret
    exact ⟨by rw [HE.out]; rfl, HB.out⟩
  case pos =>
    subst c1
    by_cases c2 : 2048 < pn
    · have d2 : decide (2048 < (pn : Int)) = true := decide_eq_true (by omega)
      have HE : Hid (seqE n k ⟨xr, xm, xf, xc⟩ gs ss = -1) := by show _ = _; rw [HSE.out, if_neg (fun q => by omega)]
      go_wp2_with fail
      go_ret
      exact ⟨by rw [HE.out]; rfl, HB.out⟩
    · have d2 : decide (2048 < (pn : Int)) = false := decide_eq_false (by omega)
      obtain ⟨bm, hbm⟩ : ∃ bm, mayW ⟨xr, xm, xf, xc⟩ = bm := ⟨_, rfl⟩
      have HBM := Lib.hid hbm
      clear hbm
      cases bm with
      | false =>
        have HE : Hid (seqE n k ⟨xr, xm, xf, xc⟩ gs ss = -1) := by show _ = _; rw [HSE.out, if_neg (fun q => by rw [HBM.out] at q; simp at q)]
        go_wp2_with (go_at_call 31; refine (rcmay_any ⟨xr, xm, xf, xc⟩ _).mono ?_; rintro e w3 ⟨rfl, hb3⟩; rw [HBM.out]; have HB3 := Lib.hid (HB.out.trans (hb3.mono HB.out.size)); clear hb3)
        go_ret
        exact ⟨by rw [HE.out]; rfl, HB3.out⟩
      | true =>
        obtain ⟨r, hr⟩ : ∃ r, sumGo (costAt n k ⟨xr, xm, xf, xc⟩ gs ss) (pn - 0) 0 0 = r := ⟨_, rfl⟩
        have HE : Hid (seqE n k ⟨xr, xm, xf, xc⟩ gs ss = r) := by show _ = _; rw [HSE.out, if_pos ⟨rfl, by omega, HBM.out⟩]; exact hr
        have HR := Lib.hid hr
        clear hr
        go_wp2_with (go_at_call 31; refine (rcmay_any ⟨xr, xm, xf, xc⟩ _).mono ?_; rintro e w3 ⟨rfl, hb3⟩; rw [HBM.out]; have HB3 : Hid (Below W.heap.size W w3) := hb3; clear hb3)
        clear x0 x1 x2 x3
        go_loopw [9, 10] (fun va i wr => ∃ (j : Nat) (all : Int), i = .int .i64 j ∧ j ≤ pn ∧ va = .int .i64 all ∧ 0 ≤ all ∧ all ≤ (j : Int) * 16561380196352 ∧ Hid (sumGo (costAt n k ⟨xr, xm, xf, xc⟩ gs ss) (pn - j) j all = r) ∧ Hid (Below W.heap.size W wr)) (fun _ i _ => pn - (intOf i).toNat)
        case atStart => exact ⟨0, 0, by go_num, by omega, rfl, by omega, by omega, HR.out, HB3.out⟩
        case round =>
          obtain ⟨j, all, rfl, hj, rfl, ha1, ha2, HRJ, HBJ⟩ := hrel
          by_cases hlt : j < pn
          · have hb2 : (j : Int) * 16561380196352 ≤ 33917706642128896 := by omega
            obtain ⟨pb, po, ph, g, e1, hpbl, hg, hpc, hpq⟩ := (HP.out.below HBJ.out).at hlt
            obtain ⟨pha, phn, phc⟩ := ph
            subst e1
            obtain ⟨qb, qo, s, e2, hqbl, hs', hqc⟩ := int_atq (HS.out.below HBJ.out) (i := j) hlt
            subst e2
            have HPQ := Lib.hid hpq
            have hpt : ptE (gs.getD j []) (ss.getD j 0) = ptE g s := by rw [getD_of hg, getD_of hs']
            have HPT := Lib.hid hpt
            have HSI := Lib.hid hs'
            obtain ⟨⟨qq, qbb⟩, hqq⟩ : ∃ q, sqE g s = q := ⟨_, rfl⟩
            have HQ := Lib.hid hqq
            have hptq : ptE g s = if qbb = true ∧ 0 ≤ qq ∧ qq ≤ 1099511627776 then qq else -1 := by unfold ptE; rw [hqq]
            have HPQ2 := Lib.hid hptq
            have hji : (j : Int) < (pn : Int) := by omega
            have hPQw : wr.cell? ⟨pb, po + j, none⟩ = some (.slice pha phn phc) := hpc
            clear hpq hpt hs' hqq hptq hg hpc
            go_upto_region 7 with fail
            go_region_held3 (fun w' => w'.cell? ⟨pb, po + j, none⟩ = some (.slice pha phn phc) ∧ w'.cell? ⟨qb, qo + j, none⟩ = some (.int .i64 s))
              (go_keep)
              ((go_at_call 92; go_loud (refine (rsquare_any pha phn phc g s _ (HPQ.out.below (Below.drew (Below.refl _ _)))).mono ?_); rintro e w4 ⟨rfl, rfl⟩; rw [HQ.out]))
            have HBX : Hid (Below W.heap.size W wr.drew) := HBJ.out.trans (Below.drew (Below.refl _ _))
            obtain ⟨X, hX⟩ : ∃ X, wr.drew = X := ⟨_, rfl⟩
            rw [hX] at HBX ⊢
            clear hX hqc hPQw
            have hneg : ptE g s < 0 → r = -1 := fun hh => sumGo_neg HRJ.out hlt (by rw [costAt_neg1 (by rw [HPT.out]; exact hh)]; omega)
            have HNG := Lib.hid hneg
            clear hneg
            cases qbb with
            | false =>
              have HLT := Lib.hid (HNG.out (by rw [HPQ2.out]; simp))
              go_wp2_with fail
              go_ret
              exact ⟨by rw [HE.out, HLT.out]; rfl, HB.out.trans (HBX.out.mono HB.out.size)⟩
            | true =>
              by_cases c3 : qq < 0
              · have HLT := Lib.hid (HNG.out (by rw [HPQ2.out, if_neg (by omega)]; omega))
                go_wp2_with fail
                go_ret
                exact ⟨by rw [HE.out, HLT.out]; rfl, HB.out.trans (HBX.out.mono HB.out.size)⟩
              · have d3 : decide (qq < 0) = false := decide_eq_false c3
                by_cases c4 : 1099511627776 < qq
                · have HLT := Lib.hid (HNG.out (by rw [HPQ2.out, if_neg (by omega)]; omega))
                  go_wp2_with fail
                  go_ret
                  exact ⟨by rw [HE.out, HLT.out]; rfl, HB.out.trans (HBX.out.mono HB.out.size)⟩
                · have d4 : decide (1099511627776 < qq) = false := decide_eq_false c4
                  have hpe : ptE g s = qq := by rw [HPQ2.out, if_pos ⟨rfl, by omega, by omega⟩]
                  have HPE := Lib.hid hpe
                  clear hpe HNG
                  by_cases c0 : j = 0
                  · subst c0
                    have hw : wayE n k ⟨xr, xm, xf, xc⟩ ss 0 = 0 := rfl
                    have HCO : Hid (costAt n k ⟨xr, xm, xf, xc⟩ gs ss 0 = qq) := by show _ = _; rw [costAt_pos (by rw [HPT.out, HPE.out]; omega) (by rw [hw]; omega), HPT.out, HPE.out, hw, Int.add_zero]
                    clear hw
                    have HGO := Lib.hid (sumGo_go HRJ.out hlt (by rw [HCO.out]; exact c3))
                    go_wp2_with fail
                    go_roundw
                    case rel => exact ⟨1, all + qq, by go_num, by omega, by go_num, by omega, by omega, by have := HGO.out; rw [HCO.out] at this; exact this, HBX.out⟩
                    case measure => simp [intOf]; omega
                  · obtain ⟨i, hi⟩ : ∃ i, j = i + 1 := ⟨j - 1, by omega⟩
                    subst hi
                    have di : decide (0 < ((i : Int) + 1)) = true := decide_eq_true (by omega)
                    obtain ⟨qb2, qo2, s', e2, hqbl2, hs', hqc0⟩ := int_atq (HS.out.below HBX.out) (i := i) (by show i < pn; omega)
                    cases e2
                    obtain ⟨qb2', qo2', s2, e3, hqbl3, hs2, hqc1⟩ := int_atq (HS.out.below HBX.out) (i := i + 1) hlt
                    cases e3
                    have e4 := hs2.symm.trans HSI.out
                    cases e4
                    clear hs2 hqbl3
                    have HXN2 := Lib.hid (box_below HXN.out HBX.out)
                    have HXW2 := Lib.hid (box_below HXW.out HBX.out)
                    obtain ⟨n0, n1, n2, -, -, -⟩ := box3_cells HXN2.out
                    obtain ⟨x0, x1, x2, x3⟩ := box4_cells HXW2.out
                    have hiq : (i : Int) < (pn : Int) := by omega
                    have hi1 : (i : Int) + 1 < (pn : Int) := by omega
                    have hi0 : (0 : Int) ≤ (i : Int) + 1 := by omega
                    have hitn : ((i : Int) + 1).toNat = i + 1 := by omega
                    have hwj : IntKind.i64.wrap (i : Int) = (i : Int) := IntWalk.i64_in _ (by omega)
                    have hwe : wayE n k ⟨xr, xm, xf, xc⟩ ss (i + 1) = stepE n k ⟨xr, xm, xf, xc⟩ s' s := by unfold wayE; rw [if_neg c0, getD_of (show ss[i + 1 - 1]? = some s' by rw [Nat.add_sub_cancel]; exact hs'), getD_of HSI.out]
                    obtain ⟨st, hst⟩ : ∃ st, stepE n k ⟨xr, xm, xf, xc⟩ s' s = st := ⟨_, rfl⟩
                    rw [hst] at hwe
                    have HST := Lib.hid hst
                    have HWE := Lib.hid hwe
                    have hsti : -1 ≤ st ∧ st ≤ 15461868568576 := by rw [← hwe]; exact HWI.out (i + 1)
                    clear hs' hst hwe
                    go_upto_region 12 with fail
                    go_region_held3 (fun w' => w'.cell? ⟨w.heap.size, 0, none⟩ = some (.int .i64 n.ver) ∧ w'.cell? ⟨w.heap.size, 1, none⟩ = some (.slice sa k sc) ∧ w'.cell? ⟨w.heap.size, 2, none⟩ = some (.slice la m lc) ∧ w'.cell? ⟨w.heap.size + 1, 0, none⟩ = some (.int .i64 xr) ∧ w'.cell? ⟨w.heap.size + 1, 1, none⟩ = some (.int .i64 xm) ∧ w'.cell? ⟨w.heap.size + 1, 2, none⟩ = some (.int .i64 xf) ∧ w'.cell? ⟨w.heap.size + 1, 3, none⟩ = some (.int .i64 xc) ∧ w'.cell? ⟨qb, qo + i, none⟩ = some (.int .i64 s') ∧ w'.cell? ⟨qb, qo + (i + 1), none⟩ = some (.int .i64 s))
                      (first | go_keep | (exact ⟨m0, m1, m2, y0, y1, y2, y3, q1, q2⟩))
                      ((go_at_call 93; go_loud (refine (rstep_any n ⟨sa, k, sc⟩ ⟨la, m, lc⟩ ⟨xr, xm, xf, xc⟩ s' s _ (HH.out.below (HBX.out.trans (Below.drew (Below.refl _ _)))) HOK.out h60 h120).mono ?_); rintro e w5 ⟨rfl, hb5⟩; rw [HST.out]; have hb5' : Below X.heap.size X w5 := (Below.drew (Below.refl _ _)).trans hb5; have HB5 := Lib.hid (HBX.out.trans (hb5'.mono HBX.out.size)); have HXN5 := Lib.hid (box_below HXN2.out hb5'); have HXW5 := Lib.hid (box_below HXW2.out hb5'); obtain ⟨m0, m1, m2, -, -, -⟩ := box3_cells HXN5.out; obtain ⟨y0, y1, y2, y3⟩ := box4_cells HXW5.out; have q1 : w5.cell? ⟨qb, qo + i, none⟩ = some (.int .i64 s') := ((bcell hb5').1 qb _ hqbl2).trans hqc0; have q2 : w5.cell? ⟨qb, qo + (i + 1), none⟩ = some (.int .i64 s) := ((bcell hb5').1 qb _ hqbl2).trans hqc1; clear hb5 hb5'))
                    all_goals
                      by_cases c5 : st < 0
                      · have HRN := Lib.hid (sumGo_neg HRJ.out hlt (by rw [costAt_neg2 (by rw [HWE.out]; omega)]; omega))
                        go_wp2_with fail
                        go_ret
                        exact ⟨by rw [HE.out, HRN.out]; rfl, HB.out.trans (HB5.out.mono HB.out.size)⟩
                      · have d5 : decide (st < 0) = false := decide_eq_false c5
                        have HCO : Hid (costAt n k ⟨xr, xm, xf, xc⟩ gs ss (i + 1) = qq + st) := by show _ = _; rw [costAt_pos (by rw [HPT.out, HPE.out]; omega) (by rw [HWE.out]; omega), HPT.out, HPE.out, HWE.out]
                        have HGO := Lib.hid (sumGo_go HRJ.out hlt (by rw [HCO.out]; omega))
                        go_wp2_with fail
                        go_roundw
                        case rel => exact ⟨i + 1 + 1, all + qq + st, by go_num, by omega, by go_num, by omega, by rw [Int.natCast_add, Int.add_mul]; omega, by have := HGO.out; rw [HCO.out, ← Int.add_assoc] at this; exact this, HB5.out⟩
                        case measure => simp [intOf]; omega
          · have hjk : pn = j := by omega
            subst hjk
            have HEN := Lib.hid (sumGo_end HRJ.out)
            go_wp2_with fail
            go_ret
            exact ⟨by rw [HE.out, ← HEN.out]; rfl, HB.out.trans (HBJ.out.mono HB.out.size)⟩
end Go.Proofs.YtlfbbahihenilaaGreat.Ne

namespace Go.Proofs.YtlfbbahihenilaaGreat.Ne
open Go.RowKit Go.V Go.Proofs Go.Sort Go.Maps


set_option maxHeartbeats 2000000 in
theorem rcount_any (pa : Option Addr) (pn pc : Nat) (gs : List (List Pnt)) (w : World) (h : PtsIn w pa pn pc gs) (h16 : ∀ r ∈ gs, r.length ≤ 16) :
    Calls Tryz.prog 24 #[.slice pa pn pc, .int .i64 150] w fun e w' => e = .returned (.int .i64 (countGo 150 gs 1 : Nat)) ∧ w' = w := by
  have HP := Lib.hid h
  obtain ⟨hl, hn⟩ := h.len
  have HL := Lib.hid hl
  have H16 := Lib.hid h16
  obtain ⟨r, hr⟩ : ∃ r, countGo 150 gs 1 = r := ⟨_, rfl⟩
  have HR := Lib.hid hr
  rw [hr]
  clear h hl h16 hr
  go_enter Tryz.func24, Tryz.ntmps24
  go_wp2_with fail
  go_loopw [5, 6] (fun v i wr => ∃ (j c : Nat), i = .int .i64 j ∧ v = .int .i64 c ∧ j ≤ pn ∧ c ≤ 150 ∧ Hid (countGo 150 (gs.drop j) c = r) ∧ Hid (wr = w)) (fun _ i _ => pn - (intOf i).toNat)
  case atStart => exact ⟨0, 1, by go_num, by go_num, by omega, by omega, HR.out, rfl⟩
  case round =>
    obtain ⟨j, c, rfl, rfl, hj, hc, HC, HW⟩ := hrel
    have hw := HW.out
    clear HW
    subst hw
    by_cases hlt : j < pn
    case neg =>
      have hjn : pn = j := by omega
      subst hjn
      have hz := HC.out
      rw [List.drop_of_length_le (by rw [← HL.out]; exact Nat.le_refl _)] at hz
      have hz : c = r := hz
      subst hz
      go_wp2_with fail
      go_ret
      exact ⟨rfl, rfl⟩
    obtain ⟨b, off, hd, g, e1, hbl, hg, p0, hsl⟩ := HP.out.at hlt
    have e1 : pa = _ := e1
    subst e1
    obtain ⟨ra, rn, rc⟩ := hd
    have p0 : wr.cell? ⟨b, off + j, none⟩ = some (.slice ra rn rc) := p0
    have hji : (j : Int) < (pn : Int) := by omega
    have hrl : rn = g.length := hsl.hlen
    have hr16 : rn ≤ 16 := by have := H16.out g (List.mem_of_getElem? hg); omega
    obtain ⟨m, hm⟩ : ∃ m, c * rn = m := ⟨_, rfl⟩
    have hm2 : m ≤ 2400 := by rw [← hm]; exact Nat.mul_le_mul hc hr16
    have hmi : (c : Int) * (rn : Int) = (m : Int) := by rw [← hm]; simp
    have hwr : IntKind.i64.wrap ((c : Int) * (rn : Int)) = (m : Int) := by rw [hmi, IntKind.wrap_i64]; omega
    have hz := HC.out
    rw [drop_at hg] at hz
    unfold countGo at hz
    rw [← hrl, hm] at hz
    clear hg hsl hrl hm hmi
    by_cases hb : 150 < m
    · rw [if_pos hb] at hz
      subst hz
      have hbi : (150 : Int) < (m : Int) := by omega
      go_wp2_with fail
      go_ret
      exact ⟨rfl, rfl⟩
    · rw [if_neg hb] at hz
      have HZ := Lib.hid hz
      have hbi : decide ((150 : Int) < (m : Int)) = false := decide_eq_false (by omega)
      clear hz
      go_wp2_with fail
      go_roundw
      case rel => exact ⟨j + 1, m, by go_num, rfl, by omega, by omega, HZ.out, Lib.hid trivial⟩
      case measure => simp [intOf]; omega
end Go.Proofs.YtlfbbahihenilaaGreat.Ne

namespace Go.Proofs.YtlfbbahihenilaaGreat.Ne
open Go.RowKit Go.V Go.Proofs Go.Sort Go.Maps

/-- A network and a weighing in boxes of their own. -/
structure NX (w : World) (g : Nat) (n : Net) (hs hl : Hdr) (x : Wgh) : Prop where
  n : w.heap[g]? = some (n.box hs hl)
  x : w.heap[g + 1]? = some x.box
theorem NX.below {w w' : World} {g : Nat} {n : Net} {hs hl : Hdr} {x : Wgh} (h : NX w g n hs hl x) (hb : Below w.heap.size w w') : NX w' g n hs hl x := ⟨box_below h.n hb, box_below h.x hb⟩
theorem NX.cells {w : World} {g : Nat} {n : Net} {hs hl : Hdr} {x : Wgh} (h : NX w g n hs hl x) :
    w.cell? ⟨g, 0, none⟩ = some (.int .i64 n.ver) ∧ w.cell? ⟨g, 1, none⟩ = some (.slice hs.a hs.n hs.cap) ∧ w.cell? ⟨g, 2, none⟩ = some (.slice hl.a hl.n hl.cap) ∧
    w.cell? ⟨g + 1, 0, none⟩ = some (.int .i64 x.reach) ∧ w.cell? ⟨g + 1, 1, none⟩ = some (.int .i64 x.most) ∧ w.cell? ⟨g + 1, 2, none⟩ = some (.int .i64 x.factor) ∧ w.cell? ⟨g + 1, 3, none⟩ = some (.int .i64 x.change) :=
  ⟨(box_cell h.n 0).1, (box_cell h.n 1).1, (box_cell h.n 2).1, (box_cell h.x 0).1, (box_cell h.x 1).1, (box_cell h.x 2).1, (box_cell h.x 3).1⟩
theorem NX.new (w : World) (n : Net) (hs hl : Hdr) (x : Wgh) : NX ((w.alloc (n.box hs hl)).alloc x.box) w.heap.size n hs hl x := by
  refine ⟨box_alloc (box_new _ _), ?_⟩
  have := box_new (w.alloc (n.box hs hl)) x.box
  simpa using this

set_option maxHeartbeats 8000000 in
set_option maxRecDepth 100000 in
theorem rbest_own (w : World) (n : Net) (hs hl : Hdr) (x : Wgh) (hp : Hdr) (gs : List (List Pnt)) (h : NetIn w n hs hl) (hok : checkE n = 0) (h60 : hs.n ≤ 60) (h120 : hl.n ≤ 120) (hP : PtsIn w hp.a hp.n hp.cap gs)
    (h40 : gs.length ≤ 60) (h16 : ∀ r ∈ gs, r.length ≤ 16) (hc : ∀ i, i ≤ gs.length → (allE [[]] (gs.take i)).length ≤ 150) (O : List Int × Int) (hO : bestGo (seqE n hs.n x gs) (allE [[]] gs) ([], -1) = O) :
    Calls Tryz.prog 25 #[n.val hs hl, x.val, .slice hp.a hp.n hp.cap] w fun e w' => ∃ (a : Option Addr) (m cap : Nat), e = .returned (.tuple #[.slice a m cap, .int .i64 O.2]) ∧ SlQ icod w' a m cap O.1 ∧ m ≤ 1000000 ∧ (∀ d, a = some d → w.heap.size ≤ d.block) ∧ Below w.heap.size w w' := by
  obtain ⟨xr, xm, xf, xc⟩ := x
  obtain ⟨pa, pn, pc⟩ := hp
  obtain ⟨sa, k, sc⟩ := hs
  obtain ⟨la, m, lc⟩ := hl
  obtain ⟨W, hWe⟩ : ∃ W, (w.alloc (n.box ⟨sa, k, sc⟩ ⟨la, m, lc⟩)).alloc (Wgh.mk xr xm xf xc).box = W := ⟨_, rfl⟩
  have HB : Hid (Below w.heap.size w W) := by
    rw [← hWe]; exact ((Below.refl _ _).alloc (Nat.le_refl _) _).alloc (by simp) _
  have HX : Hid (NX W w.heap.size n ⟨sa, k, sc⟩ ⟨la, m, lc⟩ ⟨xr, xm, xf, xc⟩) := by rw [← hWe]; exact NX.new _ _ _ _ _
  obtain ⟨c, hcf⟩ : ∃ c, seqE n k ⟨xr, xm, xf, xc⟩ gs = c := ⟨_, rfl⟩
  obtain ⟨L, hL⟩ : ∃ L, allE [[]] gs = L := ⟨_, rfl⟩
  have hO1 : bestGo c L ([], -1) = O := by rw [← hcf, ← hL]; exact hO
  have HO1 := Lib.hid hO1
  have HCF := Lib.hid hcf
  have hL150 : L.length ≤ 150 := by have := hc gs.length (Nat.le_refl _); rw [List.take_length, hL] at this; exact this
  have HLL : Hid (∀ s ∈ L, s.length ≤ 60) := by
    intro s hs
    rw [← hL] at hs
    have := isSeq_len _ _ ((all_seq _ _).1 hs)
    omega
  have HLE := Lib.hid hL
  have HH := Lib.hid (h.below HB.out)
  have HOK := Lib.hid hok
  have HP := Lib.hid (hP.below HB.out)
  have H40 := Lib.hid h40
  have H16 := Lib.hid h16
  have HC := Lib.hid hc
  have h60 : k ≤ 60 := h60
  have h120 : m ≤ 120 := h120
  clear h hok hP hO hO1 hcf hL h40 h16 hc
  go_enter Tryz.func25, Tryz.ntmps25
  go_upto_region 4 with (go_at_call 62; go_loud (refine (rall_any pa pn pc gs _ HP.out H40.out H16.out HC.out).mono ?_); rintro e w1 ⟨v, hs, rfl, ho, hb1⟩; rw [HLE.out] at ho; have HRW : Hid (∀ (i : Nat) (h : Hdr) (g : List Int), hs[i]? = some h → L[i]? = some g → ∀ d, h.a = some d → W.heap.size ≤ d.block) := (fun i h g h1 h2 d hd => by obtain ⟨a', c', e1, -, hog⟩ := (ho.each i h g h1 h2).slice; obtain ⟨ha, hn, hc⟩ := h; cases e1; obtain ⟨gg, cur, rfl, hB, -⟩ := hog d hd; exact hB); obtain ⟨oa, oc, rfl, hsl⟩ := ho.sls; have HS := Lib.hid hsl; have HB1 := Lib.hid hb1; clear ho hb1 hsl)
  obtain ⟨on, hon⟩ : ∃ on, L.length = on := ⟨_, rfl⟩
  have HON := Lib.hid hon
  rw [hon] at HS hL150 ⊢
  have HX1 := Lib.hid (HX.out.below HB1.out)
  clear hon HX hWe
  go_wp2_with fail
  go_loopw [8, 9, 11] (fun v bv i wr => ∃ (j : Nat) (a : Option Addr) (qn cap : Nat) (o : List Int) (b : Int), i = .int .i64 j ∧ j ≤ on ∧ v = .slice a qn cap ∧ bv = .int .i64 b ∧ qn ≤ 60 ∧ Hid (SlQ icod wr a qn cap o) ∧ Hid (bestGo c (L.drop j) (o, b) = O) ∧ Hid (∀ d, a = some d → W.heap.size ≤ d.block) ∧ Hid (Below w1.heap.size w1 wr)) (fun _ _ i _ => on - (intOf i).toNat)
  case atStart => exact ⟨0, none, 0, 0, [], -1, by go_num, by omega, rfl, rfl, by omega, ⟨rfl, Nat.le_refl _, Nat.zero_le _, fun h => absurd h (Nat.lt_irrefl 0)⟩, HO1.out, (fun _ hd => nomatch hd), Below.refl _ _⟩
  case round =>
    obtain ⟨j, a, qn, cap, o, b, rfl, hj, rfl, rfl, hq40, HQ, HGO, HAB, HBR⟩ := hrel
    by_cases hlt : j < on
    case neg =>
      have hjn : on = j := by omega
      subst hjn
      have hz := HGO.out
      rw [List.drop_of_length_le (by rw [HON.out]; exact Nat.le_refl _)] at hz
      have hz : (o, b) = O := hz
      subst hz
      go_wp2_with fail
      go_ret2
      exact ⟨a, qn, cap, rfl, HQ.out, by omega, (fun d hd => Nat.le_trans HB.out.size (HAB.out d hd)), HB.out.trans ((HB1.out.trans (HBR.out.mono HB1.out.size)).mono HB.out.size)⟩
    obtain ⟨b', off', hd', s, e2, hbl', hh', hs', c0, hsl'⟩ := (HS.out.below HBR.out).at hlt
    subst e2
    obtain ⟨a2, n2, c2⟩ := hd'
    have c0 : wr.cell? ⟨b', off' + j, none⟩ = some (.slice a2 n2 c2) := c0
    have HX2 := Lib.hid (HX1.out.below HBR.out)
    obtain ⟨x0, x1, x2, x3, x4, x5, x6⟩ := HX2.out.cells
    have x0 : wr.cell? ⟨w.heap.size, 0, none⟩ = some (.int .i64 n.ver) := x0
    have HWR : Hid (Below W.heap.size W wr) := HB1.out.trans (HBR.out.mono HB1.out.size)
    have HNI := Lib.hid (HH.out.below HWR.out)
    have HPI := Lib.hid (HP.out.below HWR.out)
    have HAB2 : Hid (∀ d, a2 = some d → W.heap.size ≤ d.block) := fun d hd => HRW.out _ _ _ hh' hs' d hd
    have hn2 : n2 ≤ 60 := by have := HLL.out s (List.mem_of_getElem? hs'); have : n2 = s.length := hsl'.hlen; omega
    have HSQ := Lib.hid hsl'.q
    have hz := HGO.out
    rw [drop_at hs'] at hz
    have hz : bestGo c (L.drop (j + 1)) (bestAt c s (o, b)) = O := hz
    have HCS : Hid (seqE n k ⟨xr, xm, xf, xc⟩ gs s = c s) := congrFun HCF.out s
    have hji : (j : Int) < (on : Int) := by omega
    clear hh' hs' hsl'
    have hbw : b' < wr.heap.size := World.block_lt_of_cell? wr _ c0
    go_upto_region 7 with fail
    go_region_held3 (fun w' => w'.cell? ⟨w.heap.size, 0, none⟩ = some (.int .i64 n.ver) ∧ w'.cell? ⟨w.heap.size, 1, none⟩ = some (.slice sa k sc) ∧ w'.cell? ⟨w.heap.size, 2, none⟩ = some (.slice la m lc) ∧ w'.cell? ⟨w.heap.size + 1, 0, none⟩ = some (.int .i64 xr) ∧ w'.cell? ⟨w.heap.size + 1, 1, none⟩ = some (.int .i64 xm) ∧ w'.cell? ⟨w.heap.size + 1, 2, none⟩ = some (.int .i64 xf) ∧ w'.cell? ⟨w.heap.size + 1, 3, none⟩ = some (.int .i64 xc) ∧ w'.cell? ⟨b', off' + j, none⟩ = some (.slice a2 n2 c2)) (first | (exact HK4.out) | go_keep)
      (first | (go_at_call 63; go_loud (refine (rseq_any _ n ⟨sa, k, sc⟩ ⟨la, m, lc⟩ ⟨xr, xm, xf, xc⟩ ⟨pa, pn, pc⟩ ⟨a2, n2, c2⟩ gs s (HNI.out.below (Below.drew (Below.refl _ _))) HOK.out h60 h120 (HPI.out.below (Below.drew (Below.refl _ _))) (HSQ.out.below (Below.drew (Below.refl _ _)))).mono ?_); rintro e w4 ⟨rfl, hb4⟩; rw [HCS.out]; have HB4 : Hid (Below wr.heap.size wr w4) := (Below.drew (Below.refl _ _)).trans hb4; have hk4 := (HX2.out.below HB4.out).cells; have HK4 := Lib.hid (And.intro hk4.1 (And.intro hk4.2.1 (And.intro hk4.2.2.1 (And.intro hk4.2.2.2.1 (And.intro hk4.2.2.2.2.1 (And.intro hk4.2.2.2.2.2.1 (And.intro hk4.2.2.2.2.2.2 ((HB4.out.cell (p := ⟨b', off' + j, none⟩) hbw).trans c0)))))))); clear hb4 hk4))
    have c4 : w4.cell? ⟨b', off' + j, none⟩ = some (.slice a2 n2 c2) := HK4.out.2.2.2.2.2.2.2
    obtain ⟨C, hC⟩ : ∃ C, c s = C := ⟨_, rfl⟩
    have HBW4 := Lib.hid (HBR.out.trans (HB4.out.mono HBR.out.size))
    unfold bestAt at hz
    rw [hC] at hz ⊢
    clear c0 x0 x1 x2 x3 x4 x5 x6 hC HK4
    by_cases q0 : 0 ≤ C
    case neg =>
      rw [if_neg (fun h => q0 h.1)] at hz
      have HZ := Lib.hid hz
      have d0 : decide (0 ≤ C) = false := decide_eq_false q0
      clear hz
      go_wp2_with fail
      go_roundw
      case rel => exact ⟨j + 1, a, qn, cap, o, b, by go_num, by omega, rfl, rfl, by omega, HQ.out.below HB4.out, HZ.out, HAB.out, HBW4.out⟩
      case measure => simp [intOf]; omega
    have d0 : decide (0 ≤ C) = true := decide_eq_true q0
    by_cases qb : b < 0
    · rw [if_pos ⟨q0, .inl qb⟩] at hz
      have HZ := Lib.hid hz
      have d1 : decide (b < 0) = true := decide_eq_true qb
      clear hz
      go_wp2_with fail
      go_roundw
      case rel => exact ⟨j + 1, a2, n2, c2, s, C, by go_num, by omega, rfl, rfl, by omega, HSQ.out.below HB4.out, HZ.out, HAB2.out, HBW4.out⟩
      case measure => simp [intOf]; omega
    have d1 : decide (b < 0) = false := decide_eq_false qb
    by_cases ql : C < b
    · rw [if_pos ⟨q0, .inr (.inl ql)⟩] at hz
      have HZ := Lib.hid hz
      have d2 : decide (C < b) = true := decide_eq_true ql
      clear hz
      go_wp2_with fail
      go_roundw
      case rel => exact ⟨j + 1, a2, n2, c2, s, C, by go_num, by omega, rfl, rfl, by omega, HSQ.out.below HB4.out, HZ.out, HAB2.out, HBW4.out⟩
      case measure => simp [intOf]; omega
    have d2 : decide (C < b) = false := decide_eq_false ql
    by_cases qe : C = b
    case neg =>
      rw [if_neg (fun h => by rcases h.2 with q | q | q; exact qb q; exact ql q; exact qe q.1)] at hz
      have HZ := Lib.hid hz
      have d3 : (C == b) = false := by simpa using qe
      clear hz qe
      go_wp2_with fail
      go_roundw
      case rel => exact ⟨j + 1, a, qn, cap, o, b, by go_num, by omega, rfl, rfl, by omega, HQ.out.below HB4.out, HZ.out, HAB.out, HBW4.out⟩
      case measure => simp [intOf]; omega
    subst qe
    obtain ⟨A, hA⟩ : ∃ A, aheadE s o = A := ⟨_, rfl⟩
    have HA := Lib.hid hA
    have hz : bestGo c (L.drop (j + 1)) (if 0 ≤ C ∧ (C < 0 ∨ C < C ∨ C = C ∧ aheadE s o = true) then (s, C) else (o, C)) = O := hz
    rw [hA] at hz
    have d3 : (C == C) = true := by simp
    clear hA
    cases A with
    | true =>
      rw [if_pos ⟨q0, .inr (.inr ⟨rfl, rfl⟩)⟩] at hz
      have HZ := Lib.hid hz
      clear hz
      go_wp2_with (go_at_call 64; go_loud (refine (rahead_any a2 n2 c2 s a qn cap o _ (HSQ.out.below HB4.out) (HQ.out.below HB4.out) (by omega) (by omega)).mono ?_); rintro e w5 ⟨rfl, hb5⟩; rw [HA.out]; have HB5 : Hid (Below wr.heap.size wr w5) := HB4.out.trans (hb5.mono HB4.out.size); have c5 := (hb5.cell (p := ⟨b', off' + j, none⟩) (World.block_lt_of_cell? _ _ c4)).trans c4; clear hb5)
      go_roundw
      case rel => exact ⟨j + 1, a2, n2, c2, s, C, by go_num, by omega, rfl, rfl, by omega, HSQ.out.below HB5.out, HZ.out, HAB2.out, HBR.out.trans (HB5.out.mono HBR.out.size)⟩
      case measure => simp [intOf]; omega
    | false =>
      rw [if_neg (fun h => by rcases h.2 with q | q | q; exact qb q; exact ql q; cases q.2)] at hz
      have HZ := Lib.hid hz
      clear hz
      go_wp2_with (go_at_call 64; go_loud (refine (rahead_any a2 n2 c2 s a qn cap o _ (HSQ.out.below HB4.out) (HQ.out.below HB4.out) (by omega) (by omega)).mono ?_); rintro e w5 ⟨rfl, hb5⟩; rw [HA.out]; have HB5 : Hid (Below wr.heap.size wr w5) := HB4.out.trans (hb5.mono HB4.out.size); clear hb5)
      go_roundw
      case rel => exact ⟨j + 1, a, qn, cap, o, C, by go_num, by omega, rfl, rfl, by omega, HQ.out.below HB5.out, HZ.out, HAB.out, HBR.out.trans (HB5.out.mono HBR.out.size)⟩
      case measure => simp [intOf]; omega
theorem rbest_any (w : World) (n : Net) (hs hl : Hdr) (x : Wgh) (hp : Hdr) (gs : List (List Pnt)) (h : NetIn w n hs hl) (hok : checkE n = 0) (h60 : hs.n ≤ 60) (h120 : hl.n ≤ 120) (hP : PtsIn w hp.a hp.n hp.cap gs)
    (h40 : gs.length ≤ 60) (h16 : ∀ r ∈ gs, r.length ≤ 16) (hc : ∀ i, i ≤ gs.length → (allE [[]] (gs.take i)).length ≤ 150) (O : List Int × Int) (hO : bestGo (seqE n hs.n x gs) (allE [[]] gs) ([], -1) = O) :
    Calls Tryz.prog 25 #[n.val hs hl, x.val, .slice hp.a hp.n hp.cap] w fun e w' => ∃ (a : Option Addr) (m cap : Nat), e = .returned (.tuple #[.slice a m cap, .int .i64 O.2]) ∧ SlQ icod w' a m cap O.1 ∧ m ≤ 1000000 ∧ Below w.heap.size w w' :=
  (rbest_own w n hs hl x hp gs h hok h60 h120 hP h40 h16 hc O hO).mono fun _ _ ⟨a, m, cap, h1, h2, h3, _, h5⟩ => ⟨a, m, cap, h1, h2, h3, h5⟩
end Go.Proofs.YtlfbbahihenilaaGreat.Ne
