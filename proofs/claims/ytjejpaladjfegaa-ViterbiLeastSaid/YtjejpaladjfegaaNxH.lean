/- Networks: viterbi: no sequence costs less than the best one, or comes ahead of it: the law walked. -/
import Derived.Test.YtjejpaladjfegaaNxG
namespace Go.Proofs.Ytjejpaladjfegaa.Ne
open Go.RowKit Go.V Go.Proofs Go.Sort Go.Maps

theorem best_law (st : Int → Int → Int) (gs : List (List Pnt)) (hrow : ∀ r ∈ gs, okRow r) (hne : gs ≠ []) :
    (goE st gs none = none → ∀ ss, tcE st none gs ss < 0) ∧
    (∀ l, goE st gs none = some l → l.length = gs.length ∧ tcE st none gs l = (pickE st none gs).1 ∧ 0 ≤ (pickE st none gs).1 ∧ ∀ ss, 0 ≤ tcE st none gs ss → (pickE st none gs).1 ≤ tcE st none gs ss ∧ ((pickE st none gs).1 = tcE st none gs ss → aheadE ss l = false)) := by
  cases gs with
  | nil => exact absurd rfl hne
  | cons g gs =>
    by_cases h0 : 0 ≤ (pickE st none (g :: gs)).1
    · obtain ⟨l, h1, h2, h3, h4⟩ := go_ok st gs g none hrow h0
      refine ⟨(fun h => by rw [h1] at h; cases h), fun l' h => ?_⟩
      rw [h1] at h
      cases h
      exact ⟨h2, h3, h0, h4⟩
    · have hn : goE st (g :: gs) none = none := by rw [goE_cons, if_pos (by omega)]
      refine ⟨fun _ ss => ?_, (fun l h => by rw [hn] at h; cases h)⟩
      apply Int.not_le.1
      intro hs
      cases ss with
      | nil => unfold tcE at hs; omega
      | cons s ss =>
        obtain ⟨m1, m2, m3⟩ := lf_low st gs g s ss none hrow hs
        have hpt : 0 ≤ ptE g s := by
          rw [tcE_cons] at hs
          split at hs <;> omega
        obtain ⟨-, k2, -⟩ := pickE_ok st none g gs
        exact h0 (k2 s (ptE_mem hpt) m2 m1).1
theorem best_seq {n : Net} {k : Nat} {x : Wgh} {gs : List (List Pnt)} (hv : vmayE x gs = 0) :
    (goE (stepE n k x) gs none = none → ∀ ss, seqE n k x gs ss = -1) ∧
    (∀ l, goE (stepE n k x) gs none = some l → l.length = gs.length ∧ seqE n k x gs l = (pickE (stepE n k x) none gs).1 ∧ 0 ≤ (pickE (stepE n k x) none gs).1 ∧
      ∀ ss, seqE n k x gs ss < 0 ∨ (pickE (stepE n k x) none gs).1 < seqE n k x gs ss ∨ (pickE (stepE n k x) none gs).1 = seqE n k x gs ss ∧ aheadE ss l = false) := by
  obtain ⟨o1, o2, o3, o4⟩ := vmay_ok hv
  obtain ⟨b1, b2⟩ := best_law (stepE n k x) gs (fun r hr => (o3 r hr).1) o4
  refine ⟨fun h ss => ?_, fun l h => ?_⟩
  · rw [seq_tc n k x gs ss o1 o2, if_pos (b1 h ss)]
  · obtain ⟨c1, c2, c3, c4⟩ := b2 l h
    refine ⟨c1, by rw [seq_tc n k x gs l o1 o2, if_neg (by omega), c2], c3, fun ss => ?_⟩
    rw [seq_tc n k x gs ss o1 o2]
    by_cases hs : tcE (stepE n k x) none gs ss < 0
    · rw [if_pos hs]; exact .inl (by omega)
    · rw [if_neg hs]
      obtain ⟨d1, d2⟩ := c4 ss (by omega)
      by_cases he : (pickE (stepE n k x) none gs).1 = tcE (stepE n k x) none gs ss
      · exact .inr (.inr ⟨he, d2 he⟩)
      · exact .inr (.inl (by omega))
theorem vmay_31 {x : Wgh} {gs : List (List Pnt)} (h : vmayE x gs = 31) : gs.length = 0 := by
  unfold vmayE at h
  repeat' split at h
  all_goals first | omega | (next q => exact q) | assumption

set_option maxHeartbeats 8000000 in
set_option maxRecDepth 100000 in
theorem vleast_any (n : Net) (hs hl : Hdr) (x : Wgh) (hp hq : Hdr) (gs : List (List Pnt)) (ss : List Int) (a b : Int) (w : World) (h : NetIn w n hs hl) (hP : PtsIn w hp.a hp.n hp.cap gs) (hS : SlQ icod w hq.a hq.n hq.cap ss) :
    Calls Try.prog 4 #[n.val hs hl, x.val, playV hp hq a b] w fun e w' => e = .returned (.bool true) ∧ Below w.heap.size w w' := by
  obtain ⟨sa, k, sc⟩ := hs
  obtain ⟨la, m, lc⟩ := hl
  obtain ⟨xr, xm, xf, xc⟩ := x
  obtain ⟨pa, pn, pc⟩ := hp
  obtain ⟨qa, qn, qc⟩ := hq
  have hp9 : pn ≤ 9223372036854775807 := hP.len.2
  have HPL : Hid (pn = gs.length) := hP.len.1
  have hq9 : qn ≤ 9223372036854775807 := by have h1 : qn ≤ qc := hS.hcap; have h2 : qc ≤ maxLen := hS.hmax; unfold maxLen at h2; omega
  obtain ⟨W, hWe⟩ : ∃ W, ((w.alloc (n.box ⟨sa, k, sc⟩ ⟨la, m, lc⟩)).alloc (Wgh.mk xr xm xf xc).box).alloc (playB ⟨pa, pn, pc⟩ ⟨qa, qn, qc⟩ a b) = W := ⟨_, rfl⟩
  have HB : Hid (Below w.heap.size w W) := by
    rw [← hWe]; exact (((Below.refl _ _).alloc (Nat.le_refl _) _).alloc (by simp) _).alloc (by simp; omega) _
  have HL : Hid (L22 W w.heap.size n ⟨sa, k, sc⟩ ⟨la, m, lc⟩ ⟨xr, xm, xf, xc⟩ ⟨pa, pn, pc⟩ ⟨qa, qn, qc⟩ a b) := by rw [← hWe]; exact L22.new _ _ _ _ _ _ _ _ _
  have HH := Lib.hid h
  have HP := Lib.hid hP
  have HS := Lib.hid hS
  clear h hP hS
  go_enter Try.func4, Try.ntmps4
  go_upto_region 3 with (go_at_call 13; refine (awake23_any _).mono ?_; rintro e w1 ⟨rfl, hb1⟩; have HB1 := Lib.hid (HB.out.trans (hb1.mono HB.out.size)); have HL1 := Lib.hid (HL.out.below hb1); clear hb1)
  obtain ⟨n0, n1, n2, x0, x1, x2, x3, p0, p1, p2, p3⟩ := HL1.out.cells
  clear HB HL hWe
  obtain ⟨fb, hfb⟩ : ∃ fb, decide (k ≤ 60 ∧ m ≤ 120) = fb := ⟨_, rfl⟩
  have HFB := Lib.hid hfb
  clear hfb
  cases fb with
  | false =>
    go_wp2_with (go_at_call 14; refine (few_any n ⟨sa, k, sc⟩ ⟨la, m, lc⟩ _).mono ?_; rintro e w2 ⟨rfl, hb2⟩; rw [HFB.out]; have HB2 := Lib.hid (HB1.out.trans (hb2.mono HB1.out.size)); clear hb2)
    go_ret
    exact ⟨rfl, HB2.out⟩
  | true =>
  obtain ⟨k60, m120⟩ := of_decide_eq_true HFB.out
  have HM : Hid (k ≤ 1000000 ∧ m ≤ 1000000) := ⟨by omega, by omega⟩
  obtain ⟨fp, hfp⟩ : ∃ fp, fewP gs = fp := ⟨_, rfl⟩
  have HFP := Lib.hid hfp
  clear hfp
  cases fp with
  | false =>
    go_wp2_with (first
      | (go_at_call 14; refine (few_any n ⟨sa, k, sc⟩ ⟨la, m, lc⟩ _).mono ?_; rintro e w2 ⟨rfl, hb2⟩; rw [HFB.out]; have HB2 := Lib.hid (HB1.out.trans (hb2.mono HB1.out.size)); have HL2 := Lib.hid (HL1.out.below hb2); obtain ⟨-, -, -, -, -, -, -, r0, r1, -⟩ := HL2.out.cells; clear hb2)
      | (go_at_call 16; refine (fewP_any pa pn pc gs _ (HP.out.below HB2.out)).mono ?_; rintro e w3 ⟨rfl, rfl⟩; rw [HFP.out]))
    go_ret
    exact ⟨rfl, HB2.out⟩
  | true =>
  have hpn40 : pn ≤ 40 := by
    have := HFP.out
    unfold fewP at this
    rw [Bool.and_eq_true] at this
    have := of_decide_eq_true this.2
    have := HPL.out
    omega
  by_cases hq60 : (60 : Int) < (qn : Int)
  · go_wp2_with (first
      | (go_at_call 14; refine (few_any n ⟨sa, k, sc⟩ ⟨la, m, lc⟩ _).mono ?_; rintro e w2 ⟨rfl, hb2⟩; rw [HFB.out]; have HB2 := Lib.hid (HB1.out.trans (hb2.mono HB1.out.size)); have HL2 := Lib.hid (HL1.out.below hb2); obtain ⟨-, -, -, -, -, -, -, r0, r1, -⟩ := HL2.out.cells; have hw2 : w.heap.size + 2 < w2.heap.size := box_lt HL2.out.p; clear hb2)
      | (go_at_call 16; refine (fewP_any pa pn pc gs _ (HP.out.below HB2.out)).mono ?_; rintro e w3 ⟨rfl, rfl⟩; rw [HFP.out]))
    go_ret
    exact ⟨rfl, HB2.out⟩
  have hqd : decide ((60 : Int) < (qn : Int)) = false := decide_eq_false hq60
  have hq60 : qn ≤ 60 := by omega
  go_upto_region 5 with (first
    | (go_at_call 14; refine (few_any n ⟨sa, k, sc⟩ ⟨la, m, lc⟩ _).mono ?_; rintro e w2 ⟨rfl, hb2⟩; rw [HFB.out]; have HB2 := Lib.hid (HB1.out.trans (hb2.mono HB1.out.size)); have HL2 := Lib.hid (HL1.out.below hb2); obtain ⟨-, -, -, -, -, -, -, r0, r1, -⟩ := HL2.out.cells; have hw2 : w.heap.size + 2 < w2.heap.size := box_lt HL2.out.p; clear hb2)
    | (go_at_call 16; refine (fewP_any pa pn pc gs _ (HP.out.below HB2.out)).mono ?_; rintro e w3 ⟨rfl, rfl⟩; rw [HFP.out]))
  clear n0 n1 n2 x0 x1 x2 x3 p0 p1 p2 p3 hqd
  obtain ⟨n0, n1, n2, x0, x1, x2, x3, -, -, p2, p3⟩ := HL2.out.cells
  obtain ⟨ce, hce⟩ : ∃ ce, checkE n = ce := ⟨_, rfl⟩
  have HCE := Lib.hid hce
  clear hce
  by_cases he : ce = 0
  case neg =>
    have e0 : (ce != 0) = true := by simpa using he
    have HNE := Lib.hid he
    clear he
    go_wp2_with (go_at_call 17; go_loud (refine (tnew_any n ⟨sa, k, sc⟩ ⟨la, m, lc⟩ _ HM.out (HH.out.below HB2.out)).mono ?_); rintro e w4 ⟨hb4, hno, -⟩; have he4 := hno (by rw [HCE.out]; exact HNE.out); subst he4; rw [HCE.out]; have HB4 := Lib.hid (HB2.out.trans (hb4.mono HB2.out.size)); clear hb4 hno)
    go_ret
    exact ⟨rfl, HB4.out⟩
  case pos =>
  subst he
  go_upto_region 8 with (go_at_call 17; go_loud (refine (tnew_any n ⟨sa, k, sc⟩ ⟨la, m, lc⟩ _ HM.out (HH.out.below HB2.out)).mono ?_); rintro e w4 ⟨hb4, -, hf⟩; obtain ⟨tg, rfl, mg, ht, hne⟩ := hf HCE.out; have HB4 := Lib.hid (HB2.out.trans (hb4.mono HB2.out.size)); have HL4 := Lib.hid (HL2.out.below hb4); have HT4 := Lib.hid ht; have HNE := Lib.hid hne; clear hb4 hf ht hne)
  clear n0 n1 n2 x0 x1 x2 x3 p2 p3 r0 r1
  have HMG : Hid (mg < w4.heap.size ∧ w.heap.size + 2 < mg ∧ w.heap.size ≤ mg) := ⟨HT4.out.mg_lt, by have := HT4.out.bm; omega, by have := HT4.out.bm; omega⟩
  obtain ⟨-, -, -, x0, x1, x2, x3, p0, p1, -, -⟩ := HL4.out.cells
  have HPW := Lib.hid (HP.out.below HB4.out)
  have hw4 : w.heap.size + 2 < w4.heap.size := box_lt HL4.out.p
  obtain ⟨ve, hve⟩ : ∃ ve, vmayE ⟨xr, xm, xf, xc⟩ gs = ve := ⟨_, rfl⟩
  have HVE := Lib.hid hve
  clear hve
  have hpn40' : gs.length ≤ 40 := by have := HPL.out; omega
  -- the calls, as they come
  by_cases hv0 : ve = 0
  case neg =>
    have HV0 := Lib.hid hv0
    obtain ⟨O, hO⟩ : ∃ O, seqE n k ⟨xr, xm, xf, xc⟩ gs ss = O := ⟨_, rfl⟩
    have HO := Lib.hid hO
    have hv0b : (ve != 0) = true := by simpa using hv0
    clear hO hv0
    by_cases h31 : ve = 31
    · have HG0 : Hid (pn = 0) := by have := vmay_31 (HVE.out.trans h31); have := HPL.out; show _ = _; omega
      have hp0 : ((pn : Int) == 0) = true := by have := HG0.out; simp; omega
      subst h31
      clear hv0b
      go_wp2_with (first
        | (go_at_call 18; refine (vbest_any _ _ tg mg 0 n ⟨sa, k, sc⟩ ⟨la, m, lc⟩ ⟨xr, xm, xf, xc⟩ ⟨pa, pn, pc⟩ gs HT4.out HCE.out k60 m120 HPW.out hpn40' (by omega) HNE.out).mono ?_; rintro e w5 ⟨ht5, hc5, hno, -⟩; have he5 := hno (by rw [HVE.out]; exact HV0.out); subst he5; rw [HVE.out]; have HT5 := Lib.hid ht5; have HC5 := Lib.hid hc5; have HL5 := Lib.hid (HL4.out.chg hc5 HMG.out.2.1); obtain ⟨-, -, -, y0, y1, y2, y3, q0, q1, -, -⟩ := HL5.out.cells; have HB5 : Hid (Below w.heap.size w w5) := HB4.out.trans (hc5.below HMG.out.2.2 (by simp) HB4.out.size); clear ht5 hc5 hno)
        | (go_at_call 25; go_loud (refine (cseq_any _ w _ tg mg 14000 n ⟨sa, k, sc⟩ ⟨la, m, lc⟩ ⟨xr, xm, xf, xc⟩ ⟨pa, pn, pc⟩ ⟨qa, qn, qc⟩ gs ss (HT5.out.upto (by omega)) HCE.out k60 m120 (by omega) HNE.out HB5.out HP.out HS.out HMG.out.2.2).mono ?_); rintro e w6 ⟨rfl, -, hc6⟩; rw [HO.out]; have HL6 := Lib.hid (HL5.out.chg hc6 HMG.out.2.1); obtain ⟨-, -, -, z0, z1, z2, z3, s0, s1, -, -⟩ := HL6.out.cells; have HB6 : Hid (Below w.heap.size w w6) := HB5.out.trans (hc6.below HMG.out.2.2 (by simp) HB5.out.size); have hw6 : w.heap.size + 2 < w6.heap.size := box_lt HL6.out.p; clear hc6))
      all_goals
        go_ret
        exact ⟨ret_bool (by simp), HB6.out⟩
    · have h31b : (ve == 31) = false := by simpa using h31
      clear h31
      go_wp2_with (first
        | (go_at_call 18; refine (vbest_any _ _ tg mg 0 n ⟨sa, k, sc⟩ ⟨la, m, lc⟩ ⟨xr, xm, xf, xc⟩ ⟨pa, pn, pc⟩ gs HT4.out HCE.out k60 m120 HPW.out hpn40' (by omega) HNE.out).mono ?_; rintro e w5 ⟨ht5, hc5, hno, -⟩; have he5 := hno (by rw [HVE.out]; exact HV0.out); subst he5; rw [HVE.out]; have HT5 := Lib.hid ht5; have HC5 := Lib.hid hc5; have HL5 := Lib.hid (HL4.out.chg hc5 HMG.out.2.1); obtain ⟨-, -, -, y0, y1, y2, y3, q0, q1, -, -⟩ := HL5.out.cells; have HB5 : Hid (Below w.heap.size w w5) := HB4.out.trans (hc5.below HMG.out.2.2 (by simp) HB4.out.size); clear ht5 hc5 hno)
        | (go_at_call 25; go_loud (refine (cseq_any _ w _ tg mg 14000 n ⟨sa, k, sc⟩ ⟨la, m, lc⟩ ⟨xr, xm, xf, xc⟩ ⟨pa, pn, pc⟩ ⟨qa, qn, qc⟩ gs ss (HT5.out.upto (by omega)) HCE.out k60 m120 (by omega) HNE.out HB5.out HP.out HS.out HMG.out.2.2).mono ?_); rintro e w6 ⟨rfl, -, hc6⟩; rw [HO.out]; have HB6 : Hid (Below w.heap.size w w6) := HB5.out.trans (hc6.below HMG.out.2.2 (by simp) HB5.out.size); clear hc6))
      go_ret
      exact ⟨rfl, HB6.out⟩
  case pos =>
    subst hv0
    obtain ⟨BS1, BS2⟩ := best_seq (n := n) (k := k) HVE.out
    obtain ⟨st, hst⟩ : ∃ st, stepE n k ⟨xr, xm, xf, xc⟩ = st := ⟨_, rfl⟩
    rw [hst] at BS1 BS2
    have HST := Lib.hid hst
    have HS1 := Lib.hid BS1
    have HS2 := Lib.hid BS2
    clear hst BS1 BS2
    obtain ⟨R, hR⟩ : ∃ R, goE st gs none = R := ⟨_, rfl⟩
    have HR := Lib.hid hR
    clear hR
    cases R with
    | none =>
      have HO : Hid (seqE n k ⟨xr, xm, xf, xc⟩ gs ss = -1) := HS1.out HR.out ss
      go_wp2_with (first
        | (go_at_call 18; refine (vbest_any _ _ tg mg 0 n ⟨sa, k, sc⟩ ⟨la, m, lc⟩ ⟨xr, xm, xf, xc⟩ ⟨pa, pn, pc⟩ gs HT4.out HCE.out k60 m120 HPW.out hpn40' (by omega) HNE.out).mono ?_; rintro e w5 ⟨ht5, hc5, -, hy⟩; have he5 := (hy HVE.out).1 (by rw [HST.out]; exact HR.out); subst he5; have HT5 := Lib.hid ht5; have HC5 := Lib.hid hc5; have HL5 := Lib.hid (HL4.out.chg hc5 HMG.out.2.1); obtain ⟨-, -, -, y0, y1, y2, y3, q0, q1, -, -⟩ := HL5.out.cells; have HB5 : Hid (Below w.heap.size w w5) := HB4.out.trans (hc5.below HMG.out.2.2 (by simp) HB4.out.size); clear ht5 hc5 hy)
        | (go_at_call 25; go_loud (refine (cseq_any _ w _ tg mg 14000 n ⟨sa, k, sc⟩ ⟨la, m, lc⟩ ⟨xr, xm, xf, xc⟩ ⟨pa, pn, pc⟩ ⟨qa, qn, qc⟩ gs ss (HT5.out.upto (by omega)) HCE.out k60 m120 (by omega) HNE.out HB5.out HP.out HS.out HMG.out.2.2).mono ?_); rintro e w6 ⟨rfl, -, hc6⟩; rw [HO.out]; have HL6 := Lib.hid (HL5.out.chg hc6 HMG.out.2.1); obtain ⟨-, -, -, z0, z1, z2, z3, s0, s1, -, -⟩ := HL6.out.cells; have HB6 : Hid (Below w.heap.size w w6) := HB5.out.trans (hc6.below HMG.out.2.2 (by simp) HB5.out.size); have hw6 : w.heap.size + 2 < w6.heap.size := box_lt HL6.out.p; clear hc6))
      go_ret
      exact ⟨ret_bool (by simp), HB6.out⟩
    | some l =>
      obtain ⟨bl, bs, b0, ba⟩ := HS2.out l HR.out
      obtain ⟨c, hc⟩ : ∃ c, (pickE st none gs).1 = c := ⟨_, rfl⟩
      rw [hc] at bs b0 ba
      obtain ⟨O, hO⟩ : ∃ O, seqE n k ⟨xr, xm, xf, xc⟩ gs ss = O := ⟨_, rfl⟩
      have ba := ba ss
      rw [hO] at ba
      have HO := Lib.hid hO
      have HC := Lib.hid hc
      have HBS := Lib.hid bs
      have HBA := Lib.hid ba
      have HBL : Hid (l.length = pn) := by have := HPL.out; show _ = _; omega
      clear hO hc bs ba bl
      go_upto_region 9 with (go_at_call 18; go_loud (refine (vbest_any _ _ tg mg 0 n ⟨sa, k, sc⟩ ⟨la, m, lc⟩ ⟨xr, xm, xf, xc⟩ ⟨pa, pn, pc⟩ gs HT4.out HCE.out k60 m120 HPW.out hpn40' (by omega) HNE.out).mono ?_); rintro e w5 ⟨ht5, hc5, -, hy⟩; obtain ⟨v, he5, ho⟩ := (hy HVE.out).2 l (by rw [HST.out]; exact HR.out); subst he5; rw [HST.out, HC.out]; have HT5 := Lib.hid ht5; have HC5 := Lib.hid hc5; have HL5 := Lib.hid (HL4.out.chg hc5 HMG.out.2.1); have HOW := Lib.hid ho; have HB5 : Hid (Below w.heap.size w w5) := HB4.out.trans (hc5.below HMG.out.2.2 (by simp) HB4.out.size); clear ht5 hc5 hy ho)
      obtain ⟨-, -, -, y0, y1, y2, y3, q0, q1, -, -⟩ := HL5.out.cells
      obtain ⟨va, vc, hv, hsl, -⟩ := HOW.out.slice
      subst hv
      rw [HBL.out] at hsl ⊢
      have HSL := Lib.hid hsl
      clear hsl HOW x0 x1 x2 x3 p0 p1
      have hw5 : w.heap.size + 2 < w5.heap.size := box_lt HL5.out.p
      have HWC5 : Hid (Chg w w5 mg none) := Chg.of_below HB5.out mg none
      have HPW5 := Lib.hid (HP.out.below HB5.out)
      by_cases hO0 : O < 0
      · go_wp2_with (first
          | (go_at_call 25; go_fit (cseq_gen _ w _ tg mg 14000 n ⟨sa, k, sc⟩ ⟨la, m, lc⟩ ⟨xr, xm, xf, xc⟩ ⟨pa, pn, pc⟩ ⟨qa, qn, qc⟩ gs ss (HT5.out.upto (by omega)) HCE.out k60 m120 (by omega) HNE.out HWC5.out HP.out HS.out (mapAt_new HMG.out.2.2)); rintro e w6 ⟨rfl, ht6, hc6⟩; rw [HO.out]; have HT6 := Lib.hid ht6; have HC6 := Lib.hid hc6; have HL6 := Lib.hid (HL5.out.chg hc6 HMG.out.2.1); obtain ⟨-, -, -, z0, z1, z2, z3, s0, s1, -, -⟩ := HL6.out.cells; have HB6 : Hid (Below w.heap.size w w6) := HB5.out.trans (hc6.below HMG.out.2.2 (by simp) HB5.out.size); have hw6 : w.heap.size + 2 < w6.heap.size := box_lt HL6.out.p; clear ht6 hc6)
          | (go_at_call 25; go_fit (cseq_gen _ w5 _ tg mg 18000 n ⟨sa, k, sc⟩ ⟨la, m, lc⟩ ⟨xr, xm, xf, xc⟩ ⟨pa, pn, pc⟩ ⟨va, pn, vc⟩ gs l (HT6.out.upto (by omega)) HCE.out k60 m120 (by omega) HNE.out HC6.out HPW5.out HSL.out.q HT5.out.mapAt); rintro e w7 ⟨rfl, ht7, hc7⟩; rw [HBS.out]; have HC7 := Lib.hid hc7; have HL7 := Lib.hid (HL6.out.chg hc7 HMG.out.2.1); obtain ⟨-, -, -, t0, t1, t2, t3, u0, u1, -, -⟩ := HL7.out.cells; have HB7 : Hid (Below w.heap.size w w7) := HB6.out.trans (hc7.below HMG.out.2.2 (by simp) HB6.out.size); have hw7 : w.heap.size + 2 < w7.heap.size := box_lt HL7.out.p; have HSL7 := Lib.hid (slq_chgm HT5.out.mapAt (HC6.out.trans hc7 (.inl rfl)) HSL.out.q); clear ht7 hc7))
        go_ret
        exact ⟨ret_bool (by simp), HB7.out⟩
      · have hO1 : decide (O < 0) = false := decide_eq_false hO0
        by_cases hcO : c < O
        · go_wp2_with (first
            | (go_at_call 25; go_fit (cseq_gen _ w _ tg mg 14000 n ⟨sa, k, sc⟩ ⟨la, m, lc⟩ ⟨xr, xm, xf, xc⟩ ⟨pa, pn, pc⟩ ⟨qa, qn, qc⟩ gs ss (HT5.out.upto (by omega)) HCE.out k60 m120 (by omega) HNE.out HWC5.out HP.out HS.out (mapAt_new HMG.out.2.2)); rintro e w6 ⟨rfl, ht6, hc6⟩; rw [HO.out]; have HT6 := Lib.hid ht6; have HC6 := Lib.hid hc6; have HL6 := Lib.hid (HL5.out.chg hc6 HMG.out.2.1); obtain ⟨-, -, -, z0, z1, z2, z3, s0, s1, -, -⟩ := HL6.out.cells; have HB6 : Hid (Below w.heap.size w w6) := HB5.out.trans (hc6.below HMG.out.2.2 (by simp) HB5.out.size); have hw6 : w.heap.size + 2 < w6.heap.size := box_lt HL6.out.p; clear ht6 hc6)
            | (go_at_call 25; go_fit (cseq_gen _ w5 _ tg mg 18000 n ⟨sa, k, sc⟩ ⟨la, m, lc⟩ ⟨xr, xm, xf, xc⟩ ⟨pa, pn, pc⟩ ⟨va, pn, vc⟩ gs l (HT6.out.upto (by omega)) HCE.out k60 m120 (by omega) HNE.out HC6.out HPW5.out HSL.out.q HT5.out.mapAt); rintro e w7 ⟨rfl, ht7, hc7⟩; rw [HBS.out]; have HC7 := Lib.hid hc7; have HL7 := Lib.hid (HL6.out.chg hc7 HMG.out.2.1); obtain ⟨-, -, -, t0, t1, t2, t3, u0, u1, -, -⟩ := HL7.out.cells; have HB7 : Hid (Below w.heap.size w w7) := HB6.out.trans (hc7.below HMG.out.2.2 (by simp) HB6.out.size); have hw7 : w.heap.size + 2 < w7.heap.size := box_lt HL7.out.p; have HSL7 := Lib.hid (slq_chgm HT5.out.mapAt (HC6.out.trans hc7 (.inl rfl)) HSL.out.q); clear ht7 hc7))
          go_ret
          exact ⟨ret_bool (by simp), HB7.out⟩
        · have hcO2 : decide (c < O) = false := decide_eq_false hcO
          have HAF : Hid (aheadE ss l = false) := by
            rcases HBA.out with q | q | q
            · omega
            · omega
            · exact q.2
          have hceq : (c == O) = true := by
            rcases HBA.out with q | q | q
            · omega
            · omega
            · simpa using q.1
          go_wp2_with (first
            | (go_at_call 25; go_fit (cseq_gen _ w _ tg mg 14000 n ⟨sa, k, sc⟩ ⟨la, m, lc⟩ ⟨xr, xm, xf, xc⟩ ⟨pa, pn, pc⟩ ⟨qa, qn, qc⟩ gs ss (HT5.out.upto (by omega)) HCE.out k60 m120 (by omega) HNE.out HWC5.out HP.out HS.out (mapAt_new HMG.out.2.2)); rintro e w6 ⟨rfl, ht6, hc6⟩; rw [HO.out]; have HT6 := Lib.hid ht6; have HC6 := Lib.hid hc6; have HL6 := Lib.hid (HL5.out.chg hc6 HMG.out.2.1); obtain ⟨-, -, -, z0, z1, z2, z3, s0, s1, -, -⟩ := HL6.out.cells; have HB6 : Hid (Below w.heap.size w w6) := HB5.out.trans (hc6.below HMG.out.2.2 (by simp) HB5.out.size); have hw6 : w.heap.size + 2 < w6.heap.size := box_lt HL6.out.p; clear ht6 hc6)
            | (go_at_call 25; go_fit (cseq_gen _ w5 _ tg mg 18000 n ⟨sa, k, sc⟩ ⟨la, m, lc⟩ ⟨xr, xm, xf, xc⟩ ⟨pa, pn, pc⟩ ⟨va, pn, vc⟩ gs l (HT6.out.upto (by omega)) HCE.out k60 m120 (by omega) HNE.out HC6.out HPW5.out HSL.out.q HT5.out.mapAt); rintro e w7 ⟨rfl, ht7, hc7⟩; rw [HBS.out]; have HC7 := Lib.hid hc7; have HL7 := Lib.hid (HL6.out.chg hc7 HMG.out.2.1); obtain ⟨-, -, -, t0, t1, t2, t3, u0, u1, -, -⟩ := HL7.out.cells; have HB7 : Hid (Below w.heap.size w w7) := HB6.out.trans (hc7.below HMG.out.2.2 (by simp) HB6.out.size); have hw7 : w.heap.size + 2 < w7.heap.size := box_lt HL7.out.p; have HSL7 := Lib.hid (slq_chgm HT5.out.mapAt (HC6.out.trans hc7 (.inl rfl)) HSL.out.q); clear ht7 hc7)
            | (go_at_call 26; go_loud (refine (rahead_any qa qn qc ss va pn vc l _ (HS.out.below HB7.out) HSL7.out (by omega) (by omega)).mono ?_); rintro e w8 ⟨rfl, hb8⟩; rw [HAF.out]; have HB8 := Lib.hid (HB7.out.trans (hb8.mono HB7.out.size)); clear hb8))
          go_ret
          exact ⟨ret_bool (by simp), HB8.out⟩
end Go.Proofs.Ytjejpaladjfegaa.Ne
