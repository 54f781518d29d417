/- Costs: without the document's ones: the law walked. -/
import Derived.Test.YteihffnmgacfpaaNoG
import Derived.Test.YteihffnmgacfpaaNoP
namespace Go.Proofs.Yteihffnmgacfpaa.Ne
open Go.RowKit Go.V Go.Proofs Go.Sort Go.Maps

theorem SlQ.upto {α : Type} {c : Cod α} {w : World} {a : Option Addr} {n cap : Nat} {xs : List α} (h : SlQ c w a n cap xs) {j : Nat} (hj : j ≤ n) : SlQ c w a j cap (xs.take j) :=
  ⟨by have := h.hlen; simp; omega, by have := h.hcap; omega, h.hmax, fun h0 => (h.hat (by omega)).upto hj⟩
theorem PtsIn.upto {w : World} {a : Option Addr} {n cap : Nat} {gs : List (List Pnt)} (h : PtsIn w a n cap gs) {j : Nat} (hj : j ≤ n) : PtsIn w a j cap (gs.take j) := by
  obtain ⟨hs, h1, h2, h3⟩ := h
  refine ⟨hs.take j, SlQ.upto h1 hj, by simp [h2], fun i x g hx hg => ?_⟩
  rw [List.getElem?_take] at hx hg
  split at hx
  · next hi => rw [if_pos hi] at hg; exact h3 i x g hx hg
  · cases hx

set_option maxHeartbeats 8000000 in
set_option maxRecDepth 100000 in
theorem cfits_any (n : Net) (hs hl : Hdr) (x : Wgh) (hp hq : Hdr) (gs : List (List Pnt)) (ss : List Int) (a b : Int) (w : World) (h : NetIn w n hs hl) (hP : PtsIn w hp.a hp.n hp.cap gs) (hS : SlQ icod w hq.a hq.n hq.cap ss) :
    Calls Try.prog 6 #[n.val hs hl, x.val, playV hp hq a b] w fun e w' => e = .returned (.bool true) ∧ Below w.heap.size w w' := by
  have mixed : Try.prog.follows .mixedOrders = true := by kernel_rfl
  obtain ⟨sa, k, sc⟩ := hs
  obtain ⟨la, m, lc⟩ := hl
  obtain ⟨xr, xm, xf, xc⟩ := x
  obtain ⟨pa, pn, pc⟩ := hp
  obtain ⟨qa, qn, qc⟩ := hq
  have hp9 : pn ≤ 9223372036854775807 := hP.len.2
  have hq9 : qn ≤ 9223372036854775807 := by have h1 : qn ≤ qc := hS.hcap; have h2 : qc ≤ maxLen := hS.hmax; unfold maxLen at h2; omega
  obtain ⟨W, hWe⟩ : ∃ W, ((w.alloc (n.box ⟨sa, k, sc⟩ ⟨la, m, lc⟩)).alloc (Wgh.mk xr xm xf xc).box).alloc (playB ⟨pa, pn, pc⟩ ⟨qa, qn, qc⟩ a b) = W := ⟨_, rfl⟩
  have HB : Hid (Below w.heap.size w W) := by
    rw [← hWe]; exact (((Below.refl _ _).alloc (Nat.le_refl _) _).alloc (by simp) _).alloc (by simp; omega) _
  have HL : Hid (L22 W w.heap.size n ⟨sa, k, sc⟩ ⟨la, m, lc⟩ ⟨xr, xm, xf, xc⟩ ⟨pa, pn, pc⟩ ⟨qa, qn, qc⟩ a b) := by rw [← hWe]; exact L22.new _ _ _ _ _ _ _ _ _
  have HH := Lib.hid h
  have HP := Lib.hid hP
  have HS := Lib.hid hS
  have HP0 := HP
  have HS0 := HS
  clear h hP hS
  go_enter Try.func6, Try.ntmps6
  go_upto_region 3 with (go_at_call 31; refine (awake22_any _).mono ?_; rintro e w1 ⟨rfl, hb1⟩; have HB1 := Lib.hid (HB.out.trans (hb1.mono HB.out.size)); have HL1 := Lib.hid (HL.out.below hb1); clear hb1)
  obtain ⟨n0, n1, n2, x0, x1, x2, x3, p0, p1, p2, p3⟩ := HL1.out.cells
  clear HB HL hWe
  obtain ⟨fb, hfb⟩ : ∃ fb, decide (k ≤ 60 ∧ m ≤ 120) = fb := ⟨_, rfl⟩
  have HFB := Lib.hid hfb
  clear hfb
  cases fb with
  | false =>
    go_wp2_with (go_at_call 16; refine (few_any n ⟨sa, k, sc⟩ ⟨la, m, lc⟩ _).mono ?_; rintro e w2 ⟨rfl, hb2⟩; rw [HFB.out]; have HB2 := Lib.hid (HB1.out.trans (hb2.mono HB1.out.size)); clear hb2)
    go_ret
    exact ⟨rfl, HB2.out⟩
  | true =>
  obtain ⟨k60, m120⟩ := of_decide_eq_true HFB.out
  have HM : Hid (k ≤ 1000000 ∧ m ≤ 1000000) := ⟨by omega, by omega⟩
  by_cases hk0 : k = 0
  · subst hk0
    go_wp2_with (go_at_call 16; refine (few_any n ⟨sa, 0, sc⟩ ⟨la, m, lc⟩ _).mono ?_; rintro e w2 ⟨rfl, hb2⟩; rw [HFB.out]; have HB2 := Lib.hid (HB1.out.trans (hb2.mono HB1.out.size)); have HL2 := Lib.hid (HL1.out.below hb2); obtain ⟨q0, q1, q2, -⟩ := HL2.out.cells; clear hb2)
    go_ret
    exact ⟨rfl, HB2.out⟩
  have hkb : ((k : Int) == 0) = false := by simpa using hk0
  obtain ⟨fp, hfp⟩ : ∃ fp, fewP gs = fp := ⟨_, rfl⟩
  have HFP := Lib.hid hfp
  clear hfp
  cases fp with
  | false =>
    go_wp2_with (first
      | (go_at_call 16; refine (few_any n ⟨sa, k, sc⟩ ⟨la, m, lc⟩ _).mono ?_; rintro e w2 ⟨rfl, hb2⟩; rw [HFB.out]; have HB2 := Lib.hid (HB1.out.trans (hb2.mono HB1.out.size)); have HL2 := Lib.hid (HL1.out.below hb2); obtain ⟨q0, q1, q2, -, -, -, -, r0, r1, -, -⟩ := HL2.out.cells; clear hb2)
      | (go_at_call 32; refine (fewP_any pa pn pc gs _ (HP.out.below HB2.out)).mono ?_; rintro e w5 ⟨rfl, rfl⟩; rw [HFP.out]))
    go_ret
    exact ⟨rfl, HB2.out⟩
  | true =>
  have hp40 : pn ≤ 40 := by
    have h1 := HFP.out
    unfold fewP at h1
    rw [Bool.and_eq_true] at h1
    have h2 := of_decide_eq_true h1.2
    have h3 : pn = gs.length := HP.out.len.1
    omega
  by_cases hq0 : qn = 0
  · subst hq0
    go_wp2_with (first
      | (go_at_call 16; refine (few_any n ⟨sa, k, sc⟩ ⟨la, m, lc⟩ _).mono ?_; rintro e w2 ⟨rfl, hb2⟩; rw [HFB.out]; have HB2 := Lib.hid (HB1.out.trans (hb2.mono HB1.out.size)); have HL2 := Lib.hid (HL1.out.below hb2); obtain ⟨q0, q1, q2, -, -, -, -, r0, r1, -, -⟩ := HL2.out.cells; clear hb2)
      | (go_at_call 32; refine (fewP_any pa pn pc gs _ (HP.out.below HB2.out)).mono ?_; rintro e w5 ⟨rfl, rfl⟩; rw [HFP.out]))
    go_ret
    exact ⟨rfl, HB2.out⟩
  have hqb : ((qn : Int) == 0) = false := by simpa using hq0
  by_cases hbig : (60 : Int) < (qn : Int)
  · go_wp2_with (first
      | (go_at_call 16; refine (few_any n ⟨sa, k, sc⟩ ⟨la, m, lc⟩ _).mono ?_; rintro e w2 ⟨rfl, hb2⟩; rw [HFB.out]; have HB2 := Lib.hid (HB1.out.trans (hb2.mono HB1.out.size)); have HL2 := Lib.hid (HL1.out.below hb2); obtain ⟨q0, q1, q2, -, -, -, -, r0, r1, -, -⟩ := HL2.out.cells; clear hb2)
      | (go_at_call 32; refine (fewP_any pa pn pc gs _ (HP.out.below HB2.out)).mono ?_; rintro e w5 ⟨rfl, rfl⟩; rw [HFP.out]))
    go_ret
    exact ⟨rfl, HB2.out⟩
  have hbf : decide ((60 : Int) < (qn : Int)) = false := decide_eq_false hbig
  go_upto_region 5 with (first
    | (go_at_call 16; refine (few_any n ⟨sa, k, sc⟩ ⟨la, m, lc⟩ _).mono ?_; rintro e w2 ⟨rfl, hb2⟩; rw [HFB.out]; have HB2 := Lib.hid (HB1.out.trans (hb2.mono HB1.out.size)); have HL2 := Lib.hid (HL1.out.below hb2); obtain ⟨q0, q1, q2, -, -, -, -, r0, r1, -, -⟩ := HL2.out.cells; clear hb2)
    | (go_at_call 32; refine (fewP_any pa pn pc gs _ (HP.out.below HB2.out)).mono ?_; rintro e w5 ⟨rfl, rfl⟩; rw [HFP.out]))
  clear n0 n1 n2 x0 x1 x2 x3 p0 p1 p2 p3 q0 q1 q2 r0 r1 HL1 HB1
  obtain ⟨n0, n1, n2, x0, x1, x2, x3, p0, p1, p2, p3⟩ := HL2.out.cells
  obtain ⟨ce, hce⟩ : ∃ ce, checkE n = ce := ⟨_, rfl⟩
  have HCE := Lib.hid hce
  clear hce
  by_cases he : ce = 0
  case neg =>
    have e0 : (ce == 0) = false := by simpa using he
    have HNE : Hid (checkE n ≠ 0) := by show _ ≠ _; rw [HCE.out]; exact he
    go_wp2_with (go_at_call 17; refine (tnew_any n ⟨sa, k, sc⟩ ⟨la, m, lc⟩ _ HM.out (HH.out.below HB2.out)).mono ?_; rintro e w3 ⟨hb3, hf, -⟩; have hf2 := hf HNE.out; subst hf2; rw [HCE.out]; have HB3 := Lib.hid (HB2.out.trans (hb3.mono HB2.out.size)); clear hb3 hf)
    go_ret
    exact ⟨rfl, HB3.out⟩
  case pos =>
  subst he
  go_upto_region 8 with (go_at_call 17; refine (tnew_any n ⟨sa, k, sc⟩ ⟨la, m, lc⟩ _ HM.out (HH.out.below HB2.out)).mono ?_; rintro e w6 ⟨hb6, -, hf⟩; obtain ⟨tg, rfl, mg, ht, hne⟩ := hf HCE.out; have HB6 := Lib.hid (HB2.out.trans (hb6.mono HB2.out.size)); have HL6 := Lib.hid (HL2.out.below hb6); have HT6 := Lib.hid ht; have HNE := Lib.hid hne; clear hb6 hf ht hne)
  clear n0 n1 n2 x0 x1 x2 x3 p0 p1 p2 p3
  have hgl : w.heap.size + 2 < w2.heap.size := box_lt HL2.out.p
  have HGM : Hid (w.heap.size + 2 < mg) := by show _ < _; have := HT6.out.bm; omega
  obtain ⟨B, hBe⟩ : ∃ B, w2.heap.size = B := ⟨_, rfl⟩
  rw [hBe] at HT6
  clear HL2 HB2 hgl hBe
  obtain ⟨n0, n1, n2, x0, x1, x2, x3, p0, p1, p2, p3⟩ := HL6.out.cells
  have hkp : 0 < k := by omega
  obtain ⟨A1, hA1⟩ : ∃ A1, a.tmod k = A1 := ⟨_, rfl⟩
  obtain ⟨A2, hA2⟩ : ∃ A2, (A1 + k).tmod k = A2 := ⟨_, rfl⟩
  obtain ⟨C1, hC1⟩ : ∃ C1, b.tmod k = C1 := ⟨_, rfl⟩
  obtain ⟨C2, hC2⟩ : ∃ C2, (C1 + k).tmod k = C2 := ⟨_, rfl⟩
  have hAi : 0 ≤ A2 ∧ A2 < k := by rw [← hA2, ← hA1]; exact rem_in hkp
  have hCi : 0 ≤ C2 ∧ C2 < k := by rw [← hC2, ← hC1]; exact rem_in hkp
  have hA1i : -(k : Int) < A1 ∧ A1 < k := by rw [← hA1]; exact ⟨Int.lt_tmod_of_pos a (by omega), Int.tmod_lt_of_pos a (by omega)⟩
  have hC1i : -(k : Int) < C1 ∧ C1 < k := by rw [← hC1]; exact ⟨Int.lt_tmod_of_pos b (by omega), Int.tmod_lt_of_pos b (by omega)⟩
  have hwA : IntKind.i64.wrap (A1 + (k : Int)) = A1 + (k : Int) := IntWalk.i64_in _ (by omega)
  have hwC : IntKind.i64.wrap (C1 + (k : Int)) = C1 + (k : Int) := IntWalk.i64_in _ (by omega)
  go_region_held3 (fun w' => w'.cell? ⟨w.heap.size, 1, none⟩ = some (.slice sa k sc) ∧ w'.cell? ⟨w.heap.size + 2, 2, none⟩ = some (.int .i64 a) ∧ w'.cell? ⟨w.heap.size + 2, 3, none⟩ = some (.int .i64 b)) (go_keep) (fail)
  have HB7 : Hid (Below w.heap.size w w6.drew) := HB6.out.trans (Below.drew (Below.refl _ _))
  have HL7 := Lib.hid (HL6.out.below (Below.drew (Below.refl _ _)))
  have HT7 := Lib.hid (HT6.out.below (Below.drew (Below.refl _ _)))
  obtain ⟨X, hX⟩ : ∃ X, w6.drew = X := ⟨_, rfl⟩
  rw [hX] at HB7 HL7 HT7 ⊢
  clear n0 n1 n2 x0 x1 x2 x3 p0 p1 p2 p3 HB6 HL6 HT6 hX
  obtain ⟨n0, n1, n2, x0, x1, x2, x3, p0, p1, p2, p3⟩ := HL7.out.cells
  go_wp2_with fail
  go_region_held3 (fun w' => w'.cell? ⟨w.heap.size, 1, none⟩ = some (.slice sa k sc) ∧ w'.cell? ⟨w.heap.size + 2, 2, none⟩ = some (.int .i64 a) ∧ w'.cell? ⟨w.heap.size + 2, 3, none⟩ = some (.int .i64 b)) (go_keep) (fail)
  have HB8 : Hid (Below w.heap.size w X.drew) := HB7.out.trans (Below.drew (Below.refl _ _))
  have HL8 := Lib.hid (HL7.out.below (Below.drew (Below.refl _ _)))
  have HT8 := Lib.hid (HT7.out.below (Below.drew (Below.refl _ _)))
  obtain ⟨Y, hY⟩ : ∃ Y, X.drew = Y := ⟨_, rfl⟩
  rw [hY] at HB8 HL8 HT8 ⊢
  clear n0 n1 n2 x0 x1 x2 x3 p0 p1 p2 p3 HB7 HL7 HT7 hY hA1 hA2 hC1 hC2 hwA hwC hA1i hC1i
  obtain ⟨n0, n1, n2, x0, x1, x2, x3, p0, p1, p2, p3⟩ := HL8.out.cells
  go_wp2_with fail
  obtain ⟨t1, ht1⟩ : ∃ t1, stepE n k ⟨xr, xm, xf, xc⟩ A2 A2 = t1 := ⟨_, rfl⟩
  obtain ⟨t2, ht2⟩ : ∃ t2, stepE n k ⟨xr, xm, xf, xc⟩ A2 C2 = t2 := ⟨_, rfl⟩
  obtain ⟨al, hal⟩ : ∃ al, seqE n k ⟨xr, xm, xf, xc⟩ gs ss = al := ⟨_, rfl⟩
  have H1 := Lib.hid ht1
  have H2 := Lib.hid ht2
  have HAL := Lib.hid hal
  clear ht1 ht2 hal
  go_region_held3 (fun w' => w'.cell? ⟨w.heap.size + 1, 0, none⟩ = some (.int .i64 xr) ∧ w'.cell? ⟨w.heap.size + 1, 1, none⟩ = some (.int .i64 xm) ∧ w'.cell? ⟨w.heap.size + 1, 2, none⟩ = some (.int .i64 xf) ∧ w'.cell? ⟨w.heap.size + 1, 3, none⟩ = some (.int .i64 xc))
    (first | (exact box4_cells HLb.out.x) | (exact box4_cells HLa.out.x) | go_keep)
    (first
      | (go_at_call 33; go_fit (cstep_any _ B tg mg 0 n ⟨sa, k, sc⟩ ⟨la, m, lc⟩ ⟨xr, xm, xf, xc⟩ A2 A2 (HT8.out.below (Below.drew (Below.refl _ _))) HCE.out k60 m120 (by omega) HNE.out); rintro e wa ⟨rfl, hta, hca⟩; rw [H1.out]; have HTa := Lib.hid hta; have HCa : Hid (Chg Y wa mg none) := (Chg.of_below (Below.drew (Below.refl _ _)) mg none).trans hca (.inl rfl); have HLa := Lib.hid (HL8.out.chg HCa.out HGM.out); have HBa := Lib.hid (HB8.out.trans (HCa.out.below (by have := HGM.out; omega) (by simp) HB8.out.size)); clear hta hca)
      | (go_at_call 33; go_fit (cstep_any _ B tg mg 1 n ⟨sa, k, sc⟩ ⟨la, m, lc⟩ ⟨xr, xm, xf, xc⟩ A2 C2 HTa.out HCE.out k60 m120 (by omega) HNE.out); rintro e wb ⟨rfl, htb, hcb⟩; rw [H2.out]; have HTb := Lib.hid htb; have HLb := Lib.hid (HLa.out.chg hcb HGM.out); have HBb := Lib.hid (HBa.out.trans (hcb.below (by have := HGM.out; omega) (by simp) HBa.out.size)); clear htb hcb))
  all_goals
    clear n0 n1 n2 x0 x1 x2 x3 p0 p1 p2 p3
    obtain ⟨n0, n1, n2, x0, x1, x2, x3, p0, p1, p2, p3⟩ := HLb.out.cells
    have hkn : k = n.stops.length := HH.out.s.hlen
    have hln : m = n.links.length := HH.out.l.hlen
    have HKN := Lib.hid hkn
    have HLN := Lib.hid hln
    clear hkn hln
    obtain ⟨bm, hbm⟩ : ∃ bm, mayW ⟨xr, xm, xf, xc⟩ = bm := ⟨_, rfl⟩
    have HBM := Lib.hid hbm
    clear hbm
    cases bm with
    | false =>
      have e1 : t1 = -1 := by rw [← H1.out]; exact stepE_off HBM.out _ _
      have e2 : t2 = -1 := by rw [← H2.out]; exact stepE_off HBM.out _ _
      have e3 : al = -1 := by rw [← HAL.out]; exact seqE_off HBM.out _ _
      subst e1; subst e2; subst e3
      go_wp2_with (first
        | (go_at_call 39; refine (rcmay_any ⟨xr, xm, xf, xc⟩ _).mono ?_; rintro e wc ⟨rfl, hbc⟩; rw [HBM.out]; have HTc := Lib.hid (HTb.out.below hbc); have HLc := Lib.hid (HLb.out.below hbc); have HBc := Lib.hid (HBb.out.trans (hbc.mono HBb.out.size)); obtain ⟨-, -, -, q0, q1, q2, q3, q4, q5, -, -⟩ := HLc.out.cells; clear hbc)
        | (go_at_call 35; go_fit (cseq_any _ w B tg mg 2 n ⟨sa, k, sc⟩ ⟨la, m, lc⟩ ⟨xr, xm, xf, xc⟩ ⟨pa, pn, pc⟩ ⟨qa, qn, qc⟩ gs ss HTc.out HCE.out k60 m120 (by omega) HNE.out HBc.out HP0.out HS0.out (by have := HGM.out; omega)); rintro e wd ⟨rfl, htd, hcd⟩; rw [HAL.out]; have HTd := Lib.hid htd; have HLd := Lib.hid (HLc.out.chg hcd HGM.out); have HBd := Lib.hid (HBc.out.trans (hcd.below (by have := HGM.out; omega) (by simp) HBc.out.size)); obtain ⟨-, -, -, s0, s1, s2, s3, s4, s5, -, -⟩ := HLd.out.cells; clear htd hcd))
      go_ret
      exact ⟨rfl, HBd.out⟩
    | true =>
      have e1 : t1 = 0 := by rw [← H1.out]; exact stepE_self HCE.out HKN.out HBM.out hAi
      subst e1
      have hti := stepE_in HCE.out HKN.out k60 (by have := HLN.out; omega) ⟨xr, xm, xf, xc⟩ A2 C2
      rw [H2.out] at hti
      have d1 : decide (t2 < -1) = false := decide_eq_false (by omega)
      have hsy : stepE n k ⟨xr, xm, xf, xc⟩ C2 A2 = t2 := by rw [← H2.out]; exact stepE_symm HCE.out HKN.out _ _ _
      have HSY := Lib.hid hsy
      have hali := seqE_in (x := ⟨xr, xm, xf, xc⟩) (gs := gs) (ss := ss) HCE.out HKN.out k60 (by have := HLN.out; omega)
      rw [HAL.out] at hali
      have d2 : decide (al < -1) = false := decide_eq_false (by omega)
      have d3 : decide (36028797018963968 < al) = false := decide_eq_false (by omega)
      clear hsy
      by_cases hpq : pn = qn
      case neg =>
        have hpqi : (pn : Int) ≠ (qn : Int) := by omega
        have hpqb : ((pn : Int) == (qn : Int)) = false := by simpa using hpqi
        have e3 : al = -1 := by
          rw [← HAL.out]
          unfold seqE
          have h1 : pn = gs.length := HP0.out.len.1
          have h2 : qn = ss.length := HS0.out.hlen
          rw [if_neg (fun q => hpq (by omega))]
        subst e3
        go_wp2_with (first
          | (go_at_call 39; refine (rcmay_any ⟨xr, xm, xf, xc⟩ _).mono ?_; rintro e wc ⟨rfl, hbc⟩; rw [HBM.out]; have HTc := Lib.hid (HTb.out.below hbc); have HLc := Lib.hid (HLb.out.below hbc); have HBc := Lib.hid (HBb.out.trans (hbc.mono HBb.out.size)); obtain ⟨-, -, -, q0, q1, q2, q3, q4, q5, -, -⟩ := HLc.out.cells; clear hbc)
          | (go_at_call 33; go_fit (cstep_any _ B tg mg 2 n ⟨sa, k, sc⟩ ⟨la, m, lc⟩ ⟨xr, xm, xf, xc⟩ C2 A2 HTc.out HCE.out k60 m120 (by omega) HNE.out); rintro e wd ⟨rfl, htd, hcd⟩; rw [HSY.out]; have HTd := Lib.hid htd; have HLd := Lib.hid (HLc.out.chg hcd HGM.out); have HBd := Lib.hid (HBc.out.trans (hcd.below (by have := HGM.out; omega) (by simp) HBc.out.size)); obtain ⟨-, -, -, r0, r1, r2, r3, r4, r5, -, -⟩ := HLd.out.cells; clear htd hcd)
          | (go_at_call 35; go_fit (cseq_any _ w B tg mg 3 n ⟨sa, k, sc⟩ ⟨la, m, lc⟩ ⟨xr, xm, xf, xc⟩ ⟨pa, pn, pc⟩ ⟨qa, qn, qc⟩ gs ss HTd.out HCE.out k60 m120 (by omega) HNE.out HBd.out HP0.out HS0.out (by have := HGM.out; omega)); rintro e we ⟨rfl, htd, hcd⟩; rw [HAL.out]; have HTe := Lib.hid htd; have HLe := Lib.hid (HLd.out.chg hcd HGM.out); have HBe := Lib.hid (HBd.out.trans (hcd.below (by have := HGM.out; omega) (by simp) HBd.out.size)); obtain ⟨-, -, -, s0, s1, s2, s3, s4, s5, -, -⟩ := HLe.out.cells; clear htd hcd))
        go_ret
        exact ⟨rfl, HBe.out⟩
      case pos =>
        subst hpq
        obtain ⟨j, hj⟩ : ∃ j, pn = j + 1 := ⟨pn - 1, by omega⟩
        subst hj
        obtain ⟨pb, po, -, -, e1, -⟩ := HP0.out.at (show 0 < j + 1 by omega)
        have e1 : pa = some ⟨pb, po, none⟩ := e1
        subst e1
        obtain ⟨qb, qo, -, e2, -⟩ := int_atq HS0.out (show 0 < j + 1 by omega)
        have e2 : qa = some ⟨qb, qo, none⟩ := e2
        subst e2
        have hcp : (j : Int) ≤ (pc : Int) := by
          obtain ⟨hs', h1, -, -⟩ := HP0.out
          have := h1.hcap
          omega
        have hcq : (j : Int) ≤ (qc : Int) := by have : j + 1 ≤ qc := HS0.out.hcap; omega
        have hwj : IntKind.i64.wrap (j : Int) = (j : Int) := IntWalk.i64_in _ (by omega)
        have hgl : gs.length = j + 1 := HP0.out.len.1.symm
        have hsl : ss.length = j + 1 := HS0.out.hlen.symm
        have HLE : Hid (0 ≤ al → 0 ≤ seqE n k ⟨xr, xm, xf, xc⟩ (gs.take j) (ss.take j) ∧ seqE n k ⟨xr, xm, xf, xc⟩ (gs.take j) (ss.take j) ≤ al) := fun h0 => by
          have := seqE_less (n := n) (k := k) (x := ⟨xr, xm, xf, xc⟩) hgl hsl (by rw [HAL.out]; exact h0)
          rw [HAL.out] at this; exact this
        obtain ⟨le, hle⟩ : ∃ le, seqE n k ⟨xr, xm, xf, xc⟩ (gs.take j) (ss.take j) = le := ⟨_, rfl⟩
        rw [hle] at HLE
        have HLS := Lib.hid hle
        have HPt : Hid (PtsIn w (some ⟨pb, po, none⟩) j pc (gs.take j)) := PtsIn.upto HP0.out (by omega)
        have HSt : Hid (SlQ icod w (some ⟨qb, qo, none⟩) j qc (ss.take j)) := SlQ.upto HS0.out (by omega)
        clear hle hgl hsl
        go_upto_region 19 with (first
          | (go_at_call 39; refine (rcmay_any ⟨xr, xm, xf, xc⟩ _).mono ?_; rintro e wc ⟨rfl, hbc⟩; rw [HBM.out]; have HTc := Lib.hid (HTb.out.below hbc); have HLc := Lib.hid (HLb.out.below hbc); have HBc := Lib.hid (HBb.out.trans (hbc.mono HBb.out.size)); obtain ⟨-, -, -, q0, q1, q2, q3, q4, q5, -, -⟩ := HLc.out.cells; clear hbc)
          | (go_at_call 33; go_fit (cstep_any _ B tg mg 2 n ⟨sa, k, sc⟩ ⟨la, m, lc⟩ ⟨xr, xm, xf, xc⟩ C2 A2 HTc.out HCE.out k60 m120 (by omega) HNE.out); rintro e wd ⟨rfl, htd, hcd⟩; rw [HSY.out]; have HTd := Lib.hid htd; have HLd := Lib.hid (HLc.out.chg hcd HGM.out); have HBd := Lib.hid (HBc.out.trans (hcd.below (by have := HGM.out; omega) (by simp) HBc.out.size)); obtain ⟨-, -, -, r0, r1, r2, r3, r4, r5, -, -⟩ := HLd.out.cells; clear htd hcd)
          | (go_at_call 35; go_fit (cseq_any _ w B tg mg 3 n ⟨sa, k, sc⟩ ⟨la, m, lc⟩ ⟨xr, xm, xf, xc⟩ ⟨some ⟨pb, po, none⟩, j + 1, pc⟩ ⟨some ⟨qb, qo, none⟩, j + 1, qc⟩ gs ss HTd.out HCE.out k60 m120 (by omega) HNE.out HBd.out HP0.out HS0.out (by have := HGM.out; omega)); rintro e we ⟨rfl, hte, hce⟩; rw [HAL.out]; have HTe := Lib.hid hte; have HLe := Lib.hid (HLd.out.chg hce HGM.out); have HBe := Lib.hid (HBd.out.trans (hce.below (by have := HGM.out; omega) (by simp) HBd.out.size)); obtain ⟨-, -, -, s0, s1, s2, s3, s4, s5, -, -⟩ := HLe.out.cells; clear hte hce))
        go_region_held3 (fun w' => w'.cell? ⟨w.heap.size + 1, 0, none⟩ = some (.int .i64 xr) ∧ w'.cell? ⟨w.heap.size + 1, 1, none⟩ = some (.int .i64 xm) ∧ w'.cell? ⟨w.heap.size + 1, 2, none⟩ = some (.int .i64 xf) ∧ w'.cell? ⟨w.heap.size + 1, 3, none⟩ = some (.int .i64 xc) ∧ w'.cell? ⟨w.heap.size + 2, 0, none⟩ = some (.slice (some ⟨pb, po, none⟩) (j + 1) pc) ∧ w'.cell? ⟨w.heap.size + 2, 1, none⟩ = some (.slice (some ⟨qb, qo, none⟩) (j + 1) qc))
          (first | (exact ⟨z0, z1, z2, z3, z4, z5⟩) | go_keep)
          ((go_at_call 35; go_fit (cseq_any _ w B tg mg (3 + 2048) n ⟨sa, k, sc⟩ ⟨la, m, lc⟩ ⟨xr, xm, xf, xc⟩ ⟨some ⟨pb, po, none⟩, j, pc⟩ ⟨some ⟨qb, qo, none⟩, j, qc⟩ (gs.take j) (ss.take j) (HTe.out.below (Below.drew (Below.refl _ _))) HCE.out k60 m120 (by omega) HNE.out (HBe.out.trans (Below.drew (Below.refl _ _))) HPt.out HSt.out (by have := HGM.out; omega)); rintro e wf ⟨rfl, htf, hcf⟩; rw [HLS.out]; have hcf' : Chg we wf mg none := (Chg.of_below (Below.drew (Below.refl _ _)) mg none).trans hcf (.inl rfl); have HLf := Lib.hid (HLe.out.chg hcf' HGM.out); have HBf := Lib.hid (HBe.out.trans (hcf'.below (by have := HGM.out; omega) (by simp) HBe.out.size)); obtain ⟨-, -, -, z0, z1, z2, z3, z4, z5, -, -⟩ := HLf.out.cells; clear htf hcf hcf'))
        all_goals
          by_cases h0 : al < 0
          · go_wp2_with fail
            go_ret
            exact ⟨rfl, HBf.out⟩
          · have h0' : decide (al < 0) = false := decide_eq_false h0
            obtain ⟨g1, g2⟩ := HLE.out (by omega)
            go_wp2_with fail
            go_ret
            exact ⟨rfl, HBf.out⟩
end Go.Proofs.Yteihffnmgacfpaa.Ne
