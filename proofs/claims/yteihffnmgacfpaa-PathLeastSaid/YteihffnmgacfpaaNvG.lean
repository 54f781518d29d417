/- Networks: no way weighs less than the distance of its ends: the law walked. -/
import Derived.Test.YteihffnmgacfpaaNvA
import Derived.Test.YteihffnmgacfpaaNvB
import Derived.Test.YteihffnmgacfpaaNeE
namespace Go.Proofs.Yteihffnmgacfpaa.Ne
open Go.RowKit Go.V Go.Proofs Go.Sort

set_option maxHeartbeats 8000000 in
set_option maxRecDepth 100000 in
theorem pleast_any (n : Net) (hs hl : Hdr) (wa : Option Addr) (wn wc : Nat) (xs : List Int) (w : World) (h : NetIn w n hs hl) (hx : Sl icod w wa wn wc xs) :
    Calls Try.prog 10 #[n.val hs hl, .slice wa wn wc] w fun e w' => e = .returned (.bool true) ∧ Below w.heap.size w w' := by
  have mixed : Try.prog.follows .mixedOrders = true := by kernel_rfl
  have hwn : wn ≤ 9223372036854775807 := by have := hx.hcap; have := hx.hmax; unfold maxLen at this; omega
  obtain ⟨sa, k, sc⟩ := hs
  obtain ⟨la, m, lc⟩ := hl
  have HH := Lib.hid h
  have HS := Lib.hid hx
  have HXL := Lib.hid hx.hlen
  have HKN : Hid (k = n.stops.length) := h.s.hlen
  have HLN : Hid (m = n.links.length) := h.l.hlen
  have HX0 := Lib.hid (box_new w (n.box ⟨sa, k, sc⟩ ⟨la, m, lc⟩))
  have HB0 : Hid (Below w.heap.size w (w.alloc (n.box ⟨sa, k, sc⟩ ⟨la, m, lc⟩))) := (Below.refl _ _).alloc (Nat.le_refl _) _
  obtain ⟨c0, c1, c2, -, -, -⟩ := box3_cells HX0.out
  clear h hx
  go_enter Try.func10, Try.ntmps10
  go_upto_region 3 with (go_at_call 43; refine (awake17_any _).mono ?_; rintro e w1 ⟨rfl, hb1⟩; have HB1 := Lib.hid (HB0.out.trans (hb1.mono HB0.out.size)); have HX1 := Lib.hid (box_below HX0.out hb1); clear hb1)
  clear c0 c1 c2 HX0 HB0
  obtain ⟨c0, c1, c2, -, -, -⟩ := box3_cells HX1.out
  obtain ⟨fb, hfb⟩ : ∃ fb, decide (k ≤ 60 ∧ m ≤ 120) = fb := ⟨_, rfl⟩
  have HFB := Lib.hid hfb
  clear hfb
  cases fb with
  | false =>
    go_wp2_with (go_at_call 16; refine (few_any n ⟨sa, k, sc⟩ ⟨la, m, lc⟩ _).mono ?_; rintro e w2 ⟨rfl, hb2⟩; rw [HFB.out]; have HB2 := Lib.hid (HB1.out.trans (hb2.mono HB1.out.size)); clear hb2)
    go_ret
    exact ⟨rfl, HB2.out⟩
  | true =>
  obtain ⟨k60, m120⟩ := of_decide_eq_true HFB.out
  by_cases h0 : wn = 0
  · subst h0
    go_wp2_with (go_at_call 16; refine (few_any n ⟨sa, k, sc⟩ ⟨la, m, lc⟩ _).mono ?_; rintro e w2 ⟨rfl, hb2⟩; rw [HFB.out]; have HB2 := Lib.hid (HB1.out.trans (hb2.mono HB1.out.size)); clear hb2)
    go_ret
    exact ⟨rfl, HB2.out⟩
  have hw0 : ((wn : Int) == 0) = false := by simpa using h0
  by_cases hbig : (50 : Int) < (wn : Int)
  · go_wp2_with (go_at_call 16; refine (few_any n ⟨sa, k, sc⟩ ⟨la, m, lc⟩ _).mono ?_; rintro e w2 ⟨rfl, hb2⟩; rw [HFB.out]; have HB2 := Lib.hid (HB1.out.trans (hb2.mono HB1.out.size)); clear hb2)
    go_ret
    exact ⟨rfl, HB2.out⟩
  have hbf : decide ((50 : Int) < (wn : Int)) = false := decide_eq_false hbig
  have hw50 : wn ≤ 50 := by omega
  have HM : Hid (k ≤ 1000000 ∧ m ≤ 1000000) := ⟨by omega, by omega⟩
  obtain ⟨ce, hce⟩ : ∃ ce, checkE n = ce := ⟨_, rfl⟩
  have HCE := Lib.hid hce
  clear hce
  by_cases he : ce = 0
  case neg =>
    have e0 : (ce == 0) = false := by simpa using he
    go_wp2_with (first
      | (go_at_call 16; refine (few_any n ⟨sa, k, sc⟩ ⟨la, m, lc⟩ _).mono ?_; rintro e w2 ⟨rfl, hb2⟩; rw [HFB.out]; have HB2 := Lib.hid (HB1.out.trans (hb2.mono HB1.out.size)); have HX2 := Lib.hid (box_below HX1.out hb2); obtain ⟨d0, d1, d2, -, -, -⟩ := box3_cells HX2.out; clear hb2)
      | (go_at_call 18; go_loud (refine (rcheck_any n ⟨sa, k, sc⟩ ⟨la, m, lc⟩ _ HM.out (HH.out.below HB2.out)).mono ?_); rintro e w3 ⟨rfl, hb3⟩; rw [HCE.out]; have HB3 := Lib.hid (HB2.out.trans (hb3.mono HB2.out.size)); clear hb3))
    go_ret
    exact ⟨rfl, HB3.out⟩
  case pos =>
  subst he
  obtain ⟨all, hall⟩ : ∃ all, (wayW n.links k xs).1 = all := ⟨_, rfl⟩
  obtain ⟨ok, hok⟩ : ∃ ok, (wayW n.links k xs).2 = ok := ⟨_, rfl⟩
  have HA : Hid ((wayW n.links k xs).1 = all ∧ (wayW n.links k xs).2 = ok) := ⟨hall, hok⟩
  clear hall hok
  go_upto_region 6 with (first
    | (go_at_call 16; refine (few_any n ⟨sa, k, sc⟩ ⟨la, m, lc⟩ _).mono ?_; rintro e w2 ⟨rfl, hb2⟩; rw [HFB.out]; have HB2 := Lib.hid (HB1.out.trans (hb2.mono HB1.out.size)); have HX2 := Lib.hid (box_below HX1.out hb2); obtain ⟨d0, d1, d2, -, -, -⟩ := box3_cells HX2.out; clear hb2)
    | (go_at_call 18; go_loud (refine (rcheck_any n ⟨sa, k, sc⟩ ⟨la, m, lc⟩ _ HM.out (HH.out.below HB2.out)).mono ?_); rintro e w3 ⟨rfl, hb3⟩; rw [HCE.out]; have HB3 := Lib.hid (HB2.out.trans (hb3.mono HB2.out.size)); have HX3 := Lib.hid (box_below HX2.out hb3); obtain ⟨e0, e1, e2, -, -, -⟩ := box3_cells HX3.out; clear hb3)
    | (go_at_call 46; go_loud (refine (pweight_any n ⟨sa, k, sc⟩ ⟨la, m, lc⟩ wa wn wc xs _ (HH.out.below HB3.out) HCE.out (HS.out.below HB3.out) (by omega)).mono ?_); rintro e w4 ⟨rfl, hb4⟩; rw [HA.out.1, HA.out.2]; have HB4 := Lib.hid (HB3.out.trans (hb4.mono HB3.out.size)); have HX4 := Lib.hid (box_below HX3.out hb4); clear hb4))
  clear c0 c1 c2 d0 d1 d2 e0 e1 e2 HX1 HX2 HX3 HB1 HB2 HB3
  cases ok with
  | false =>
    have hz : all = 0 := by rw [← HA.out.1]; exact wayW_no HA.out.2
    subst hz
    go_wp2_with fail
    go_ret
    exact ⟨rfl, HB4.out⟩
  | true =>
    obtain ⟨hne, hst, hwk⟩ := wayW_yes HA.out.2
    rw [HA.out.1] at hwk
    have hxl : wn = xs.length := HXL.out
    obtain ⟨j, hj⟩ : ∃ j, wn = j + 1 := ⟨wn - 1, by omega⟩
    subst hj
    have hj1 : xs.length - 1 = j := by omega
    rw [hj1] at hwk
    obtain ⟨b, off, s, e1, hbl, hs, p0⟩ := int_at (HS.out.below HB4.out) (show 0 < j + 1 by omega)
    obtain ⟨b', off', t, e2, -, ht, p1⟩ := int_at (HS.out.below HB4.out) (show j < j + 1 by omega)
    have e1 : wa = _ := e1
    subst e1
    cases e2
    rw [Nat.add_zero] at p0
    have hgs : xs.getD 0 0 = s := by rw [List.getD_eq_getElem?_getD, hs]; rfl
    have hgt : xs.getD j 0 = t := by rw [List.getD_eq_getElem?_getD, ht]; rfl
    rw [hgs, hgt] at hwk
    rw [hgs] at hst
    obtain ⟨kk1, kk2, -, -, kk5, kk6⟩ := check_ok HCE.out
    have HLO : Hid (LinksOk n.links k) := by have e : k = n.stops.length := HKN.out; show LinksOk _ _; rw [e]; exact kk5
    have htin := hwk.end_in HLO.out hst
    have hfar := (far_is HLO.out hst).le hwk
    have hgd := wayL_good HLO.out kk6 hst hfar.1
    have hlim := far_lim HLO.out hst k60 (by rw [← HLN.out]; exact m120) t
    have hwl := wayL_len n.links k s t
    have hfe : fromE n s = 0 := by unfold fromE; rw [if_pos HCE.out, if_pos (by rw [← HKN.out]; exact hst)]
    have hwe : wayErr n k s t = 0 := by
      unfold wayErr; rw [if_neg (by rw [hfe]; simp), if_pos htin, if_neg (by omega)]
    have hwf : wayFar n k s t = far n.links k s t := by unfold wayFar; rw [if_pos hwe]
    have HWE := Lib.hid hwe
    have HWF := Lib.hid hwf
    have HWW := Lib.hid (hgd.way hst)
    obtain ⟨P, hP⟩ : ∃ P, wayL n.links k s t = P := ⟨_, rfl⟩
    rw [hP] at HWW hgd hwl
    have HP := Lib.hid hP
    have HGD := Lib.hid hgd
    obtain ⟨d, hd⟩ : ∃ d, far n.links k s t = d := ⟨_, rfl⟩
    rw [hd] at HWW hwl HWF hfar hlim
    obtain ⟨pn, hpn⟩ : ∃ pn, P.length = pn := ⟨_, rfl⟩
    have HPN := Lib.hid hpn
    have hp0 : 0 < pn := by rw [← hpn]; exact List.length_pos_iff.2 hgd.ne
    rw [hpn] at hwl
    obtain ⟨hf0, hf1⟩ := hfar
    have hpl : pn ≤ 30000000000 := by omega
    have HB4d : Hid (Below w.heap.size w w4.drew) := HB4.out.trans (Below.drew (Below.refl _ _))
    have hjr : IntKind.i64.wrap (j : Int) = (j : Int) := by rw [IntKind.wrap_i64]; omega
    have hji : (j : Int) < (j : Int) + 1 := by omega
    have hj0 : (0 : Int) < (j : Int) + 1 := by omega
    clear hst htin hwk hgd hfe hwe hwf hgs hgt hs ht hne hxl hj1 hP hpn hd kk1 kk2 kk5 kk6
    obtain ⟨c0, c1, c2, -, -, -⟩ := box3_cells HX4.out
    go_upto_region 8 with fail
    go_region_held3 (fun w' => w'.cell? ⟨w.heap.size, 0, none⟩ = some (.int .i64 n.ver) ∧ w'.cell? ⟨w.heap.size, 1, none⟩ = some (.slice sa k sc) ∧ w'.cell? ⟨w.heap.size, 2, none⟩ = some (.slice la m lc) ∧ w'.cell? ⟨b, off, none⟩ = some (.int .i64 s) ∧ w'.cell? ⟨b, off + j, none⟩ = some (.int .i64 t))
      (first | go_keep | (exact ⟨d0, d1, d2, z0, z1⟩))
      (first
        | (go_at_call 45; go_loud (refine (pway_gen n ⟨sa, k, sc⟩ ⟨la, m, lc⟩ s t w4.drew k60 m120 (HH.out.below HB4d.out)).mono ?_); rintro e w5 ⟨va, vn, vc, rfl, -, hv2, hb5⟩; obtain ⟨hv3, hv4⟩ := hv2 HWE.out; rw [HP.out] at hv3 hv4; rw [HPN.out] at hv4; subst hv4; rw [HWE.out, HWF.out]; have HV5 := Lib.hid hv3; have HB5 := Lib.hid (HB4d.out.trans (hb5.mono HB4d.out.size)); have HX5 := Lib.hid (box_below (w := w4.drew) HX4.out hb5); obtain ⟨d0, d1, d2, -, -, -⟩ := box3_cells HX5.out; have z0 := (hb5.cell (p := ⟨b, off, none⟩) hbl).trans p0; have z1 := (hb5.cell (p := ⟨b, off + j, none⟩) hbl).trans p1; have hbl5 : b < w5.heap.size := (by have h1 : w4.heap.size ≤ w5.heap.size := hb5.size; omega); clear hb5 hv2 hv3))
    clear c0 c1 c2 p0 p1
    obtain ⟨i, hi⟩ : ∃ i, vn = i + 1 := ⟨vn - 1, by omega⟩
    subst hi
    obtain ⟨b3, off3, s', e3, hbl3, hs', -⟩ := int_at HV5.out (show 0 < i + 1 by omega)
    have e3 : va = _ := e3
    subst e3
    have hgs : s' = s := by
      have := HGD.out.hd
      rw [List.getD_eq_getElem?_getD, hs'] at this; exact this
    subst hgs
    clear hs'
    have hi1 : i ≤ 30000000000 := by omega
    have hir : IntKind.i64.wrap (i : Int) = (i : Int) := by rw [IntKind.wrap_i64]; omega
    have hii : (i : Int) < (i : Int) + 1 := by omega
    have hi0 : (0 : Int) < (i : Int) + 1 := by omega
    have hle : decide (d ≤ all) = true := decide_eq_true hf1
    have hdd : ((d : Int) == d) = true := by simp
    have hss : ((s' : Int) == s') = true := by simp
    have htt : ((t : Int) == t) = true := by simp
    go_upto_region 10 with (go_at_call 46; go_loud (refine (pweight_any n ⟨sa, k, sc⟩ ⟨la, m, lc⟩ (some ⟨b3, off3, none⟩) (i + 1) vc P w5 (HH.out.below HB5.out) HCE.out HV5.out (by omega)).mono ?_); rintro e w6 ⟨rfl, hb6⟩; rw [HWW.out]; have HB6 := Lib.hid (HB5.out.trans (hb6.mono HB5.out.size)); have HV6 := Lib.hid (HV5.out.below hb6); have y0 := (hb6.cell (p := ⟨b, off, none⟩) hbl5).trans z0; have y1 := (hb6.cell (p := ⟨b, off + j, none⟩) hbl5).trans z1; clear hb6)
    clear z0 z1 d0 d1 d2
    obtain ⟨b4, off4, s2, e4, -, hs2, q0⟩ := int_at HV6.out (show 0 < i + 1 by omega)
    obtain ⟨b5, off5, t2, e5, -, ht2, q1⟩ := int_at HV6.out (show i < i + 1 by omega)
    cases e4
    cases e5
    rw [Nat.add_zero] at q0
    have hs3 : s2 = s' := by
      have := HGD.out.hd
      rw [List.getD_eq_getElem?_getD, hs2] at this; exact this
    have ht3 : t2 = t := by
      have := HGD.out.lt
      rw [HPN.out, Nat.add_sub_cancel, List.getD_eq_getElem?_getD, ht2] at this; exact this
    subst hs3 ht3
    clear hs2 ht2
    go_quiet (fail)
    go_wp2_with fail
    go_ret
    exact ⟨rfl, below_drewN HB6.out _⟩
end Go.Proofs.Yteihffnmgacfpaa.Ne
