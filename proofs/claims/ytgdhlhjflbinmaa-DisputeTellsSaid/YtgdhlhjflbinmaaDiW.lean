/- Disputes: the law that the document's words and the program's are the same, walked. -/
import Derived.Test.YtgdhlhjflbinmaaDiT
import Derived.Test.YtgdhlhjflbinmaaDiH
import Derived.Test.YtgdhlhjflbinmaaDiI
import Derived.Test.YtgdhlhjflbinmaaIs
namespace Go.Proofs.Ytgdhlhjflbinmaa
open Go.RowKit Go.V Go.Sort Go.Shelf Go.Proofs Go.Maps

theorem remR_len (l : List Ride) (t : Int) : (remR l t).length ≤ l.length := by
  unfold remR
  split
  · exact List.length_filter_le _ _
  · simp

set_option maxHeartbeats 8000000 in
set_option maxRecDepth 100000 in
theorem dtells_any (t : Tar) (hb hs hr : Hdr) (c : Int) (ha hb' : Hdr) (xs ys : List Ride) (x : Ride) (w : World) (hok : ∀ r ∈ xs, Ride.ok r) (hok' : ∀ r ∈ ys, Ride.ok r) (hxo : Ride.ok x) (h : TarIn w t hb hs hr) (hx : Sl Ride.cod w ha.a ha.n ha.cap xs) (hy : Sl Ride.cod w hb'.a hb'.n hb'.cap ys) :
    Calls Try.prog 3 #[t.val hb hs hr, .agg (caseBox c ha hb' x)] w fun e w' => e = .returned (.bool true) ∧ Below w.heap.size w w' := by
  have HN := Lib.hid hx.hlen
  have hbm : hb.n ≤ 9223372036854775807 ∧ hs.n ≤ 9223372036854775807 ∧ hr.n ≤ 9223372036854775807 := by
    have h1 := h.b.hcap; have h2 := h.b.hmax; have h3 := h.s.hcap; have h4 := h.s.hmax; have h5 := h.r.hcap; have h6 := h.r.hmax
    unfold maxLen at h2 h4 h6; omega
  have C0 : Hid (Ctx w _ t hb hs hr c ha hb' x) := Ctx.start w
  unfold caseBox Tar.box at C0
  obtain ⟨fb, hfb⟩ : ∃ fb, ((decide (hb.n ≤ 100) && decide (hs.n ≤ 50) && decide (hr.n ≤ 50)) && decide (ha.n ≤ 60) && decide (hb'.n ≤ 60)) = fb := ⟨_, rfl⟩
  have HFB := Lib.hid hfb
  unfold Tar.val caseBox
  go_enter Try.func3, Try.ntmps3
  cases fb with
  | false =>
    clear hfb
    go_wp2_with (first
      | (go_at_call 4; refine (awake33_any _).mono ?_; rintro e w1 ⟨rfl, hb1⟩; have C1 := Lib.hid (C0.out.next hb1); obtain ⟨⟨kk, k0, k1, k2, k3, k4, k5, k6, k7, k8⟩, ll, q0, q1, q2, q3, q4, q5, q6⟩ := C1.out.cells; clear hb1)
      | (go_at_call 5; refine (few33_any t hb hs hr c ha hb' x _ hbm).mono ?_; rintro e w2 ⟨rfl, hb2⟩; rw [HFB.out]; have C2 := Lib.hid (C1.out.next hb2); clear hb2))
    go_ret
    exact ⟨rfl, C2.out.bel⟩
  | true =>
    have hfew : (hb.n ≤ 1000000 ∧ hs.n ≤ 1000000 ∧ hr.n ≤ 1000000) ∧ ha.n ≤ 60 ∧ hb'.n ≤ 60 := by
      simp only [Bool.and_eq_true, decide_eq_true_eq] at hfb; omega
    obtain ⟨hf1, hna, hnb⟩ := hfew
    clear hfb
    have hlR := (repR_in (l := xs) (x := x)).1
    have hlZ := remR_len xs x.t
    have hD : delE t c xs x = (if repE xs x = 0 then betE t c xs (repR xs x) else repE xs x) ∧ delV t c xs x = (if repE xs x = 0 then betV t c xs (repR xs x) else 0) := by
      unfold delE delV; exact ⟨rfl, rfl⟩
    obtain ⟨R, hR⟩ : ∃ R, repR xs x = R := ⟨_, rfl⟩
    obtain ⟨E, hE⟩ : ∃ E, repE xs x = E := ⟨_, rfl⟩
    obtain ⟨Z, hZ⟩ : ∃ Z, remR xs x.t = Z := ⟨_, rfl⟩
    obtain ⟨F, hF⟩ : ∃ F, findE xs x.t = F := ⟨_, rfl⟩
    obtain ⟨bE, hbE⟩ : ∃ z, betE t c xs ys = z := ⟨_, rfl⟩
    obtain ⟨bV, hbV⟩ : ∃ z, betV t c xs ys = z := ⟨_, rfl⟩
    obtain ⟨dE, hdE⟩ : ∃ z, delE t c xs x = z := ⟨_, rfl⟩
    obtain ⟨dV, hdV⟩ : ∃ z, delV t c xs x = z := ⟨_, rfl⟩
    obtain ⟨M, hM⟩ : ∃ z, monthE t c xs = z := ⟨_, rfl⟩
    obtain ⟨ps, hps⟩ : ∃ z, splR t c xs = z := ⟨_, rfl⟩
    have HE : Hid (repE xs x = E ∧ repR xs x = R ∧ findE xs x.t = F ∧ remR xs x.t = Z) := ⟨hE, hR, hF, hZ⟩
    have HB : Hid (betV t c xs ys = bV ∧ betE t c xs ys = bE) := ⟨hbV, hbE⟩
    have HDl : Hid (delV t c xs x = dV ∧ delE t c xs x = dE) := ⟨hdV, hdE⟩
    have HM : Hid (monthE t c xs = M ∧ splR t c xs = ps) := ⟨hM, hps⟩
    rw [hR, hE, hdE, hdV] at hD
    have HDD := Lib.hid hD
    rw [hR] at hlR
    rw [hZ] at hlZ
    have hlR2 : R.length ≤ 60 := by have := HN.out; omega
    have hlZ2 : Z.length ≤ 60 := by have := HN.out; omega
    clear hD hR hE hZ hF hbE hbV hdE hdV hM hps hlR hlZ
    go_upto_if 120 with (first
      | (go_at_call 4; refine (awake33_any _).mono ?_; rintro e w1 ⟨rfl, hb1⟩; have C1 := Lib.hid (C0.out.next hb1); clear hb1; obtain ⟨⟨kk, k0, k1, k2, k3, k4, k5, k6, k7, k8⟩, ll, q0, q1, q2, q3, q4, q5, q6⟩ := C1.out.cells)
      | (go_at_call 5; refine (few33_any t hb hs hr c ha hb' x _ hbm).mono ?_; rintro e w2 ⟨rfl, hb2⟩; rw [HFB.out]; have C2 := Lib.hid (C1.out.next hb2); clear hb2 kk k0 k1 k2 k3 k4 k5 k6 k7 k8 ll q0 q1 q2 q3 q4 q5 q6; obtain ⟨⟨kk, k0, k1, k2, k3, k4, k5, k6, k7, k8⟩, ll, q0, q1, q2, q3, q4, q5, q6⟩ := C2.out.cells)
      | (go_at_call 6; refine (replace_any ha.a ha.n ha.cap xs x _ (by omega) hok hxo (hx.below C2.out.bel)).mono ?_; rintro e w3 ⟨v, rfl, ho, hb3⟩; rw [HE.out.2.1] at ho; rw [HE.out.1]; obtain ⟨aA, cA, rfl, sA, -⟩ := ho.slice; have A_3 := Lib.hid sA; clear ho sA; have C3 := Lib.hid (C2.out.next hb3); clear hb3 kk k0 k1 k2 k3 k4 k5 k6 k7 k8 ll q0 q1 q2 q3 q4 q5 q6; obtain ⟨⟨kk, k0, k1, k2, k3, k4, k5, k6, k7, k8⟩, ll, q0, q1, q2, q3, q4, q5, q6⟩ := C3.out.cells)
      | (go_at_call 7; refine (rrep_any ha.a ha.n ha.cap xs x _ (by omega) (hx.below C3.out.bel)).mono ?_; rintro e w4 ⟨v, rfl, ho, hb4⟩; rw [HE.out.2.1] at ho; rw [HE.out.1]; obtain ⟨aB, cB, rfl, sB, -⟩ := ho.slice; have B_4 := Lib.hid sB; clear ho sB; have A_4 := Lib.hid (A_3.out.below hb4); have C4 := Lib.hid (C3.out.next hb4); clear hb4 kk k0 k1 k2 k3 k4 k5 k6 k7 k8 ll q0 q1 q2 q3 q4 q5 q6; obtain ⟨⟨kk, k0, k1, k2, k3, k4, k5, k6, k7, k8⟩, ll, q0, q1, q2, q3, q4, q5, q6⟩ := C4.out.cells)
      | (go_at_call 8; refine (remove_any ha.a ha.n ha.cap xs x.t _ (by omega) hok (hx.below C4.out.bel)).mono ?_; rintro e w5 ⟨v, rfl, ho, hb5⟩; rw [HE.out.2.2.2] at ho; rw [HE.out.2.2.1]; obtain ⟨aD, cD, rfl, sD, -⟩ := ho.slice; have D_5 := Lib.hid sD; clear ho sD; have A_5 := Lib.hid (A_4.out.below hb5); have B_5 := Lib.hid (B_4.out.below hb5); have C5 := Lib.hid (C4.out.next hb5); clear hb5 kk k0 k1 k2 k3 k4 k5 k6 k7 k8 ll q0 q1 q2 q3 q4 q5 q6; obtain ⟨⟨kk, k0, k1, k2, k3, k4, k5, k6, k7, k8⟩, ll, q0, q1, q2, q3, q4, q5, q6⟩ := C5.out.cells)
      | (go_at_call 9; refine (rrem_any ha.a ha.n ha.cap xs x.t _ (by omega) (hx.below C5.out.bel)).mono ?_; rintro e w6 ⟨v, rfl, ho, hb6⟩; rw [HE.out.2.2.2] at ho; rw [HE.out.2.2.1]; obtain ⟨aG, cG, rfl, sG, -⟩ := ho.slice; have G_6 := Lib.hid sG; clear ho sG; have A_6 := Lib.hid (A_5.out.below hb6); have B_6 := Lib.hid (B_5.out.below hb6); have D_6 := Lib.hid (D_5.out.below hb6); have C6 := Lib.hid (C5.out.next hb6); clear hb6 kk k0 k1 k2 k3 k4 k5 k6 k7 k8 ll q0 q1 q2 q3 q4 q5 q6; obtain ⟨⟨kk, k0, k1, k2, k3, k4, k5, k6, k7, k8⟩, ll, q0, q1, q2, q3, q4, q5, q6⟩ := C6.out.cells)
      | (go_at_call 10; go_fit (same_any aA R.length cA R aB R.length cB R _ (by omega) A_6.out B_6.out); rintro e w7 ⟨rfl, hb7⟩; rw [show decide (R = R) = true from decide_eq_true rfl]; have B_7 := Lib.hid (B_6.out.below hb7); have D_7 := Lib.hid (D_6.out.below hb7); have G_7 := Lib.hid (G_6.out.below hb7); have C7 := Lib.hid (C6.out.next hb7); clear hb7 kk k0 k1 k2 k3 k4 k5 k6 k7 k8 ll q0 q1 q2 q3 q4 q5 q6; obtain ⟨⟨kk, k0, k1, k2, k3, k4, k5, k6, k7, k8⟩, ll, q0, q1, q2, q3, q4, q5, q6⟩ := C7.out.cells)
      | (go_at_call 10; go_fit (same_any aD Z.length cD Z aG Z.length cG Z _ (by omega) D_7.out G_7.out); rintro e w8 ⟨rfl, hb8⟩; rw [show decide (Z = Z) = true from decide_eq_true rfl]; have B_8 := Lib.hid (B_7.out.below hb8); have C8 := Lib.hid (C7.out.next hb8); clear hb8 kk k0 k1 k2 k3 k4 k5 k6 k7 k8 ll q0 q1 q2 q3 q4 q5 q6; obtain ⟨⟨kk, k0, k1, k2, k3, k4, k5, k6, k7, k8⟩, ll, q0, q1, q2, q3, q4, q5, q6⟩ := C8.out.cells)
      | (go_at_call 11; go_fit (between_any t hb hs hr c ha.a ha.n ha.cap xs hb'.a hb'.n hb'.cap ys _ hf1 (by omega) (by omega) hok hok' (h.below C8.out.bel) (hx.below C8.out.bel) (hy.below C8.out.bel)); rintro e w9 ⟨rfl, hb9⟩; rw [HB.out.1, HB.out.2]; have B_9 := Lib.hid (B_8.out.below hb9); have C9 := Lib.hid (C8.out.next hb9); clear hb9 kk k0 k1 k2 k3 k4 k5 k6 k7 k8 ll q0 q1 q2 q3 q4 q5 q6; obtain ⟨⟨kk, k0, k1, k2, k3, k4, k5, k6, k7, k8⟩, ll, q0, q1, q2, q3, q4, q5, q6⟩ := C9.out.cells)
      | (go_at_call 12; go_fit (rbetween_any t hb hs hr c ha.a ha.n ha.cap xs hb'.a hb'.n hb'.cap ys _ hf1 (by omega) (by omega) (h.below C9.out.bel) (hx.below C9.out.bel) (hy.below C9.out.bel)); rintro e w10 ⟨rfl, hb10⟩; rw [HB.out.1, HB.out.2]; have B_10 := Lib.hid (B_9.out.below hb10); have C10 := Lib.hid (C9.out.next hb10); clear hb10 kk k0 k1 k2 k3 k4 k5 k6 k7 k8 ll q0 q1 q2 q3 q4 q5 q6; obtain ⟨⟨kk, k0, k1, k2, k3, k4, k5, k6, k7, k8⟩, ll, q0, q1, q2, q3, q4, q5, q6⟩ := C10.out.cells)
      | (go_at_call 13; refine (delta_any t hb hs hr c ha.a ha.n ha.cap xs x _ hf1 (by omega) hok hxo (h.below C10.out.bel) (hx.below C10.out.bel)).mono ?_; rintro e w11 ⟨rfl, hb11⟩; rw [HDl.out.1, HDl.out.2]; have B_11 := Lib.hid (B_10.out.below hb11); have C11 := Lib.hid (C10.out.next hb11); clear hb11 kk k0 k1 k2 k3 k4 k5 k6 k7 k8 ll q0 q1 q2 q3 q4 q5 q6; obtain ⟨⟨kk, k0, k1, k2, k3, k4, k5, k6, k7, k8⟩, ll, q0, q1, q2, q3, q4, q5, q6⟩ := C11.out.cells))
    go_cut [19, 20] (fun u v wx => u = .int .i64 dV ∧ v = .int .i64 dE ∧ Hid (Ctx w wx t hb hs hr c ha hb' x))
    case first =>
      by_cases e0 : E = 0
      · subst e0
        have hv := HDD.out
        rw [if_pos rfl, if_pos rfl] at hv
        have HV := Lib.hid hv
        clear hv
        go_wp2_with (go_at_call 12; refine (rbetween_any t hb hs hr c ha.a ha.n ha.cap xs aB R.length cB R _ hf1 (by omega) (by omega) (h.below C11.out.bel) (hx.below C11.out.bel) B_11.out).mono ?_; rintro e w12 ⟨rfl, hb12⟩; rw [← HV.out.1, ← HV.out.2]; have C12 := Lib.hid (C11.out.next hb12); clear hb12)
        go_meet
        exact ⟨rfl, rfl, C12.out⟩
      · have e1 : (E == 0) = false := by simp; exact e0
        have hv := HDD.out
        rw [if_neg e0, if_neg e0] at hv
        obtain ⟨hv1, hv2⟩ := hv
        go_wp2_with fail
        go_meet
        exact ⟨by rw [hv2], by rw [hv1], C11.out⟩
    obtain ⟨rfl, rfl, D0⟩ := hcut
    clear kk k0 k1 k2 k3 k4 k5 k6 k7 k8 ll q0 q1 q2 q3 q4 q5 q6
    obtain ⟨⟨kk, k0, k1, k2, k3, k4, k5, k6, k7, k8⟩, ll, q0, q1, q2, q3, q4, q5, q6⟩ := D0.out.cells
    go_wp2_with (first
      | (go_at_call 14; refine (dsplit_any t hb hs hr c ha.a ha.n ha.cap xs _ hf1 (by omega) hok (h.below D0.out.bel) (hx.below D0.out.bel)).mono ?_; rintro e w13 ⟨v, rfl, ho, hb13⟩; rw [HM.out.2] at ho; rw [HM.out.1]; obtain ⟨aP, cP, rfl, sP, -⟩ := ho.slice; have P_13 := Lib.hid sP; have D1 := Lib.hid (D0.out.next hb13); clear ho sP hb13 kk k0 k1 k2 k3 k4 k5 k6 k7 k8 ll q0 q1 q2 q3 q4 q5 q6; obtain ⟨⟨kk, k0, k1, k2, k3, k4, k5, k6, k7, k8⟩, ll, q0, q1, q2, q3, q4, q5, q6⟩ := D1.out.cells)
      | (go_at_call 15; refine (rsplit33_any t hb hs hr c ha.a ha.n ha.cap xs _ hf1 (by omega) (h.below D1.out.bel) (hx.below D1.out.bel)).mono ?_; rintro e w14 ⟨v, rfl, ho, hb14⟩; rw [HM.out.2] at ho; rw [HM.out.1]; obtain ⟨aQ, cQ, rfl, sQ, -⟩ := ho.slice; have Q_14 := Lib.hid sQ; have P_14 := Lib.hid (P_13.out.below hb14); have D2 := Lib.hid (D1.out.next hb14); clear ho sQ hb14 kk k0 k1 k2 k3 k4 k5 k6 k7 k8 ll q0 q1 q2 q3 q4 q5 q6)
      | (go_at_call 16; refine (Is.isame_any aP ps.length cP ps aQ ps.length cQ ps _ P_14.out Q_14.out).mono ?_; rintro e w15 ⟨rfl, hb15⟩; rw [show decide (ps = ps) = true from decide_eq_true rfl]; have D3 := Lib.hid (D2.out.next hb15); clear hb15))
    go_ret
    exact ⟨rfl, D3.out.bel⟩
end Go.Proofs.Ytgdhlhjflbinmaa
