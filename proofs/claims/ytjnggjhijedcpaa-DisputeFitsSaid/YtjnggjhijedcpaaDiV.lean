/- Disputes: the law on deltas and parts, walked. -/
import Derived.Test.YtjnggjhijedcpaaDiT
import Derived.Test.YtjnggjhijedcpaaFaR
import Derived.Test.YtjnggjhijedcpaaTrO2
namespace Go.Proofs.Ytjnggjhijedcpaa
open Go.RowKit Go.V Go.Sort Go.Shelf Go.Proofs Go.Maps Go.ChangeShapes Go.WideShapes Go.ChangeAt

/-- Another ride in one's stead: the month is as right as it was. -/
theorem rep_month {t : Tar} {c : Int} {l : List Ride} {x : Ride} (h : monthE t c l = 0) (hr : repE l x = 0) : monthE t c (repR l x) = 0 := by
  have hp : MonthP t c := by
    by_cases hp : MonthP t c
    · exact hp
    · unfold monthE at h; rw [if_neg hp] at h; cases h
  have hg0 : groupsE l t.window t.chain = 0 := by unfold monthE at h; rwa [if_pos hp] at h
  have hl : l.length ≤ 2048 := by
    unfold groupsE at hg0
    by_cases hl : l.length ≤ 2048
    · exact hl
    · rw [if_neg hl] at hg0; cases hg0
  have hP : GroupsP l t.window t.chain := by
    unfold groupsE at hg0
    rw [if_pos hl] at hg0
    by_cases hP : GroupsP l t.window t.chain
    · exact hP
    · rw [if_neg hP] at hg0; cases hg0
  have hx : RightP [x] := by
    by_cases hx : RightP [x]
    · exact hx
    · unfold repE at hr; rw [if_neg hx] at hr; cases hr
  have hf : findE l x.t = 0 := by unfold repE at hr; rwa [if_pos hx] at hr
  have hv : findV l x.t = findI l x.t := by unfold findV; rw [if_pos hf]
  have hneg : ¬ findI l x.t < 0 := by
    intro hh
    unfold findE at hf
    rw [if_pos hP.1, if_pos hh] at hf
    cases hf
  have hR : repR l x = l.set (findV l x.t).toNat x := by unfold repR; rw [if_pos hr]
  rcases findI_cases l x.t with ⟨h1, -⟩ | ⟨k, r, h1, h2, h3, h4, -⟩
  · omega
  have hk : (findV l x.t).toNat = k := by rw [hv, h1]; simp
  have ht : (l.set k x).map Ride.t = l.map Ride.t := by
    rw [List.map_set, ← h4]
    apply List.ext_getElem?
    intro i
    by_cases hi : i = k
    · subst hi
      rw [List.getElem?_set_self (by simpa using h2), List.getElem?_map, h3]; rfl
    · rw [List.getElem?_set_ne (by omega)]
  have hRP : RightP (repR l x) := by
    rw [hR, hk]
    refine ⟨by rw [List.length_set]; exact hl, fun r hr => ?_, by rw [ht]; exact hP.1.2.2⟩
    rcases List.mem_or_eq_of_mem_set hr with h5 | h5
    · exact hP.1.2.1 r h5
    · rw [h5]; exact hx.2.1 x (by simp)
  unfold monthE
  rw [if_pos hp]
  unfold groupsE
  rw [if_pos (by rw [hR, List.length_set]; exact hl), if_pos ⟨hRP, hP.2⟩]

set_option maxHeartbeats 8000000 in
set_option maxRecDepth 100000 in
theorem dfits_any (t : Tar) (hb hs hr : Hdr) (c : Int) (ha hb' : Hdr) (xs ys : List Ride) (x : Ride) (w : World) (hok : ∀ r ∈ xs, Ride.ok r) (hok' : ∀ r ∈ ys, Ride.ok r) (hxo : Ride.ok x) (h : TarIn w t hb hs hr) (hx : Sl Ride.cod w ha.a ha.n ha.cap xs) (hy : Sl Ride.cod w hb'.a hb'.n hb'.cap ys) :
    Calls Try.prog 6 #[t.val hb hs hr, .agg (caseBox c ha hb' x)] w fun e w' => e = .returned (.bool true) ∧ Below w.heap.size w w' := by
  have HN := Lib.hid hx.hlen
  have hbm : hb.n ≤ 9223372036854775807 ∧ hs.n ≤ 9223372036854775807 ∧ hr.n ≤ 9223372036854775807 := by
    have h1 := h.b.hcap; have h2 := h.b.hmax; have h3 := h.s.hcap; have h4 := h.s.hmax; have h5 := h.r.hcap; have h6 := h.r.hmax
    unfold maxLen at h2 h4 h6; omega
  have C0 : Hid (Ctx w _ t hb hs hr c ha hb' x) := Ctx.start w
  unfold caseBox Tar.box at C0
  obtain ⟨fb, hfb⟩ : ∃ fb, ((decide (hb.n ≤ 100) && decide (hs.n ≤ 50) && decide (hr.n ≤ 50)) && decide (ha.n ≤ 60) && decide (hb'.n ≤ 60)) = fb := ⟨_, rfl⟩
  have HFB := Lib.hid hfb
  unfold Tar.val caseBox
  go_enter Try.func6, Try.ntmps6
  cases fb with
  | false =>
    clear hfb
    go_wp2_with (first
      | (go_at_call 33; refine (awake33_any _).mono ?_; rintro e w1 ⟨rfl, hb1⟩; have C1 := Lib.hid (C0.out.next hb1); obtain ⟨⟨kk, k0, k1, k2, k3, k4, k5, k6, k7, k8⟩, ll, q0, q1, q2, q3, q4, q5, q6⟩ := C1.out.cells; clear hb1)
      | (go_at_call 34; refine (few33_any t hb hs hr c ha hb' x _ hbm).mono ?_; rintro e w2 ⟨rfl, hb2⟩; rw [HFB.out]; have C2 := Lib.hid (C1.out.next hb2); clear hb2))
    go_ret
    exact ⟨rfl, C2.out.bel⟩
  | true =>
    have hfew : (hb.n ≤ 1000000 ∧ hs.n ≤ 1000000 ∧ hr.n ≤ 1000000) ∧ ha.n ≤ 60 ∧ hb'.n ≤ 60 := by
      simp only [Bool.and_eq_true, decide_eq_true_eq] at hfb; omega
    obtain ⟨hf1, hna, hnb⟩ := hfew
    clear hfb
    obtain ⟨i1, i2, i3⟩ := billP_in t c xs
    obtain ⟨i4, i5, i6⟩ := billP_in t c ys
    obtain ⟨E1, hE1⟩ : ∃ E, monthE t c xs = E := ⟨_, rfl⟩
    obtain ⟨E2, hE2⟩ : ∃ E, monthE t c ys = E := ⟨_, rfl⟩
    by_cases hboth : E1 = 0 ∧ E2 = 0
    case neg =>
      obtain ⟨F1, hF1⟩ : ∃ F, betE t c xs ys = F := ⟨_, rfl⟩
      obtain ⟨F2, hF2⟩ : ∃ F, betE t c ys xs = F := ⟨_, rfl⟩
      have n1 : ¬ F1 = 0 := by
        rw [← hF1]; unfold betE; rw [hE1, hE2]; split <;> omega
      have n2 : ¬ F2 = 0 := by
        rw [← hF2]; unfold betE; rw [hE1, hE2]; split <;> omega
      have z1 : (F1 == 0) = false := by simp; exact n1
      have z2 : (F2 == 0) = false := by simp; exact n2
      have hV1 : betV t c xs ys = 0 := by unfold betV; rw [hF1, if_neg n1]
      have hV2 : betV t c ys xs = 0 := by unfold betV; rw [hF2, if_neg n2]
      have HV : Hid (betE t c xs ys = F1 ∧ betV t c xs ys = 0 ∧ betE t c ys xs = F2 ∧ betV t c ys xs = 0) := ⟨hF1, hV1, hF2, hV2⟩
      clear hE1 hE2 hboth hF1 hF2 hV1 hV2 i1 i2 i3 i4 i5 i6
      go_wp2_with (first
        | (go_at_call 33; refine (awake33_any _).mono ?_; rintro e w1 ⟨rfl, hb1⟩; have C1 := Lib.hid (C0.out.next hb1); obtain ⟨⟨kk, k0, k1, k2, k3, k4, k5, k6, k7, k8⟩, ll, q0, q1, q2, q3, q4, q5, q6⟩ := C1.out.cells; clear hb1)
        | (go_at_call 34; refine (few33_any t hb hs hr c ha hb' x _ hbm).mono ?_; rintro e w2 ⟨rfl, hb2⟩; rw [HFB.out]; have C2 := Lib.hid (C1.out.next hb2); clear hb2 kk k0 k1 k2 k3 k4 k5 k6 k7 k8 ll q0 q1 q2 q3 q4 q5 q6; obtain ⟨⟨kk, k0, k1, k2, k3, k4, k5, k6, k7, k8⟩, ll, q0, q1, q2, q3, q4, q5, q6⟩ := C2.out.cells)
        | (go_at_call 35; go_fit (between_any t hb hs hr c ha.a ha.n ha.cap xs hb'.a hb'.n hb'.cap ys _ hf1 (by omega) (by omega) hok hok' (h.below C2.out.bel) (hx.below C2.out.bel) (hy.below C2.out.bel)); rintro e w3 ⟨rfl, hb3⟩; rw [HV.out.1, HV.out.2.1]; have C3 := Lib.hid (C2.out.next hb3); clear hb3 kk k0 k1 k2 k3 k4 k5 k6 k7 k8 ll q0 q1 q2 q3 q4 q5 q6; obtain ⟨⟨kk, k0, k1, k2, k3, k4, k5, k6, k7, k8⟩, ll, q0, q1, q2, q3, q4, q5, q6⟩ := C3.out.cells)
        | (go_at_call 35; go_fit (between_any t hb hs hr c hb'.a hb'.n hb'.cap ys ha.a ha.n ha.cap xs _ hf1 (by omega) (by omega) hok' hok (h.below C3.out.bel) (hy.below C3.out.bel) (hx.below C3.out.bel)); rintro e w4 ⟨rfl, hb4⟩; rw [HV.out.2.2.1, HV.out.2.2.2]; have C4 := Lib.hid (C3.out.next hb4); clear hb4))
      go_ret
      exact ⟨by simp [n1, n2], C4.out.bel⟩
    case pos =>
      obtain ⟨rfl, rfl⟩ := hboth
      have hall := split_all hE1
      have HTAR : Hid (tarOk t = true) := by
        show _ = _
        by_cases hp : MonthP t c
        · exact hp.1
        · unfold monthE at hE1; rw [if_neg hp] at hE1; cases hE1
      obtain ⟨gs, hgs⟩ : ∃ gs, billG t c xs = gs := ⟨_, rfl⟩
      obtain ⟨S, hS⟩ : ∃ S, billS t c xs = S := ⟨_, rfl⟩
      obtain ⟨P, hP⟩ : ∃ P, billP t c xs = P := ⟨_, rfl⟩
      obtain ⟨gs', hgs'⟩ : ∃ gs, billG t c ys = gs := ⟨_, rfl⟩
      obtain ⟨S', hS'⟩ : ∃ S, billS t c ys = S := ⟨_, rfl⟩
      obtain ⟨P', hP'⟩ : ∃ P, billP t c ys = P := ⟨_, rfl⟩
      rw [hS, hP] at i2
      rw [hS] at i3
      rw [hP] at i1
      rw [hS', hP'] at i5
      rw [hS'] at i6
      rw [hP'] at i4
      have HQ : Hid (billG t c xs = gs ∧ billS t c xs = S ∧ billP t c xs = P ∧ monthE t c xs = 0) := ⟨hgs, hS, hP, hE1⟩
      have HQ' : Hid (billG t c ys = gs' ∧ billS t c ys = S' ∧ billP t c ys = P' ∧ monthE t c ys = 0) := ⟨hgs', hS', hP', hE2⟩
      obtain ⟨D, hD⟩ : ∃ D, betV t c xs ys = D := ⟨_, rfl⟩
      obtain ⟨D', hD'⟩ : ∃ D, betV t c ys xs = D := ⟨_, rfl⟩
      have hDe : betE t c xs ys = 0 ∧ D = P' - P := by
        rw [← hD]; unfold betV betE; rw [hE1, hE2, hP, hP']; exact ⟨rfl, rfl⟩
      have hDe' : betE t c ys xs = 0 ∧ D' = P - P' := by
        rw [← hD']; unfold betV betE; rw [hE1, hE2, hP, hP']; exact ⟨rfl, rfl⟩
      have HD : Hid (betE t c xs ys = 0 ∧ betV t c xs ys = D ∧ betE t c ys xs = 0 ∧ betV t c ys xs = D') := ⟨hDe.1, hD, hDe'.1, hD'⟩
      have d1 : D ≤ P' - P := by omega
      have d2 : P' - P ≤ D := by omega
      have d3 : D' ≤ P - P' := by omega
      have d4 : P - P' ≤ D' := by omega
      have z1 : (D + D' != 0) = false := by simp; omega
      have z2 : (D != P' - P) = false := by simp; omega
      have HREP : Hid (repE xs x = 0 → delE t c xs x = 0 ∧ delV t c xs x + betV t c (repR xs x) ys = D ∧ betE t c (repR xs x) ys = 0 ∧ (-68719476736 ≤ delV t c xs x ∧ delV t c xs x ≤ 68719476736) ∧ -68719476736 ≤ betV t c (repR xs x) ys ∧ betV t c (repR xs x) ys ≤ 68719476736) := by
        intro hr0
        have hm := rep_month hE1 hr0
        obtain ⟨q1, q2, q3⟩ := billP_in t c (repR xs x)
        have a1 : betE t c xs (repR xs x) = 0 := by unfold betE; rw [hE1, hm]; rfl
        have a2 : betV t c xs (repR xs x) = billP t c (repR xs x) - P := by unfold betV; rw [a1, hP]; rfl
        have a3 : betE t c (repR xs x) ys = 0 := by unfold betE; rw [hm, hE2]; rfl
        have a4 : betV t c (repR xs x) ys = P' - billP t c (repR xs x) := by unfold betV; rw [a3, hP']; rfl
        have a5 : delE t c xs x = 0 := by unfold delE; rw [hr0]; exact a1
        have a6 : delV t c xs x = billP t c (repR xs x) - P := by unfold delV; rw [hr0]; exact a2
        rw [a4, a5, a6, a3]
        exact ⟨rfl, by omega, rfl, by omega, by omega, by omega⟩
      rw [hP] at hall
      have HALL := Lib.hid hall
      clear hE1 hE2 hgs hS hP hgs' hS' hP' hD hD' hDe hDe' hall
      go_upto_if 112 with (first
        | (go_at_call 33; refine (awake33_any _).mono ?_; rintro e w1 ⟨rfl, hb1⟩; have C1 := Lib.hid (C0.out.next hb1); obtain ⟨⟨kk, k0, k1, k2, k3, k4, k5, k6, k7, k8⟩, ll, q0, q1, q2, q3, q4, q5, q6⟩ := C1.out.cells; clear hb1)
        | (go_at_call 34; refine (few33_any t hb hs hr c ha hb' x _ hbm).mono ?_; rintro e w2 ⟨rfl, hb2⟩; rw [HFB.out]; have C2 := Lib.hid (C1.out.next hb2); clear hb2 kk k0 k1 k2 k3 k4 k5 k6 k7 k8 ll q0 q1 q2 q3 q4 q5 q6; obtain ⟨⟨kk, k0, k1, k2, k3, k4, k5, k6, k7, k8⟩, ll, q0, q1, q2, q3, q4, q5, q6⟩ := C2.out.cells)
        | (go_at_call 35; go_fit (between_any t hb hs hr c ha.a ha.n ha.cap xs hb'.a hb'.n hb'.cap ys _ hf1 (by omega) (by omega) hok hok' (h.below C2.out.bel) (hx.below C2.out.bel) (hy.below C2.out.bel)); rintro e w3 ⟨rfl, hb3⟩; rw [HD.out.1, HD.out.2.1]; have C3 := Lib.hid (C2.out.next hb3); clear hb3 kk k0 k1 k2 k3 k4 k5 k6 k7 k8 ll q0 q1 q2 q3 q4 q5 q6; obtain ⟨⟨kk, k0, k1, k2, k3, k4, k5, k6, k7, k8⟩, ll, q0, q1, q2, q3, q4, q5, q6⟩ := C3.out.cells)
        | (go_at_call 35; go_fit (between_any t hb hs hr c hb'.a hb'.n hb'.cap ys ha.a ha.n ha.cap xs _ hf1 (by omega) (by omega) hok' hok (h.below C3.out.bel) (hy.below C3.out.bel) (hx.below C3.out.bel)); rintro e w4 ⟨rfl, hb4⟩; rw [HD.out.2.2.1, HD.out.2.2.2]; have C4 := Lib.hid (C3.out.next hb4); clear hb4 kk k0 k1 k2 k3 k4 k5 k6 k7 k8 ll q0 q1 q2 q3 q4 q5 q6; obtain ⟨⟨kk, k0, k1, k2, k3, k4, k5, k6, k7, k8⟩, ll, q0, q1, q2, q3, q4, q5, q6⟩ := C4.out.cells)
        | (go_at_call 13; go_fit (month_any t hb hs hr c ha.a ha.n ha.cap xs _ hf1 (by omega) hok (h.below C4.out.bel) (hx.below C4.out.bel)); rintro e w5 ⟨v, rfl, hbl, hb5⟩; rw [HQ.out.2.2.2]; rw [HQ.out.1, HQ.out.2.1, HQ.out.2.2.1] at hbl; obtain ⟨a1, c1, g1, rfl, -⟩ := hbl.billIn; have C5 := Lib.hid (C4.out.next hb5); clear hb5 hbl kk k0 k1 k2 k3 k4 k5 k6 k7 k8 ll q0 q1 q2 q3 q4 q5 q6; obtain ⟨⟨kk, k0, k1, k2, k3, k4, k5, k6, k7, k8⟩, ll, q0, q1, q2, q3, q4, q5, q6⟩ := C5.out.cells; have CA5 := Lib.hid (C5.out.alloc (.cells #[.slice a1 gs.length c1, .int .i64 S, .int .i64 P] 32)); have X5 := Lib.hid (box_new w5 (.cells #[.slice a1 gs.length c1, .int .i64 S, .int .i64 P] 32)))
        | (go_at_call 13; go_fit (month_any t hb hs hr c hb'.a hb'.n hb'.cap ys _ hf1 (by omega) hok' (h.below CA5.out.bel) (hy.below CA5.out.bel)); rintro e w6 ⟨v, rfl, hbl, hb6⟩; rw [HQ'.out.2.2.2]; rw [HQ'.out.1, HQ'.out.2.1, HQ'.out.2.2.1] at hbl; obtain ⟨a2, c2, g2, rfl, -⟩ := hbl.billIn; have C6 := Lib.hid (CA5.out.next hb6); have X6 := Lib.hid (box_below X5.out hb6); clear hbl hb6 kk k0 k1 k2 k3 k4 k5 k6 k7 k8 ll q0 q1 q2 q3 q4 q5 q6; obtain ⟨p0, p1, p2, -, -, -⟩ := box3_cells X6.out; have hxl := box_lt X6.out; obtain ⟨⟨kk, k0, k1, k2, k3, k4, k5, k6, k7, k8⟩, ll, q0, q1, q2, q3, q4, q5, q6⟩ := C6.out.cells; have CA6 := Lib.hid (C6.out.alloc (.cells #[.slice a2 gs'.length c2, .int .i64 S', .int .i64 P'] 32)); have XA6 : Hid _ := box_alloc (o := .cells #[.slice a2 gs'.length c2, .int .i64 S', .int .i64 P'] 32) X6.out)
        | (go_at_call 36; refine (replace_any ha.a ha.n ha.cap xs x _ (by omega) hok hxo (hx.below CA6.out.bel)).mono ?_; rintro e w7 ⟨v, rfl, ho, hb7⟩; obtain ⟨a7, c7, rfl, hs7, -⟩ := ho.slice; have HS7 := Lib.hid hs7; have C7 := Lib.hid (CA6.out.next hb7); have X7 := Lib.hid (box_below XA6.out hb7); clear ho hs7 hb7 p0 p1 p2 hxl kk k0 k1 k2 k3 k4 k5 k6 k7 k8 ll q0 q1 q2 q3 q4 q5 q6; obtain ⟨⟨kk, k0, k1, k2, k3, k4, k5, k6, k7, k8⟩, ll, q0, q1, q2, q3, q4, q5, q6⟩ := C7.out.cells))
      have hlr : (repR xs x).length ≤ 60 := by have := (repR_in (l := xs) (x := x)).1; have := HN.out; omega
      have HOKR : Hid (∀ r ∈ repR xs x, Ride.ok r) := (repR_in (l := xs) (x := x)).2 hok hxo
      go_cut [] (fun wx => Hid (Ctx w wx t hb hs hr c ha hb' x) ∧ Hid (wx.heap[w5.heap.size]? = some (.cells #[.slice a1 gs.length c1, .int .i64 S, .int .i64 P] 32 (0, 0))))
      case first =>
        by_cases hr0 : repE xs x = 0
        · obtain ⟨v1, v2, v3, v4, v5⟩ := HREP.out hr0
          have rb : (repE xs x == 0) = true := by simp; exact hr0
          obtain ⟨A, hA⟩ : ∃ A, delV t c xs x = A := ⟨_, rfl⟩
          obtain ⟨B, hB⟩ : ∃ B, betV t c (repR xs x) ys = B := ⟨_, rfl⟩
          rw [hA, hB] at v2
          rw [hA] at v4
          rw [hB] at v5
          have HV : Hid (delE t c xs x = 0 ∧ delV t c xs x = A ∧ betE t c (repR xs x) ys = 0 ∧ betV t c (repR xs x) ys = B) := ⟨v1, hA, v3, hB⟩
          have z3 : (A + B != D) = false := by simp; omega
          clear hA hB v1 v2 v3 hr0
          go_wp2_with (first
            | (go_at_call 37; refine (delta_any t hb hs hr c ha.a ha.n ha.cap xs x _ hf1 (by omega) hok hxo (h.below C7.out.bel) (hx.below C7.out.bel)).mono ?_; rintro e w8 ⟨rfl, hb8⟩; rw [HV.out.1, HV.out.2.1]; have C8 := Lib.hid (C7.out.next hb8); have X8 := Lib.hid (box_below X7.out hb8); have HS8 := Lib.hid (HS7.out.below hb8); clear hb8 kk k0 k1 k2 k3 k4 k5 k6 k7 k8 ll q0 q1 q2 q3 q4 q5 q6; obtain ⟨⟨kk, k0, k1, k2, k3, k4, k5, k6, k7, k8⟩, ll, q0, q1, q2, q3, q4, q5, q6⟩ := C8.out.cells)
            | (go_at_call 35; refine (between_any t hb hs hr c a7 (repR xs x).length c7 (repR xs x) hb'.a hb'.n hb'.cap ys _ hf1 (by omega) (by omega) HOKR.out hok' (h.below C8.out.bel) HS8.out (hy.below C8.out.bel)).mono ?_; rintro e w9 ⟨rfl, hb9⟩; rw [HV.out.2.2.1, HV.out.2.2.2]; have C9 := Lib.hid (C8.out.next hb9); have X9 := Lib.hid (box_below X8.out hb9); clear hb9))
          go_meet
          exact ⟨C9.out, X9.out⟩
        · have rb : (repE xs x == 0) = false := by simp; exact hr0
          clear hr0
          go_wp2_with fail
          go_meet
          exact ⟨C7.out, X7.out⟩
      obtain ⟨D8, Y8⟩ := hcut
      clear kk k0 k1 k2 k3 k4 k5 k6 k7 k8 ll q0 q1 q2 q3 q4 q5 q6 z1 z2 d1 d2 d3 d4 i4 i5 i6 hlr
      obtain ⟨⟨kk, k0, k1, k2, k3, k4, k5, k6, k7, k8⟩, ll, q0, q1, q2, q3, q4, q5, q6⟩ := D8.out.cells
      have HLN : Hid ((splR t c xs).length = ha.n) := by show _ = _; rw [HALL.out.1, HN.out]
      go_wp2_with (go_at_call 38; refine (dsplit_any t hb hs hr c ha.a ha.n ha.cap xs _ hf1 (by omega) hok (h.below D8.out.bel) (hx.below D8.out.bel)).mono ?_; rintro e w9 ⟨v, rfl, ho, hb9⟩; rw [HQ.out.2.2.2]; obtain ⟨a9, c9, e9, hs9, -⟩ := ho.slice; rw [HLN.out] at e9 hs9; subst e9; have HS9 := Lib.hid hs9; have D9 := Lib.hid (D8.out.next hb9); have Y9 := Lib.hid (box_below Y8.out hb9); clear ho hs9 hb9 kk k0 k1 k2 k3 k4 k5 k6 k7 k8 ll q0 q1 q2 q3 q4 q5 q6; obtain ⟨⟨kk, k0, k1, k2, k3, k4, k5, k6, k7, k8⟩, ll, q0, q1, q2, q3, q4, q5, q6⟩ := D9.out.cells; obtain ⟨p0, p1, p2, -, -, -⟩ := box3_cells Y9.out; have hxl := box_lt Y9.out)
      obtain ⟨ps, hps⟩ : ∃ ps, splR t c xs = ps := ⟨_, rfl⟩
      rw [hps] at HS9 HLN HALL
      clear hps
      go_loop [21, 158] (fun sm i => ∃ (k : Nat) (s : Int), i = .int .i64 k ∧ k ≤ ha.n ∧ sm = .int .i64 s ∧ Hid (s = sumI (ps.take k))) (fun _ i => ha.n - (intOf i).toNat)
      case atStart => exact ⟨0, 0, rfl, by omega, rfl, rfl⟩
      case round =>
        obtain ⟨k, s, rfl, hk, rfl, hs'⟩ := hrel
        have hs2 : 0 ≤ s ∧ s ≤ 60 * 68719476737 := by
          have h1 := sumI_in (ps.take k) 68719476737 (by omega) (fun y hy => HALL.out.2.2.1 y (List.mem_of_mem_take hy))
          have h2 : (ps.take k).length ≤ k := List.length_take_le _ _
          rw [← hs'.out] at h1; omega
        by_cases hlt : k < ha.n
        · obtain ⟨b9, o9, y, rfl, hbl, hy', cy⟩ := int_at HS9.out hlt
          have hy2 := HALL.out.2.2.1 y (List.mem_of_getElem? hy')
          have HY := Lib.hid hy'
          have b1 : (k : Int) < (ha.n : Int) := by omega
          clear hy'
          go_wp2_with fail
          go_round
          case rel => exact ⟨k + 1, s + y, by go_num, by omega, rfl, by show _ = _; rw [sumI_take ps k y HY.out, hs'.out]⟩
          case measure => simp [intOf]; omega
        · have hk' : k = ha.n := by omega
          have z5 : s ≤ P := by
            have e : ps.take k = ps := List.take_of_length_le (by have := HLN.out; omega)
            rw [hs'.out, e, HALL.out.2.2.2]; exact Int.le_refl _
          have z6 : P ≤ s := by
            have e : ps.take k = ps := List.take_of_length_le (by have := HLN.out; omega)
            rw [hs'.out, e, HALL.out.2.2.2]; exact Int.le_refl _
          have z7 : (s == P) = true := by simp; omega
          clear hk' z5 z6
          go_wp2_with (go_at_call 17; refine (rtarR_any t hb hs hr _ hf1 (h.below D9.out.bel)).mono ?_; rintro e w10 ⟨rfl, hb10⟩; rw [HTAR.out]; have D10 := Lib.hid (D9.out.next hb10); clear hb10)
          go_ret
          exact ⟨rfl, D10.out.bel⟩

/-! ### A case, opened -/

theorem list7 {α : Type} {l : List α} (h : l.length = 7) : ∃ a b c d e f g, l = [a, b, c, d, e, f, g] := by
  match l, h with
  | [a, b, c, d, e, f, g], _ => exact ⟨a, b, c, d, e, f, g, rfl⟩

set_option maxRecDepth 100000 in
theorem open_case {H : Type} {enc : TypeId × Value → H} {w : World} {b0 base : Nat} {spare : Nat → Bool} {held : Bool} {v : Value} {d : DataW H} {ps : List MemPlace} (hval : Value.okWide Try.prog w .any base 68 v) (h : DataW.Trod enc Try.prog w b0 spare held 68 v d ps) :
    ∃ (c : Int) (ha hb : Hdr) (xs ys : List Ride) (x : Ride), v = .agg (caseBox c ha hb x) ∧ Sl Ride.cod w ha.a ha.n ha.cap xs ∧ Sl Ride.cod w hb.a hb.n hb.cap ys ∧ (∀ r ∈ xs, Ride.ok r) ∧ (∀ r ∈ ys, Ride.ok r) ∧ Ride.ok x := by
  simp only [Value.okWide, Try.underlying68] at hval
  obtain ⟨cs, rfl, hsz, ts, hts, -, hcell⟩ := hval
  obtain ⟨fuel, hf⟩ := h
  obtain ⟨y0, y1, y2, y3, m, -, hl, g0, g1, g2, g3⟩ := Go.Joins.trod_struct4 Try.underlying68 hf
  have hc7 : Try.prog.cellsOf 68 = 7 := by kernel_rfl
  have hts' : Try.prog.cellTypes Try.prog.depth 68 = some [3, 27, 27, 3, 3, 3, 3] := by kernel_rfl
  rw [hts'] at hts
  cases hts
  have hc1 : Try.prog.cellsOf 3 = 1 := by kernel_rfl
  have hcs : Try.prog.cellsOf 27 = 1 := by kernel_rfl
  have hcr : Try.prog.cellsOf 42 = 4 := by kernel_rfl
  obtain ⟨l⟩ := cs
  rw [hc7] at hsz
  obtain ⟨v0, v1, v2, v3, v4, v5, v6, rfl⟩ := list7 (l := l) (by simpa using hsz)
  simp [Value.cells, hc1, hcs, hcr] at g0 g1 g2 g3
  have k1 : Value.okWide Try.prog w .any base 27 v1 := by
    obtain ⟨u, hu, hk⟩ := hcell 1 v1 rfl
    cases hu
    exact slice_val Try.underlying27 hk
  have k2 : Value.okWide Try.prog w .any base 27 v2 := by
    obtain ⟨u, hu, hk⟩ := hcell 2 v2 rfl
    cases hu
    exact slice_val Try.underlying27 hk
  obtain ⟨n0, e0, -, -⟩ := DataW.trod_int Try.underlying3 g0
  simp at e0
  subst e0
  obtain ⟨x, ex, hxo⟩ := ride_opened m _ y3 g3
  simp [Ride.cod, Ride.enc] at ex
  obtain ⟨rfl, rfl, rfl, rfl⟩ := ex
  obtain ⟨a1, m1, p1, l1, rfl, s1, o1⟩ := open_sl (c := Ride.cod) (ok := Ride.ok) (d := y1.1) (ps := y1.2) Try.underlying27 (by kernel_rfl) (fun n cs y => ride_opened n cs y) k1 ⟨m, by obtain ⟨a, n, c, rfl⟩ := okWide_slice Try.underlying27 k1; exact g1⟩
  obtain ⟨a2, m2, p2, l2, rfl, s2, o2⟩ := open_sl (c := Ride.cod) (ok := Ride.ok) (d := y2.1) (ps := y2.2) Try.underlying27 (by kernel_rfl) (fun n cs y => ride_opened n cs y) k2 ⟨m, by obtain ⟨a, n, c, rfl⟩ := okWide_slice Try.underlying27 k2; exact g2⟩
  exact ⟨n0, ⟨a1, m1, p1⟩, ⟨a2, m2, p2⟩, l1, l2, x, rfl, s1, s2, o1, o2, hxo⟩
end Go.Proofs.Ytjnggjhijedcpaa
