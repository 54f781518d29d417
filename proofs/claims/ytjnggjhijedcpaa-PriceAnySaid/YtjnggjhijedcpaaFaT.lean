/- Fares: the law on whichever order, sums and tops, walked. -/
import Derived.Test.YtjnggjhijedcpaaFaS
import Derived.Deep.DeepFit
namespace Go.Proofs.Ytjnggjhijedcpaa
open Go.RowKit Go.V Go.Sort Go.Shelf Go.Proofs

theorem nat_tmod (p m : Nat) : ((p : Int)).tmod (m : Int) = ((p % m : Nat) : Int) := by rw [Int.tmod_eq_emod_of_nonneg (by omega)]; simp
theorem u8_wrap {p : Nat} (h : p ≤ 255) : IntKind.i64.wrap (p : Int) = (p : Int) := by rw [IntKind.wrap_i64]; omega

set_option maxHeartbeats 8000000 in
set_option maxRecDepth 100000 in
theorem pany_any (t : Tar) (hb hs hr : Hdr) (a : Option Addr) (n cap : Nat) (xs : List Ride) (p q r : Nat) (w : World) (hp : p ≤ 255) (hq : q ≤ 255) (hr8 : r ≤ 255) (hok : ∀ r ∈ xs, Ride.ok r) (h : TarIn w t hb hs hr) (hx : Sl Ride.cod w a n cap xs) :
    Calls Try.prog 4 #[t.val hb hs hr, .slice a n cap, .agg #[.int .u8 p, .int .u8 q, .int .u8 r]] w fun e w' => e = .returned (.bool true) ∧ Below w.heap.size w w' := by
  have mixed : Try.prog.follows .mixedOrders = true := by kernel_rfl
  have hN := Lib.hid hx.hlen
  have hnm : n ≤ 9223372036854775807 := by have := hx.hcap; have := hx.hmax; unfold maxLen at this; omega
  have hbm : hb.n ≤ 9223372036854775807 ∧ hs.n ≤ 9223372036854775807 ∧ hr.n ≤ 9223372036854775807 := by
    have h1 := h.b.hcap; have h2 := h.b.hmax; have h3 := h.s.hcap; have h4 := h.s.hmax; have h5 := h.r.hcap; have h6 := h.r.hmax
    unfold maxLen at h2 h4 h6; omega
  have TB0 : Hid (TarBox 26 ((w.alloc (t.box hb hs hr)).alloc (.cells #[.int .u8 p, .int .u8 q, .int .u8 r] 40)) w.heap.size t hb hs hr) := box_alloc (box_new _ _)
  have NB0 : Hid (((w.alloc (t.box hb hs hr)).alloc (.cells #[.int .u8 p, .int .u8 q, .int .u8 r] 40)).heap[w.heap.size + 1]? = some (.cells #[.int .u8 p, .int .u8 q, .int .u8 r] 40 (0, 0))) := by
    have := box_new (w.alloc (t.box hb hs hr)) (.cells #[.int .u8 p, .int .u8 q, .int .u8 r] 40)
    rwa [World.size_alloc] at this
  have B0 : Hid (Below w.heap.size w ((w.alloc (t.box hb hs hr)).alloc (.cells #[.int .u8 p, .int .u8 q, .int .u8 r] 40))) := ((Below.refl _ _).alloc (Nat.le_refl _) _).alloc (by simp) _
  unfold Tar.box at TB0 NB0 B0
  obtain ⟨fb, hfb⟩ : ∃ fb, (decide (hb.n ≤ 100) && decide (hs.n ≤ 50) && decide (hr.n ≤ 50)) = fb := ⟨_, rfl⟩
  have HFB := Lib.hid hfb
  have HNS : Hid (hs.n = t.shares.length) := h.s.hlen
  unfold Tar.val
  go_enter Try.func4, Try.ntmps4
  cases fb with
  | false =>
    clear hfb
    go_wp2_with (first
      | (go_at_call 11; refine (awake_any _).mono ?_; rintro e w1 ⟨rfl, hb1⟩; have HB1 := Lib.hid (B0.out.trans (hb1.mono B0.out.size)); have TB1 := Lib.hid (TB0.out.below hb1); obtain ⟨kk, k0, k1, k2, k3, k4, k5, k6, k7, k8⟩ := TB1.out.cells; clear hb1)
      | (go_at_call 12; refine (few_any t hb hs hr _ hbm).mono ?_; rintro e w2 ⟨rfl, hb2⟩; rw [HFB.out]; have HB2 := Lib.hid (HB1.out.trans (hb2.mono HB1.out.size)); have TB2 := Lib.hid (TB1.out.below hb2); obtain ⟨kk, k0, k1, k2, k3, k4, k5, k6, k7, k8⟩ := TB2.out.cells; clear hb2))
    go_ret
    exact ⟨rfl, HB2.out⟩
  | true =>
    have hfew : hb.n ≤ 1000000 ∧ hs.n ≤ 1000000 ∧ hr.n ≤ 1000000 := by
      simp only [Bool.and_eq_true, decide_eq_true_eq] at hfb; omega
    clear hfb
    by_cases hbig : 60 < n
    · go_wp2_with (first
        | (go_at_call 11; refine (awake_any _).mono ?_; rintro e w1 ⟨rfl, hb1⟩; have HB1 := Lib.hid (B0.out.trans (hb1.mono B0.out.size)); have TB1 := Lib.hid (TB0.out.below hb1); obtain ⟨kk, k0, k1, k2, k3, k4, k5, k6, k7, k8⟩ := TB1.out.cells; clear hb1)
        | (go_at_call 12; refine (few_any t hb hs hr _ hbm).mono ?_; rintro e w2 ⟨rfl, hb2⟩; rw [HFB.out]; have HB2 := Lib.hid (HB1.out.trans (hb2.mono HB1.out.size)); have TB2 := Lib.hid (TB1.out.below hb2); obtain ⟨kk, k0, k1, k2, k3, k4, k5, k6, k7, k8⟩ := TB2.out.cells; clear hb2))
      go_ret
      exact ⟨rfl, HB2.out⟩
    by_cases hs0 : hs.n = 0
    · have z0 : ((hs.n : Int) == 0) = true := by simp; omega
      clear hs0
      go_wp2_with (first
        | (go_at_call 11; refine (awake_any _).mono ?_; rintro e w1 ⟨rfl, hb1⟩; have HB1 := Lib.hid (B0.out.trans (hb1.mono B0.out.size)); have TB1 := Lib.hid (TB0.out.below hb1); obtain ⟨kk, k0, k1, k2, k3, k4, k5, k6, k7, k8⟩ := TB1.out.cells; clear hb1)
        | (go_at_call 12; refine (few_any t hb hs hr _ hbm).mono ?_; rintro e w2 ⟨rfl, hb2⟩; rw [HFB.out]; have HB2 := Lib.hid (HB1.out.trans (hb2.mono HB1.out.size)); have TB2 := Lib.hid (TB1.out.below hb2); obtain ⟨kk, k0, k1, k2, k3, k4, k5, k6, k7, k8⟩ := TB2.out.cells; clear hb2))
      go_ret
      exact ⟨rfl, HB2.out⟩
    have z1 : ((hs.n : Int) == 0) = false := by simp; omega
    have z2 : ¬ (hs.n : Int) = 0 := by omega
    obtain ⟨ca, hca⟩ : ∃ ca, p % hs.n = ca := ⟨_, rfl⟩
    obtain ⟨cb, hcb⟩ : ∃ cb, q % hs.n = cb := ⟨_, rfl⟩
    have m1 : ((p : Int)).tmod (hs.n : Int) = (ca : Int) := by rw [nat_tmod, hca]
    have m2 : ((q : Int)).tmod (hs.n : Int) = (cb : Int) := by rw [nat_tmod, hcb]
    have hca' : ca < hs.n := by rw [← hca]; exact Nat.mod_lt _ (by omega)
    have hcb' : cb < hs.n := by rw [← hcb]; exact Nat.mod_lt _ (by omega)
    have v1 := u8_wrap hp
    have v2 := u8_wrap hq
    clear hca hcb
    go_upto_region 5 with (first
        | (go_at_call 11; refine (awake_any _).mono ?_; rintro e w1 ⟨rfl, hb1⟩; have HB1 := Lib.hid (B0.out.trans (hb1.mono B0.out.size)); have TB1 := Lib.hid (TB0.out.below hb1); have NB1 := Lib.hid (box_below NB0.out hb1); obtain ⟨kk, k0, k1, k2, k3, k4, k5, k6, k7, k8⟩ := TB1.out.cells; clear hb1)
        | (go_at_call 12; refine (few_any t hb hs hr _ hbm).mono ?_; rintro e w2 ⟨rfl, hb2⟩; rw [HFB.out]; have HB2 := Lib.hid (HB1.out.trans (hb2.mono HB1.out.size)); have TB2 := Lib.hid (TB1.out.below hb2); have NB2 := Lib.hid (box_below NB1.out hb2); obtain ⟨kk, k0, k1, k2, k3, k4, k5, k6, k7, k8⟩ := TB2.out.cells; obtain ⟨u0, u1, u2, -, -, -⟩ := box3_cells NB2.out; clear hb2))
    go_quiet (fail)
    have h2 := HB2.out.size
    by_cases hE : monthE t ca xs = 0
    case neg =>
      have hG : billG t ca xs = [] := by unfold billG; rw [if_neg hE]
      have hP : billP t ca xs = 0 := by unfold billP; rw [if_neg hE]
      have hE1 : (monthE t ca xs == 0) = false := by simp; exact hE
      obtain ⟨E, hEE⟩ : ∃ E, monthE t ca xs = E := ⟨_, rfl⟩
      obtain ⟨S, hS⟩ : ∃ S, billS t ca xs = S := ⟨_, rfl⟩
      rw [hEE] at hE hE1
      have HQ : Hid (billG t ca xs = [] ∧ billS t ca xs = S ∧ billP t ca xs = 0 ∧ monthE t ca xs = E) := ⟨hG, hS, hP, hEE⟩
      clear hG hP hEE hS
      go_wp2_with (go_at_call 13; go_loud (refine (month_any t hb hs hr ca a n cap xs _ hfew (by omega) hok ((h.below HB2.out).below (below_drewN (Below.refl _ _) _)) ((hx.below HB2.out).below (below_drewN (Below.refl _ _) _))).mono ?_; rintro e w3 ⟨v, rfl, hbl, hb3⟩; rw [HQ.out.2.2.2]; rw [HQ.out.1, HQ.out.2.1, HQ.out.2.2.1] at hbl; obtain ⟨a1, c1, g1, rfl, hin1⟩ := hbl.billIn; have HB3 := Lib.hid ((below_drewN HB2.out _).trans (hb3.mono (below_drewN HB2.out _).size)); clear hb3 hbl hin1))
      go_ret
      exact ⟨by simp, HB3.out.alloc HB3.out.size _⟩
    case pos =>
      obtain ⟨x1, x2, x3, x4, x5, x6, x7, x8⟩ := bill_all (t := t) (a := ca) (l := xs) (by have := hN.out; omega) hE
      obtain ⟨y1, y2⟩ := bill_less (t := t) (a := ca) (b := cb) (l := xs) hE (by have := HNS.out; omega)
      obtain ⟨pe1, pe2, pe3, pe4⟩ := bill_perm t ca (turned_perm r xs)
      have gt1 := (billG_len t ca xs).2
      obtain ⟨gs, hgs⟩ : ∃ gs, billG t ca xs = gs := ⟨_, rfl⟩
      obtain ⟨S, hS⟩ : ∃ S, billS t ca xs = S := ⟨_, rfl⟩
      obtain ⟨P, hP⟩ : ∃ P, billP t ca xs = P := ⟨_, rfl⟩
      obtain ⟨S', hS'⟩ : ∃ S', billS t cb xs = S' := ⟨_, rfl⟩
      obtain ⟨P', hP'⟩ : ∃ P', billP t cb xs = P' := ⟨_, rfl⟩
      obtain ⟨T, hT⟩ : ∃ T, payOf t.rungs 281474976710656 = T := ⟨_, rfl⟩
      obtain ⟨sa, hsa⟩ : ∃ sa, t.shares[ca]? = some sa := ⟨_, List.getElem?_eq_getElem x2⟩
      obtain ⟨sb, hsb⟩ : ∃ sb, t.shares[cb]? = some sb := ⟨_, List.getElem?_eq_getElem (by have := HNS.out; omega)⟩
      rw [List.getD_eq_getElem?_getD, List.getD_eq_getElem?_getD, hsa, hsb] at y2
      rw [hgs] at x3 x4 x5 pe2 gt1
      rw [hS] at x4 x7 y2 pe3
      rw [hP] at x6 x7 x8 y2 pe4
      rw [hS', hP'] at y2
      rw [hT] at x8
      rw [hE] at pe1
      have hgt : ∀ g ∈ gs, g.trips.length ≤ 1000000 := fun g hg => by have := gt1 g hg; have := hN.out; omega
      have HGT := Lib.hid hgt
      have HPR := Lib.hid x3
      have HSG := Lib.hid x4
      have hgn : gs.length ≤ 60 := by have := hN.out; omega
      have HQ : Hid (billG t ca xs = gs ∧ billS t ca xs = S ∧ billP t ca xs = P ∧ monthE t ca xs = 0) := ⟨hgs, hS, hP, hE⟩
      have HQo : Hid (billG t ca (turned r xs) = gs ∧ billS t ca (turned r xs) = S ∧ billP t ca (turned r xs) = P ∧ monthE t ca (turned r xs) = 0) := ⟨pe2, pe3, pe4, pe1⟩
      have HQb : Hid (billS t cb xs = S' ∧ billP t cb xs = P' ∧ monthE t cb xs = 0) := ⟨hS', hP', y1⟩
      have HT := Lib.hid hT
      have HSH : Hid (t.shares[ca]? = some sa ∧ t.shares[cb]? = some sb) := ⟨hsa, hsb⟩
      have HTOK := Lib.hid x1
      have HLESS : Hid (sa ≤ sb → S ≤ S' ∧ P ≤ P') := y2
      have HX : Hid (0 ≤ P ∧ P ≤ S ∧ P ≤ T) := ⟨x6, x7, x8⟩
      clear hgs hS hP hS' hP' hT hsa hsb x1 x2 x3 x4 x5 x6 x7 x8 y1 y2 pe1 pe2 pe3 pe4 gt1 hgt hE
      have hokT : ∀ z ∈ turned r xs, Ride.ok z := fun z hz => hok z ((turned_perm r xs).mem_iff.1 hz)
      have HTL : Hid ((turned r xs).length = n) := (turned_len r xs).trans hN.out.symm
      go_upto_region 10 with (go_at_call 13; refine (month_any t hb hs hr ca a n cap xs _ hfew (by omega) hok ((h.below HB2.out).below (below_drewN (Below.refl _ _) _)) ((hx.below HB2.out).below (below_drewN (Below.refl _ _) _))).mono ?_; rintro e w3 ⟨v, rfl, hbl, hb3⟩; rw [HQ.out.2.2.2]; rw [HQ.out.1, HQ.out.2.1, HQ.out.2.2.1] at hbl; obtain ⟨a1, c1, g1, rfl, hin1⟩ := hbl.billIn; have HI3 := Lib.hid hin1; have HB3 := Lib.hid ((below_drewN HB2.out _).trans (hb3.mono (below_drewN HB2.out _).size)); have TB3 := Lib.hid ((TB2.out.below (below_drewN (Below.refl _ _) _)).below hb3); have NB3 := Lib.hid (box_below (box_belowN NB2.out _) hb3); clear hb3 hbl hin1 k0 k1 k2 k3 k4 k5 k6 k7 k8 kk u0 u1 u2)
      have hs3 := HB3.out.size
      have X3 : Hid ((w3.alloc (.cells #[.slice a1 gs.length c1, .int .i64 S, .int .i64 P] 32)).heap[w3.heap.size]? = some (.cells #[.slice a1 gs.length c1, .int .i64 S, .int .i64 P] 32 (0, 0))) := box_new _ _
      have Y1 : Hid (TarBox 26 (w3.alloc (.cells #[.slice a1 gs.length c1, .int .i64 S, .int .i64 P] 32)) w.heap.size t hb hs hr) := TB3.out.below ((Below.refl _ _).alloc (Nat.le_refl _) _)
      have Y2 : Hid ((w3.alloc (.cells #[.slice a1 gs.length c1, .int .i64 S, .int .i64 P] 32)).heap[w.heap.size + 1]? = _) := box_alloc NB3.out
      have Y3 : Hid (Below w.heap.size w (w3.alloc (.cells #[.slice a1 gs.length c1, .int .i64 S, .int .i64 P] 32))) := HB3.out.alloc hs3 _
      have Y4 : Hid (BillIn (w3.alloc (.cells #[.slice a1 gs.length c1, .int .i64 S, .int .i64 P] 32)) a1 gs.length c1 g1 gs) := HI3.out.below ((Below.refl _ _).alloc (Nat.le_refl _) _)
      have hx3 : w3.heap.size < (w3.alloc (.cells #[.slice a1 gs.length c1, .int .i64 S, .int .i64 P] 32)).heap.size := by simp
      obtain ⟨W, hW⟩ : ∃ W, w3.alloc (.cells #[.slice a1 gs.length c1, .int .i64 S, .int .i64 P] 32) = W := ⟨_, rfl⟩
      rw [hW] at X3 Y1 Y2 Y3 Y4 hx3 ⊢
      clear hW
      have hsW := Y3.out.size
      go_wp2_with fail
      go_loopw [11, 72] (fun o i wr => ∃ (k : Nat) (ao : Option Addr) (co : Nat), i = .int .i64 k ∧ k ≤ n ∧ o = .slice ao k co ∧ Hid (V.Own 42 Ride.cod W.heap.size wr (.slice ao k co) ((turned r xs).take k)) ∧ Hid (Below W.heap.size W wr)) (fun _ i _ => n - (intOf i).toNat)
      case atStart => exact ⟨0, none, 0, rfl, by omega, rfl, V.Own.nil, Below.refl _ _⟩
      case round =>
        obtain ⟨k, ao, co, rfl, hk, rfl, hO, hB⟩ := hrel
        have hs4 : W.heap.size ≤ wr.heap.size := hB.out.size
        have TBr := Lib.hid (Y1.out.below hB.out)
        have NBr := Lib.hid (box_below Y2.out hB.out)
        by_cases hlt : k < n
        · obtain ⟨j, hj⟩ : ∃ j, (k + r) % n = j := ⟨_, rfl⟩
          obtain ⟨jb, hjb⟩ : ∃ jb, n - 1 - j = jb := ⟨_, rfl⟩
          have hjn : j < n := by rw [← hj]; exact Nat.mod_lt _ (by omega)
          have hjbn : jb < n := by omega
          obtain ⟨b, off, rd, rfl, hbl, hrd, c0, c1', c2, c3⟩ := ride_at (hx.below (Y3.out.trans (hB.out.mono hsW))) hjbn
          have HR : Hid ((turned r xs)[k]? = some rd) := by
            show _ = _
            have e := hN.out
            exact turned_at (j := jb) (by omega) (by rw [← e, hj, hjb]) hrd
          have j1 : ((k : Int) + (r : Int)) % (n : Int) = (j : Int) := by rw [← hj]; simp
          have j2 : ((k : Int) + (r : Int)).tmod (n : Int) = (j : Int) := by rw [Int.tmod_eq_emod_of_nonneg (by omega), j1]
          have j3 : (n : Int) - 1 - (j : Int) = (jb : Int) := by omega
          have j4 : IntKind.i64.wrap ((n : Int) - 1) = (n : Int) - 1 := by rw [IntKind.wrap_i64]; omega
          have n0 : ((n : Int) == 0) = false := by simp; omega
          have n1 : ¬ (n : Int) = 0 := by omega
          have b1 : (k : Int) < (n : Int) := by omega
          have b3 : (jb : Int) < (n : Int) := by omega
          have v3 := u8_wrap hr8
          obtain ⟨-, -, u2, -, -, -⟩ := box3_cells NBr.out
          clear hrd hj hjb
          have HM1 : Hid (((turned r xs).take k).length + 1 ≤ maxLen) := by show _ ≤ _; rw [List.length_take, HTL.out]; unfold maxLen; omega
          have HM2 : Hid ((((turned r xs).take k).length + 1) * 32 ≤ 140737488355328) := by show _ ≤ _; rw [List.length_take, HTL.out]; omega
          go_wp2_with (at_builtin; refine wpList_app eltRide rfl (.tmp 75) (.tmp 91) rfl (base := W.heap.size) _ ((turned r xs).take k) rfl (hO.out.alloc _) _ 1 1 [rd] rfl (sl_new (c := Ride.cod) wr _ _ [rd] 1 rfl (by unfold maxLen; omega) rfl) HM1.out HM2.out (by simp; omega) ?_; intro v4 w4 hown4 hg4; have HB4 : Hid (Below W.heap.size W w4) := (hB.out.alloc hs4 _).grown hg4 (by simp; omega) (fun k hk => own_lt hO.out k hk); have HO4 := Lib.hid hown4; clear hown4 hg4)
          have e3 := HO4.out
          rw [← take_at HR.out] at e3
          have HO5 := Lib.hid e3
          obtain ⟨a3, c3', e3', -⟩ := HO5.out.slice
          rw [List.length_take, HTL.out, show min (k + 1) n = k + 1 by omega] at e3'
          subst e3'
          clear e3
          go_roundw
          case rel => exact ⟨k + 1, a3, c3', by go_num, by omega, rfl, HO5.out, HB4.out⟩
          case measure => simp [intOf]; omega
        · have hk' : k = n := by omega
          subst hk'
          have hO2 := hO.out
          rw [List.take_of_length_le (by rw [HTL.out]; exact Nat.le_refl _)] at hO2
          obtain ⟨ao', co', e1, so, -⟩ := hO2.slice
          rw [HTL.out] at e1 so
          cases e1
          have SO := Lib.hid so
          have SA := Lib.hid (hx.below (Y3.out.trans (hB.out.mono hsW)))
          have HBW : Hid (Below w.heap.size w wr) := Y3.out.trans (hB.out.mono hsW)
          have TI := Lib.hid (h.below HBW.out)
          have HI := Lib.hid (Y4.out.below hB.out)
          have XB := Lib.hid (box_below X3.out hB.out)
          clear hO2 so hO
          have hsr := HBW.out.size
          obtain ⟨kk, k0, k1, k2, k3, k4, k5, k6, k7, k8⟩ := TBr.out.cells
          obtain ⟨p0, p1, p2, -, -, -⟩ := box3_cells XB.out
          go_wp2_with (first
            | (go_at_call 13; go_fit (month_any t hb hs hr ca ao k co (turned r xs) _ hfew (by omega) hokT TI.out SO.out); rintro e w4 ⟨v, rfl, hbl, hb4⟩; rw [HQo.out.2.2.2]; rw [HQo.out.1, HQo.out.2.1, HQo.out.2.2.1] at hbl; obtain ⟨a2, c2, g2, rfl, hin2⟩ := hbl.billIn; have HJ4 := Lib.hid hin2; have HI4 := Lib.hid (HI.out.below hb4); have HB4 : Hid (Below w.heap.size w w4) := HBW.out.trans (hb4.mono hsr); have hs4' := HB4.out.size; have TB4 := Lib.hid (TBr.out.below hb4); have XB4 := Lib.hid (box_below XB.out hb4); have TI4 : Hid (TarIn (w4.alloc (.cells #[.slice a2 gs.length c2, .int .i64 S, .int .i64 P] 32)) t hb hs hr) := (TI.out.below hb4).below ((Below.refl _ _).alloc (Nat.le_refl _) _); have SA4 : Hid (Sl Ride.cod (w4.alloc (.cells #[.slice a2 gs.length c2, .int .i64 S, .int .i64 P] 32)) _ k cap xs) := (SA.out.below hb4).below ((Below.refl _ _).alloc (Nat.le_refl _) _); have YB4 := Lib.hid (box_new w4 (.cells #[.slice a2 gs.length c2, .int .i64 S, .int .i64 P] 32)); clear hb4 hbl hin2 k0 k1 k2 k3 k4 k5 k6 k7 k8 kk p0 p1 p2; obtain ⟨kk, k0, k1, k2, k3, k4, k5, k6, k7, k8⟩ := TB4.out.cells; obtain ⟨p0, p1, p2, -, -, -⟩ := box3_cells XB4.out)
            | (go_at_call 13; go_fit (month_any t hb hs hr cb _ k cap xs _ hfew (by omega) hok TI4.out SA4.out); rintro e w5 ⟨v, rfl, hbl, hb5⟩; rw [HQb.out.2.2]; rw [HQb.out.1, HQb.out.2.1] at hbl; obtain ⟨a3, c3, g3, rfl, -⟩ := hbl.billIn; have HB5 : Hid (Below w.heap.size w w5) := (HB4.out.alloc hs4' _).trans (hb5.mono (HB4.out.alloc hs4' _).size); have hs5' := HB5.out.size; have HJ5 : Hid (BillIn w5 a2 gs.length c2 g2 gs) := (HJ4.out.below ((Below.refl _ _).alloc (Nat.le_refl _) _)).below hb5; have HI5 : Hid (BillIn w5 a1 gs.length c1 g1 gs) := (HI4.out.below ((Below.refl _ _).alloc (Nat.le_refl _) _)).below hb5; have TB5 : Hid (TarBox 26 w5 w.heap.size t hb hs hr) := (TB4.out.below ((Below.refl _ _).alloc (Nat.le_refl _) _)).below hb5; have XB5 := Lib.hid (box_below (box_alloc XB4.out) hb5); have YB5 := Lib.hid (box_below YB4.out hb5); have TI5 : Hid (TarIn w5 t hb hs hr) := TI4.out.below hb5; obtain ⟨gl, hgl⟩ : ∃ gl, (billG t cb xs).length = gl := ⟨_, rfl⟩; rw [hgl]; clear hb5 hbl hgl k0 k1 k2 k3 k4 k5 k6 k7 k8 kk p0 p1 p2; obtain ⟨kk, k0, k1, k2, k3, k4, k5, k6, k7, k8⟩ := TB5.out.cells; obtain ⟨p0, p1, p2, -, -, -⟩ := box3_cells XB5.out; obtain ⟨q0, q1, q2, -, -, -⟩ := box3_cells YB5.out)
            | (go_at_call 18; refine (top_any _ _ _ t.rungs _ hfew.2.2 (tarOk_all HTOK.out).2.2.2.2.2.2 (TI5.out.below ((Below.refl _ _).alloc (Nat.le_refl _) _)).r).mono ?_; rintro e w6 ⟨rfl, hb6⟩; rw [HT.out]; have HB6 : Hid (Below w.heap.size w w6) := (HB5.out.alloc hs5' _).trans (hb6.mono (HB5.out.alloc hs5' _).size); have hs6' := HB6.out.size; have HJ6 : Hid (BillIn w6 a2 gs.length c2 g2 gs) := (HJ5.out.below ((Below.refl _ _).alloc (Nat.le_refl _) _)).below hb6; have HI6 : Hid (BillIn w6 a1 gs.length c1 g1 gs) := (HI5.out.below ((Below.refl _ _).alloc (Nat.le_refl _) _)).below hb6; have TB6 : Hid (TarBox 26 w6 w.heap.size t hb hs hr) := (TB5.out.below ((Below.refl _ _).alloc (Nat.le_refl _) _)).below hb6; have XB6 := Lib.hid (box_below (box_alloc XB5.out) hb6); have YB6 := Lib.hid (box_below (box_alloc YB5.out) hb6); have ZB6 := Lib.hid (box_below (box_new w5 (.cells #[.slice a3 gl c3, .int .i64 S', .int .i64 P'] 32)) hb6); have TI6 : Hid (TarIn w6 t hb hs hr) := (TI5.out.below ((Below.refl _ _).alloc (Nat.le_refl _) _)).below hb6; clear hb6 k0 k1 k2 k3 k4 k5 k6 k7 k8 kk p0 p1 p2 q0 q1 q2; obtain ⟨kk, k0, k1, k2, k3, k4, k5, k6, k7, k8⟩ := TB6.out.cells; obtain ⟨p0, p1, p2, -, -, -⟩ := box3_cells XB6.out; obtain ⟨q0, q1, q2, -, -, -⟩ := box3_cells YB6.out)
            | (go_at_call 15; refine (rsame_eq a1 a2 gs.length c1 c2 g1 g2 gs S P _ (by omega) HGT.out HI6.out HJ6.out).mono ?_; rintro e w7 ⟨rfl, hb7⟩; have HB7 : Hid (Below w.heap.size w w7) := HB6.out.trans (hb7.mono hs6'); have HI7 := Lib.hid (HI6.out.below hb7); have TB7 := Lib.hid (TB6.out.below hb7); have XB7 := Lib.hid (box_below XB6.out hb7); have ZB7 := Lib.hid (box_below ZB6.out hb7); have TI7 := Lib.hid (TI6.out.below hb7); clear hb7 k0 k1 k2 k3 k4 k5 k6 k7 k8 kk p0 p1 p2 q0 q1 q2; obtain ⟨kk, k0, k1, k2, k3, k4, k5, k6, k7, k8⟩ := TB7.out.cells; obtain ⟨p0, p1, p2, -, -, -⟩ := box3_cells XB7.out))
          have hs7 := HB7.out.size
          clear k0 k1 k2 k3 k4 k5 k6 k7 k8 kk p0 p1 p2
          have hunit := (tarOk_all HTOK.out).2.2.2.1
          have z3 : (t.unit == 0) = false := by simp; omega
          have z4 : ¬ t.unit = 0 := by omega
          go_loopw [19, 133] (fun v i wr => ∃ (m : Nat) (s : Int), i = .int .i64 m ∧ m ≤ gs.length ∧ v = .int .i64 s ∧ Hid (s = sumG (gs.take m)) ∧ Hid (Below w7.heap.size w7 wr)) (fun _ i _ => gs.length - (intOf i).toNat)
          case atStart => exact ⟨0, 0, rfl, by omega, rfl, rfl, Below.refl _ _⟩
          case round =>
            obtain ⟨m, s, rfl, hm, rfl, hsm, hC⟩ := hrel
            have hsc : w7.heap.size ≤ wr.heap.size := hC.out.size
            have TBq := Lib.hid (TB7.out.below hC.out)
            have XBq := Lib.hid (box_below XB7.out hC.out)
            have ZBq := Lib.hid (box_below ZB7.out hC.out)
            have HIq := Lib.hid (HI7.out.below hC.out)
            by_cases hml : m < gs.length
            · obtain ⟨b, off, at_, ct, g, rfl, hbb, hg, f0, f1, f2, -⟩ := HIq.out.at hml
              obtain ⟨kk, k0, k1, k2, k3, k4, k5, k6, k7, k8⟩ := TBq.out.cells
              clear k0 k1 k2 k3 k4 k6 k7 k8
              obtain ⟨e1, e2, e3⟩ := HPR.out g (List.mem_of_getElem? hg)
              have e4 : g.price.tmod t.unit = 0 := by rw [Int.tmod_eq_emod_of_nonneg e2, e1]
              have e5 : decide (g.price < 0) = false := decide_eq_false (by omega)
              have e6 := sumG_in (gs.take m) (fun x hx => (HPR.out x (List.mem_of_mem_take hx)).2)
              rw [List.length_take, ← hsm.out] at e6
              have e7 : IntKind.i64.wrap (s + g.price) = s + g.price := by rw [IntKind.wrap_i64]; omega
              have e8 : (m : Int) < (gs.length : Int) := by omega
              have HS2 : Hid (s + g.price = sumG (gs.take (m + 1))) := by
                show _ = _
                rw [sumG_take gs m g hg, ← hsm.out]
              clear hg e1 e6
              go_wp2_with fail
              go_roundw
              case rel => exact ⟨m + 1, s + g.price, by go_num, by omega, rfl, HS2.out, hC.out.alloc hsc _⟩
              case measure => simp [intOf]; omega
            · have hm' : m = gs.length := by omega
              subst hm'
              have e1 : s = S := by rw [hsm.out, List.take_of_length_le (Nat.le_refl _), ← HSG.out]
              subst e1
              obtain ⟨kk, k0, k1, k2, k3, k4, k5, k6, k7, k8⟩ := TBq.out.cells
              clear k0 k1 k2 k3 k5 k6 k7 k8
              obtain ⟨p0, p1, p2, -, -, -⟩ := box3_cells XBq.out
              obtain ⟨q0, q1, q2, -, -, -⟩ := box3_cells ZBq.out
              obtain ⟨bs, os, sa', ea, hbs, hsa, ga⟩ := int_at (TI7.out.below hC.out).s hca'
              obtain ⟨bs', os', sb', eb, -, hsb, gb⟩ := int_at (TI7.out.below hC.out).s hcb'
              have es := HSH.out.1.symm.trans hsa
              have et := HSH.out.2.symm.trans hsb
              cases es
              cases et
              have HHS := Lib.hid ea
              rw [ea] at k4
              have es2 := ea.symm.trans eb
              cases es2
              clear ea eb hsa hsb
              have i1 : (ca : Int) < (hs.n : Int) := by omega
              have i2 : (cb : Int) < (hs.n : Int) := by omega
              obtain ⟨w1', w2', w3'⟩ := HX.out
              have HBE : Hid (Below w.heap.size w wr) := HB7.out.trans (hC.out.mono hs7)
              by_cases cl : sa ≤ sb
              · obtain ⟨l1, l2⟩ := HLESS.out cl
                have d1 : decide (S' < s) = false := decide_eq_false (by omega)
                have d2 : decide (P' < P) = false := decide_eq_false (by omega)
                have d3 : ¬ S' < s := by omega
                have d4 : ¬ P' < P := by omega
                go_wp2_with fail
                go_quiet (fail)
                go_wp2_with fail
                go_ret
                exact ⟨by simp, below_drewN HBE.out _⟩
              · have d0 : decide (sa ≤ sb) = false := decide_eq_false cl
                go_wp2_with fail
                go_quiet (fail)
                go_wp2_with fail
                go_ret
                exact ⟨by simp, below_drewN HBE.out _⟩
end Go.Proofs.Ytjnggjhijedcpaa
