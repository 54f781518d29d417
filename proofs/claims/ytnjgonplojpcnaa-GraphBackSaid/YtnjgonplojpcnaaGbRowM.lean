/- Networks there and back: the law walked. -/
/- GraphBack answers true, whatever comes in, and what came in reads as it did; no condition. -/
import Derived.Test.YtnjgonplojpcnaaGbP
import Derived.Test.YtnjgonplojpcnaaWiV
import Derived.Test.YtnjgonplojpcnaaNuV
import Derived.Test.YtnjgonplojpcnaaRows
import Derived.Test.YtnjgonplojpcnaaNeN
namespace Go.Proofs.Ytnjgonplojpcnaa.Gb
open Go.RowKit Go.V Go.Proofs Go.Sort Go.Proofs.Ytnjgonplojpcnaa.Wi Go.Proofs.Ytnjgonplojpcnaa.Ne
open Go.Proofs.Ytnjgonplojpcnaa.Gt (gtake_any takeN)

theorem eql_lnk (x y z x2 y2 z2 : Int) (w : World) : (binOp .eql 63 (.agg #[.int .i64 x, .int .i64 y, .int .i64 z]) (.agg #[.int .i64 x2, .int .i64 y2, .int .i64 z2])).run Try.prog w = .ok (.bool (decide (x = x2 ∧ y = y2 ∧ z = z2))) w := by
  rw [run_eql_struct, eqIn_lnk]; rfl
def isL (a b w : Int) (x : Lnk) : Bool := decide (x.a = a ∧ x.b = b ∧ x.w = w)
theorem any_take {L : List Lnk} {t : Nat} {x : Lnk} (h : L[t]? = some x) (f : Lnk → Bool) : (L.take (t + 1)).any f = ((L.take t).any f || f x) := by
  rw [take_at h, List.any_append]; simp
theorem any_mem {L : List Lnk} {a b w : Int} (h : (⟨a, b, w⟩ : Lnk) ∈ L) : L.any (isL a b w) = true :=
  List.any_eq_true.2 ⟨_, h, decide_eq_true ⟨rfl, rfl, rfl⟩⟩

set_option maxHeartbeats 8000000 in
set_option maxRecDepth 100000 in
theorem gback_any (n : Net) (hs hl : Hdr) (w : World) (h : NetIn w n hs hl) :
    Calls Try.prog 5 #[n.val hs hl] w fun e w' => e = .returned (.bool true) ∧ Below w.heap.size w w' := by
  have mixed : Try.prog.follows .mixedOrders = true := by kernel_rfl
  have HKN0 := Lib.hid h.s.hlen
  have HLN0 := Lib.hid h.l.hlen
  obtain ⟨sa, k, sc⟩ := hs
  obtain ⟨la, l, lc⟩ := hl
  have HKN : Hid (k = n.stops.length) := HKN0.out
  have HLN : Hid (l = n.links.length) := HLN0.out
  clear HKN0 HLN0
  have HH := Lib.hid h
  have HX0 := Lib.hid (box_new w (n.box ⟨sa, k, sc⟩ ⟨la, l, lc⟩))
  have HB0 : Hid (Below w.heap.size w (w.alloc (n.box ⟨sa, k, sc⟩ ⟨la, l, lc⟩))) := (Below.refl _ _).alloc (Nat.le_refl _) _
  obtain ⟨c0, c1, c2, -, -, -⟩ := box3_cells HX0.out
  clear h
  go_enter Try.func5, Try.ntmps5
  go_upto_region 3 with (go_at_call 17; refine (awake15_any _).mono ?_; rintro e w1 ⟨rfl, hb1⟩; have HB1 := Lib.hid (HB0.out.trans (hb1.mono HB0.out.size)); have HX1 := Lib.hid (box_below HX0.out hb1); clear hb1)
  clear c0 c1 c2 HX0 HB0
  obtain ⟨c0, c1, c2, -, -, -⟩ := box3_cells HX1.out
  obtain ⟨fb, hfb⟩ : ∃ fb, decide (k ≤ 60 ∧ l ≤ 120) = fb := ⟨_, rfl⟩
  have HFB := Lib.hid hfb
  clear hfb
  cases fb with
  | false =>
    go_wp2_with (go_at_call 18; refine (few_any n ⟨sa, k, sc⟩ ⟨la, l, lc⟩ _).mono ?_; rintro e w2 ⟨rfl, hb2⟩; rw [HFB.out]; have HB2 := Lib.hid (HB1.out.trans (hb2.mono HB1.out.size)); clear hb2)
    go_ret
    exact ⟨rfl, HB2.out⟩
  | true =>
  obtain ⟨k60, l120⟩ := of_decide_eq_true HFB.out
  go_upto_region 5 with (go_at_call 18; refine (few_any n ⟨sa, k, sc⟩ ⟨la, l, lc⟩ _).mono ?_; rintro e w2 ⟨rfl, hb2⟩; rw [HFB.out]; have HB2 := Lib.hid (HB1.out.trans (hb2.mono HB1.out.size)); have HX2 := Lib.hid (box_below HX1.out hb2); clear hb2)
  clear c0 c1 c2 HX1
  obtain ⟨c0, c1, c2, -, -, -⟩ := box3_cells HX2.out
  obtain ⟨ck, hck⟩ : ∃ ck, checkE n = ck := ⟨_, rfl⟩
  have HCK := Lib.hid hck
  clear hck
  have hk6 : k ≤ 1000000 := by omega
  have hl6 : l ≤ 1000000 := by omega
  by_cases hz : ck = 0
  case neg =>
    have e1 : (ck != 0) = true := by simpa using hz
    have HZ := Lib.hid hz
    clear hz
    go_wp2_with (first
      | (go_at_call 19; go_loud (refine (gput_any n ⟨sa, k, sc⟩ ⟨la, l, lc⟩ w2 k60 l120 (HH.out.below HB2.out)).mono ?_); rintro e w3 ⟨hb3, he, -⟩; have he2 := he (by rw [HCK.out]; exact HZ.out); subst he2; rw [HCK.out]; have HB3 := Lib.hid (HB2.out.trans (hb3.mono HB2.out.size)); have HX3 := Lib.hid (box_below HX2.out hb3); obtain ⟨c0, c1, c2, -, -, -⟩ := box3_cells HX3.out; clear hb3 he)
      | (go_at_call 21; go_loud (refine (check_any n ⟨sa, k, sc⟩ ⟨la, l, lc⟩ w3 ⟨hk6, hl6⟩ (HH.out.below HB3.out)).mono ?_); rintro e w4 ⟨rfl, hb4⟩; rw [HCK.out]; have HB4 := Lib.hid (HB3.out.trans (hb4.mono HB3.out.size)); clear hb4))
    go_ret
    exact ⟨by simp, HB4.out⟩
  subst hz
  have HTP := Lib.hid (take_put HCK.out (by rw [← HKN.out]; exact k60) (by rw [← HLN.out]; exact l120))
  have HPL := Lib.hid (putNet_len2 HCK.out (by rw [← HKN.out]; exact k60) (by rw [← HLN.out]; exact l120))
  have HPB : Hid (Byt (frameE 3 (putNet n))) := frame_byt (by omega) (putNet_byt HCK.out) (by have := putNet_len HCK.out (by rw [← HKN.out]; exact k60) (by rw [← HLN.out]; exact l120); omega)
  have HLO : Hid (LinksOk n.links k) := by
    obtain ⟨-, -, -, -, hlk, -⟩ := check_ok HCK.out
    have e := HKN.out
    show LinksOk _ _
    rw [e]; exact hlk
  obtain ⟨p, R, huf⟩ := uf_all HLO.out
  have HUF := Lib.hid huf
  have HPS : Hid (lst (sprdN n.links id k) k = lst R k) := lst_congr fun v hv => parts_one huf HLO.out hv
  clear huf
  obtain ⟨F, hF⟩ : ∃ F, frameE 3 (putNet n) = F := ⟨_, rfl⟩
  rw [hF] at HTP HPL HPB
  have HF := Lib.hid hF
  clear hF
  go_upto_region 12 with (first
    | (go_at_call 19; go_loud (refine (gput_any n ⟨sa, k, sc⟩ ⟨la, l, lc⟩ w2 k60 l120 (HH.out.below HB2.out)).mono ?_); rintro e w3 ⟨hb3, -, he⟩; obtain ⟨v3, rfl, ho3⟩ := he HCK.out; rw [HF.out] at ho3; obtain ⟨a3, c3, rfl, hsl3, -⟩ := ho3.slice; have HS3 := Lib.hid hsl3; have HB3 := Lib.hid (HB2.out.trans (hb3.mono HB2.out.size)); have HX3 := Lib.hid (box_below HX2.out hb3); obtain ⟨c0, c1, c2, -, -, -⟩ := box3_cells HX3.out; clear hb3 he ho3 hsl3)
    | (go_at_call 23; go_loud (refine (gtake_any a3 _ c3 F w3 HS3.out HPB.out HPL.out).mono ?_); rintro e w4 ⟨hs4, hl4, rfl, hn4, hb4⟩; obtain ⟨s4a, s4n, s4c⟩ := hs4; obtain ⟨l4a, l4n, l4c⟩ := hl4; rw [HTP.out] at hn4 ⊢; have HN4 := Lib.hid hn4; have HB4 := Lib.hid (HB3.out.trans (hb4.mono HB3.out.size)); have HX4 := Lib.hid (box_below HX3.out hb4); obtain ⟨c0, c1, c2, -, -, -⟩ := box3_cells (box_alloc (o := n.box ⟨s4a, s4n, s4c⟩ ⟨l4a, l4n, l4c⟩) HX4.out); clear hn4 hb4)
    | (go_at_call 26; go_loud (refine (parts_any n ⟨sa, k, sc⟩ ⟨la, l, lc⟩ (w4.alloc (n.box ⟨s4a, s4n, s4c⟩ ⟨l4a, l4n, l4c⟩)) ⟨hk6, hl6⟩ (HH.out.below (HB4.out.alloc HB4.out.size _))).mono ?_); rintro e w5 ⟨hb5, -, he⟩; obtain ⟨v5, rfl, ho5⟩ := he HCK.out; replace ho5 : V.Own 3 icod _ w5 v5 (lst (sprdN n.links id k) k) := ho5; rw [HPS.out] at ho5; obtain ⟨pa, pc, rfl, hsl5, -⟩ := ho5.slice; rw [lst_len] at hsl5 ⊢; have HS5 := Lib.hid hsl5; have HB5 : Hid (Below w.heap.size w w5) := (HB4.out.alloc HB4.out.size _).trans (hb5.mono (by have := HB4.out.size; simp; omega)); have HX5 := Lib.hid (box_below (box_alloc (o := n.box ⟨s4a, s4n, s4c⟩ ⟨l4a, l4n, l4c⟩) HX4.out) hb5); have HM5 := Lib.hid (box_below (box_new w4 (n.box ⟨s4a, s4n, s4c⟩ ⟨l4a, l4n, l4c⟩)) hb5); have HN5 := Lib.hid ((HN4.out.below ((Below.refl _ _).alloc (Nat.le_refl _) (n.box ⟨s4a, s4n, s4c⟩ ⟨l4a, l4n, l4c⟩))).below hb5); obtain ⟨c0, c1, c2, -, -, -⟩ := box3_cells HX5.out; obtain ⟨k0, k1, k2, -, -, -⟩ := box3_cells HM5.out; clear hb5 he ho5 hsl5)
    | (go_at_call 25; go_loud (refine (nsame_any n n ⟨sa, k, sc⟩ ⟨la, l, lc⟩ ⟨s4a, s4n, s4c⟩ ⟨l4a, l4n, l4c⟩ w5 (HH.out.below HB5.out) HN5.out).mono ?_); rintro e w6 ⟨rfl, hb6⟩; have HB6 := Lib.hid (HB5.out.trans (hb6.mono HB5.out.size)); have HX6 := Lib.hid (box_below HX5.out hb6); have HS6 := Lib.hid (HS5.out.below hb6); obtain ⟨c0, c1, c2, -, -, -⟩ := box3_cells HX6.out; clear hb6))
  have hBX6 := box_lt HX6.out
  have HN6 := Lib.hid (HH.out.below HB6.out)
  clear HB1 HB2 HX2 HB3 HX3 HB4 HX4 HB5 HX5 HM5 HN5 HS3 HN4 HS5
  go_upto_region 14 with fail
  clear c0 c1 c2 k0 k1 k2
  go_loopw [70, 9] (fun vi va wr => ∃ i : Nat, vi = .int .i64 ((i : Nat) : Int) ∧ va = .int .i64 ((cntN n.links i : Nat) : Int) ∧ i ≤ k ∧ Hid (Below w6.heap.size w6 wr)) (fun vi _ _ => k - (intOf vi).toNat)
  case atStart => exact ⟨0, rfl, rfl, Nat.zero_le _, Below.refl _ _⟩
  case round =>
    obtain ⟨i, rfl, rfl, hi, HBI⟩ := hrel
    have HXI := Lib.hid (box_below HX6.out HBI.out)
    obtain ⟨c0, c1, c2, -, -, -⟩ := box3_cells HXI.out
    by_cases hlt : i < k
    case neg =>
      have hie : i = k := by omega
      subst hie
      have hii : ¬ (i : Int) < (i : Int) := by omega
      have HC2 : Hid (((cntN n.links i : Nat) : Int) = 2 * (l : Int)) := by
        have := cntN_two HLO.out
        have e := HLN.out
        show _ = _
        rw [this, e]; omega
      rw [HC2.out]
      have hl2 : (l : Int) ≤ 120 := by omega
      go_wp2_with fail
      go_ret
      exact ⟨by simp, HB6.out.trans (HBI.out.mono HB6.out.size)⟩
    case pos =>
      have hii : (i : Int) < (k : Int) := by omega
      obtain ⟨r, hr⟩ : ∃ r, R i = r := ⟨_, rfl⟩
      have hri : r ≤ i := by rw [← hr]; exact (HUF.out.small i).1
      have hrr : R r = r := by rw [← hr]; exact (HUF.out.small i).2
      obtain ⟨b, off, x, e1, hbl, hx, hc1⟩ := int_at (HS6.out.below HBI.out) hlt
      subst e1
      obtain ⟨b', off', x', e2, -, hx', hc2⟩ := int_at (HS6.out.below HBI.out) (show r < k by omega)
      cases e2
      rw [lst_at R hlt, hr] at hx
      rw [lst_at R (show r < k by omega), hrr] at hx'
      obtain rfl := Option.some.inj hx
      obtain rfl := Option.some.inj hx'
      have hrk : (r : Int) < (k : Int) := by omega
      have hd : decide ((i : Int) < (r : Int)) = false := decide_eq_false (by omega)
      have HRI := Lib.hid hr
      clear hr hrr hx hx'
      obtain ⟨ca, hca⟩ : ∃ ca, cntN n.links i = ca := ⟨_, rfl⟩
      have HCA := Lib.hid hca
      have hca9 : ca ≤ 7200 := by
        have h1 := cntN_le (L := n.links) i
        have h2 := HLN.out
        rw [hca] at h1
        have h3 : i * n.links.length ≤ 60 * 120 := Nat.mul_le_mul (by omega) (by omega)
        omega
      rw [hca]
      clear hca
      go_upto_region 16 with fail
      go_quiet (fail)
      go_upto_region 19 with (go_at_call 27; go_loud (refine (near_any n ⟨sa, k, sc⟩ ⟨la, l, lc⟩ i _ hl6 (HN6.out.below (Below.trans HBI.out (below_drewN (Below.refl _ _) _)))).mono ?_); rintro e w7 ⟨v7, rfl, ho7, hb7⟩; obtain ⟨na, nc, rfl, hsl7, -⟩ := ho7.slice; have HS7 := Lib.hid hsl7; have HB7 : Hid (Below w6.heap.size w6 w7) := (Below.trans HBI.out (below_drewN (Below.refl _ _) _)).trans (hb7.mono HBI.out.size); clear ho7 hb7 hsl7)
      obtain ⟨NL, hNL⟩ : ∃ NL, nearL n.links (i : Int) = NL := ⟨_, rfl⟩
      rw [hNL] at HS7 ⊢
      have HNB : Hid (∀ x ∈ NL, x.a = i ∧ 0 ≤ x.b ∧ x.b < k ∧ (⟨x.b, i, x.w⟩ : Lnk) ∈ nearL n.links x.b ∧ R x.b.toNat = r) := by
        intro x hx
        rw [← hNL] at hx
        obtain ⟨q1, q2, q3, q4, q5⟩ := near_back HLO.out hx
        exact ⟨q1, q2, q3, q4, by rw [q5 R HUF.out.lnk, HRI.out]⟩
      obtain ⟨m, hm⟩ : ∃ m, NL.length = m := ⟨_, rfl⟩
      rw [hm] at HS7 ⊢
      have HML : Hid (cntN n.links (i + 1) = ca + m) := by
        show cntN n.links i + (nearL n.links (i : Int)).length = _
        rw [HCA.out, hNL, hm]
      have hm9 : m ≤ 120 := by
        have h1 := fromL_len n.links (i : Int)
        have h2 := near_len n.links (i : Int)
        have h3 := HLN.out
        rw [hNL, hm] at h2
        omega
      clear hNL hm c0 c1 c2
      go_loopw [97, 9] (fun vj va wr2 => ∃ j : Nat, vj = .int .i64 ((j : Nat) : Int) ∧ va = .int .i64 ((ca + j : Nat) : Int) ∧ j ≤ m ∧ Hid (Below w7.heap.size w7 wr2)) (fun vj _ _ => m - (intOf vj).toNat)
      case atStart => exact ⟨0, rfl, rfl, Nat.zero_le _, Below.refl _ _⟩
      case round =>
        obtain ⟨j, rfl, rfl, hj, HBJ⟩ := hrel
        have HB7J := Lib.hid (HB7.out.trans (HBJ.out.mono HB7.out.size))
        by_cases hltj : j < m
        case neg =>
          have hje : j = m := by omega
          subst hje
          have hjj : ¬ (j : Int) < (j : Int) := by omega
          go_wp2_with fail
          go_roundw
          case rel => exact ⟨i + 1, by go_num, by rw [HML.out], by omega, HB7J.out⟩
          case measure => simp [intOf]; omega
        case pos =>
          have hjj : (j : Int) < (m : Int) := by omega
          have HXJ := Lib.hid (box_below HX6.out HB7J.out)
          obtain ⟨c0, c1, c2, -, -, -⟩ := box3_cells HXJ.out
          obtain ⟨b2, off2, l2, e3, hbl2, hl2, p0, p1, p2⟩ := lnk_at (HS7.out.below HBJ.out) hltj
          subst e3
          obtain ⟨la2, lb2, lw2⟩ := l2
          obtain ⟨q1, q2, q3, q4, q5⟩ := HNB.out _ (List.mem_of_getElem? hl2)
          simp only [] at p0 p1 p2 q1 q2 q3 q4 q5
          subst q1
          have HQ4 := Lib.hid q4
          have HQ5 := Lib.hid q5
          clear q4 q5 hl2
          have hcaj : ((ca + j : Nat) : Int) + 1 = ((ca + j + 1 : Nat) : Int) := by omega
          have hcj9 : ((ca + j : Nat) : Int) ≤ 10000 := by omega
          obtain ⟨cj, hcj⟩ : ∃ cj : Int, ((ca + j : Nat) : Int) = cj := ⟨_, rfl⟩
          obtain ⟨cj1, hcj1⟩ : ∃ cj1 : Int, ((ca + j + 1 : Nat) : Int) = cj1 := ⟨_, rfl⟩
          have hcj0 : 0 ≤ cj := by omega
          rw [hcj, hcj1] at hcaj
          rw [hcj] at hcj9 ⊢
          have HCJ1 := Lib.hid hcj1
          clear hcj hcj1
          obtain ⟨rb, hrb⟩ : ∃ rb : Nat, lb2 = (rb : Int) := ⟨lb2.toNat, by omega⟩
          subst hrb
          rw [Int.toNat_natCast] at HQ5
          go_upto_region 23 with fail
          have HVX := Lib.hid (box_new wr (.cells #[.int .i64 (i : Int), .int .i64 (rb : Int), .int .i64 lw2] 63))
          have HV7 : Hid (Below w7.heap.size w7 (wr.alloc (.cells #[.int .i64 (i : Int), .int .i64 (rb : Int), .int .i64 lw2] 63))) := HBJ.out.alloc HBJ.out.size _
          have HQW := Lib.hid HBJ.out.size
          obtain ⟨V, hV⟩ : ∃ V, wr.alloc (.cells #[.int .i64 (i : Int), .int .i64 (rb : Int), .int .i64 lw2] 63) = V := ⟨_, rfl⟩
          obtain ⟨q, hq⟩ : ∃ q, wr.heap.size = q := ⟨_, rfl⟩
          rw [hV] at HVX HV7 ⊢
          rw [hq] at HVX HQW ⊢
          clear hV hq c0 c1 c2 p0 p1 p2 HXJ HB7J
          have HV6 : Hid (Below w6.heap.size w6 V) := HB7.out.trans (HV7.out.mono HB7.out.size)
          have HXV := Lib.hid (box_below HX6.out HV6.out)
          obtain ⟨c0, c1, c2, -, -, -⟩ := box3_cells HXV.out
          obtain ⟨d0, d1, d2, -, -, -⟩ := box3_cells HVX.out
          go_upto_region 24 with (go_at_call 27; go_loud (refine (near_any n ⟨sa, k, sc⟩ ⟨la, l, lc⟩ (rb : Int) V hl6 (HN6.out.below HV6.out)).mono ?_); rintro e w8 ⟨v8, rfl, ho8, hb8⟩; obtain ⟨ma, mc, rfl, hsl8, -⟩ := ho8.slice; have HS8 := Lib.hid hsl8; have HB8 : Hid (Below V.heap.size V w8) := hb8; have HX8 := Lib.hid (box_below HVX.out hb8); clear ho8 hb8 hsl8)
          have HAN := Lib.hid (any_mem HQ4.out)
          obtain ⟨ML, hML⟩ : ∃ ML, nearL n.links (rb : Int) = ML := ⟨_, rfl⟩
          rw [hML] at HS8 HAN ⊢
          obtain ⟨m2, hm2⟩ : ∃ m, ML.length = m := ⟨_, rfl⟩
          rw [hm2] at HS8 ⊢
          have hm29 : m2 ≤ 120 := by
            have h1 := fromL_len n.links (rb : Int)
            have h2 := near_len n.links (rb : Int)
            have h3 := HLN.out
            rw [hML, hm2] at h2
            omega
          have HM2 := Lib.hid hm2
          clear hML hm2 c0 c1 c2 d0 d1 d2
          go_loopw [108, 13] (fun vt vb wr3 => ∃ (t : Nat) (bb : Bool), vt = .int .i64 ((t : Nat) : Int) ∧ vb = .bool bb ∧ t ≤ m2 ∧ Hid ((ML.take t).any (isL rb i lw2) = bb) ∧ Hid (Below w8.heap.size w8 wr3)) (fun vt _ _ => m2 - (intOf vt).toNat)
          case atStart => exact ⟨0, false, rfl, rfl, Nat.zero_le _, rfl, Below.refl _ _⟩
          case round =>
            obtain ⟨t, bb, rfl, rfl, ht, HAT, HBT⟩ := hrel
            have HXT := Lib.hid (box_below HX8.out HBT.out)
            by_cases hltt : t < m2
            case neg =>
              have hte : t = m2 := by omega
              subst hte
              have htt : ¬ (t : Int) < (t : Int) := by omega
              have hbb : bb = true := by
                have h1 := HAT.out
                rw [List.take_of_length_le (by rw [HM2.out]; exact Nat.le_refl _), HAN.out] at h1
                exact h1.symm
              subst hbb
              have HBT7 : Hid (Below w7.heap.size w7 wr) := HV7.out.trans ((HB8.out.trans (HBT.out.mono HB8.out.size)).mono HV7.out.size)
              have HBT6 : Hid (Below w6.heap.size w6 wr) := HB7.out.trans (HBT7.out.mono HB7.out.size)
              obtain ⟨b', off', x', e2, -, hx', hc1⟩ := int_at (HS6.out.below HBT6.out) hlt
              cases e2
              obtain ⟨b', off', x'', e2, hbl9, hx'', hc2⟩ := int_at (HS6.out.below HBT6.out) (show rb < k by omega)
              cases e2
              rw [lst_at R hlt, HRI.out] at hx'
              rw [lst_at R (show rb < k by omega), HQ5.out] at hx''
              obtain rfl := Option.some.inj hx'
              obtain rfl := Option.some.inj hx''
              obtain ⟨d0, d1, d2, -, -, -⟩ := box3_cells HXT.out
              clear hx' hx''
              go_upto_region 28 with fail
              go_quiet (fail)
              go_wp2_with fail
              go_roundw
              case rel => exact ⟨j + 1, by go_num, by rw [← HCJ1.out]; rfl, by omega, Below.trans HBT7.out (below_drewN (Below.refl _ _) _)⟩
              case measure => simp [intOf]; omega
            case pos =>
              have htt : (t : Int) < (m2 : Int) := by omega
              obtain ⟨b3, off3, l3, e3, hbl3, hl3, s0, s1, s2⟩ := lnk_at (HS8.out.below HBT.out) hltt
              subst e3
              obtain ⟨xa, xb, xw⟩ := l3
              simp only [] at s0 s1 s2
              have hqe := eql_lnk xa xb xw rb i lw2
              obtain ⟨bq, hbq⟩ : ∃ bq, decide (xa = rb ∧ xb = i ∧ xw = lw2) = bq := ⟨_, rfl⟩
              rw [hbq] at hqe
              have HNX : Hid ((ML.take (t + 1)).any (isL rb i lw2) = (bb || bq)) := by
                show _ = _
                rw [any_take hl3, HAT.out, ← hbq]; rfl
              have hy3 := box_lt HXT.out
              obtain ⟨d0, d1, d2, -, -, -⟩ := box3_cells HXT.out
              clear hl3 hbq
              cases bb with
              | true =>
                go_wp2_with fail
                go_roundw
                case rel => exact ⟨t + 1, true, by go_num, rfl, by omega, HNX.out, HBT.out.alloc HBT.out.size _⟩
                case measure => simp [intOf]; omega
              | false =>
                go_wp2_with fail
                go_roundw
                case rel => exact ⟨t + 1, bq, by go_num, rfl, by omega, HNX.out, HBT.out.alloc HBT.out.size _⟩
                case measure => simp [intOf]; omega
end Go.Proofs.Ytnjgonplojpcnaa.Gb

namespace Go.Proofs.Ytnjgonplojpcnaa.lawGraphBack
open Go.ChangeShapes Go.WideShapes Go.ChangeAt Go.RowKit Go.V Go.Proofs.Ytnjgonplojpcnaa.Ne

theorem own : ownKnob Try.prog.godebug = none := by kernel_rfl
theorem laidOut : laidOutB Try.prog = true := by kernel_rfl

set_option maxRecDepth 100000 in
theorem lifted (os : Os) (started : os.Started) (H : Type) (enc : TypeId × Value → H) :
    ReturnsInHanded {} Try.checked os 5 .any (Rows.graphBackSpec.pre6 enc Try.prog Try.f5 Rows.graphBackRow.domain false) (Rows.graphBackSpec.post enc Try.prog Try.f5 false true false false) := by
  refine returnsInHanded_of_change (C := Try.checked) own started (by kernel_rfl) Try.func5
    (ChangeSpec.witness6 (enc := enc) (C := Try.checked) false ⟨#[], #[.agg #[.int .i64 0, .slice none 0 0, .slice none 0 0]], []⟩ 8 (by kernel_rfl) (by kernel_rfl) (by kernel_rfl) (by kernel_rfl)) ?_
  intro W base args ds gs before hval0 hW hcnd _
  have hval : ∀ (j : Nat) t v, Try.f5.params[j]? = some t → args[j]? = some v → Value.okWide Try.prog W .any base t v := hval0
  have hW' := hW
  obtain ⟨p, q, hA0, hV, rfl, hfz, hnd⟩ := hW
  have hA : DataW.TrodAll enc Try.prog W 0 (fun _ => true) true Try.f5.params.toList args.toList ds p := hA0
  rw [Try.params5] at hA hval
  obtain ⟨v0, vs0, d0, ds0, p0, q0, hargs, rfl, rfl, h0, r0⟩ := trodAll_cons hA
  obtain ⟨rfl, rfl, rfl⟩ := trodAll_nil r0
  obtain rfl : args = #[v0] := by cases args; simp_all
  obtain ⟨rfl, rfl⟩ := trodVars_none hV
  have k0 := h0
  have lt0 : ∀ x ∈ p0, x.block < W.heap.size := by obtain ⟨m, hm⟩ := k0; exact DataW.trod_lt m _ _ _ hm
  obtain ⟨nt, hs, hl, rfl, hnt, -, -, -⟩ := open_net (hval 0 46 v0 rfl rfl) h0
  clear hA0 hval0
  refine (Gb.gback_any nt hs hl W hnt).mono fun e W' ⟨he, bel⟩ => ?_
  subst he
  exact ⟨_, rfl, _, _, _, [], _, [], hW', trodAll_mk1 (shut_bool Try.underlying4 _), (trodAll_cons_mk (Below.trod laidOut (by kernel_rfl) (of_decide_eq_true (by kernel_rfl)) k0 bel lt0) trodAll_mk0), rfl, bel.frame _, fun h => by cases h⟩

theorem over : Rows.graphBackRow.holds Try.pinned (OpenSpec.ofChange Rows.graphBackSpec) :=
  OpenClaim.holds_of_wide 5 Try.f5 rfl rfl rfl rfl rfl rfl rfl ⟨rfl, rfl, rfl, rfl, rfl⟩ rfl rfl rfl rfl rfl (by kernel_rfl) Try.func5 (by kernel_rfl)
    (of_decide_eq_true (by kernel_rfl)) (by unfold Func.isWrapper; first | (rw [if_pos (by decide +kernel)]; kernel_rfl) | (rw [if_neg (by decide +kernel)]; exact ⟨rfl, rfl⟩))
    (fun os started H enc _ => lifted os started H enc)

theorem proved : Rows.GraphBackSaid := over
#print axioms proved
end Go.Proofs.Ytnjgonplojpcnaa.lawGraphBack
