/- Costs: a table costs what the document says: the law walked. -/
import Derived.Test.YteihffnmgacfpaaNoF
namespace Go.Proofs.Yteihffnmgacfpaa.Ne
open Go.RowKit Go.V Go.Proofs Go.Sort Go.Maps

abbrev playV (hp hq : Hdr) (a b : Int) : Value := .agg #[.slice hp.a hp.n hp.cap, .slice hq.a hq.n hq.cap, .int .i64 a, .int .i64 b]
abbrev playB (hp hq : Hdr) (a b : Int) : Obj := .cells #[.slice hp.a hp.n hp.cap, .slice hq.a hq.n hq.cap, .int .i64 a, .int .i64 b] 55
/-- What the law has boxed. -/
structure L22 (w : World) (g : Nat) (n : Net) (hs hl : Hdr) (x : Wgh) (hp hq : Hdr) (a b : Int) : Prop where
  n : w.heap[g]? = some (n.box hs hl)
  x : w.heap[g + 1]? = some x.box
  p : w.heap[g + 2]? = some (playB hp hq a b)
theorem L22.below {w w' : World} {g : Nat} {n : Net} {hs hl : Hdr} {x : Wgh} {hp hq : Hdr} {a b : Int} (h : L22 w g n hs hl x hp hq a b) (hb : Below w.heap.size w w') : L22 w' g n hs hl x hp hq a b := ⟨box_below h.n hb, box_below h.x hb, box_below h.p hb⟩
theorem L22.chg {w w' : World} {g mg : Nat} {n : Net} {hs hl : Hdr} {x : Wgh} {hp hq : Hdr} {a b : Int} (h : L22 w g n hs hl x hp hq a b) (hc : Chg w w' mg none) (hg : g + 2 < mg) : L22 w' g n hs hl x hp hq a b :=
  ⟨hc.box h.n (by omega) (by simp), hc.box h.x (by omega) (by simp), hc.box h.p (by omega) (by simp)⟩
theorem L22.cells {w : World} {g : Nat} {n : Net} {hs hl : Hdr} {x : Wgh} {hp hq : Hdr} {a b : Int} (h : L22 w g n hs hl x hp hq a b) :
    w.cell? ⟨g, 0, none⟩ = some (.int .i64 n.ver) ∧ w.cell? ⟨g, 1, none⟩ = some (.slice hs.a hs.n hs.cap) ∧ w.cell? ⟨g, 2, none⟩ = some (.slice hl.a hl.n hl.cap) ∧
    w.cell? ⟨g + 1, 0, none⟩ = some (.int .i64 x.reach) ∧ w.cell? ⟨g + 1, 1, none⟩ = some (.int .i64 x.most) ∧ w.cell? ⟨g + 1, 2, none⟩ = some (.int .i64 x.factor) ∧ w.cell? ⟨g + 1, 3, none⟩ = some (.int .i64 x.change) ∧
    w.cell? ⟨g + 2, 0, none⟩ = some (.slice hp.a hp.n hp.cap) ∧ w.cell? ⟨g + 2, 1, none⟩ = some (.slice hq.a hq.n hq.cap) ∧ w.cell? ⟨g + 2, 2, none⟩ = some (.int .i64 a) ∧ w.cell? ⟨g + 2, 3, none⟩ = some (.int .i64 b) :=
  ⟨(box_cell h.n 0).1, (box_cell h.n 1).1, (box_cell h.n 2).1, (box_cell h.x 0).1, (box_cell h.x 1).1, (box_cell h.x 2).1, (box_cell h.x 3).1, (box_cell h.p 0).1, (box_cell h.p 1).1, (box_cell h.p 2).1, (box_cell h.p 3).1⟩
theorem L22.new (w : World) (n : Net) (hs hl : Hdr) (x : Wgh) (hp hq : Hdr) (a b : Int) : L22 (((w.alloc (n.box hs hl)).alloc x.box).alloc (playB hp hq a b)) w.heap.size n hs hl x hp hq a b := by
  refine ⟨box_alloc (box_alloc (box_new _ _)), box_alloc ?_, ?_⟩
  · have := box_new (w.alloc (n.box hs hl)) x.box
    simpa using this
  · have := box_new ((w.alloc (n.box hs hl)).alloc x.box) (playB hp hq a b)
    simpa using this

set_option maxHeartbeats 8000000 in
set_option maxRecDepth 100000 in
theorem ctells_any (n : Net) (hs hl : Hdr) (x : Wgh) (hp hq : Hdr) (gs : List (List Pnt)) (ss : List Int) (a b : Int) (w : World) (h : NetIn w n hs hl) (hP : PtsIn w hp.a hp.n hp.cap gs) (hS : SlQ icod w hq.a hq.n hq.cap ss) :
    Calls Try.prog 5 #[n.val hs hl, x.val, playV hp hq a b] w fun e w' => e = .returned (.bool true) ∧ Below w.heap.size w w' := by
  have mixed : Try.prog.follows .mixedOrders = true := by kernel_rfl
  obtain ⟨sa, k, sc⟩ := hs
  obtain ⟨la, m, lc⟩ := hl
  obtain ⟨xr, xm, xf, xc⟩ := x
  obtain ⟨pa, pn, pc⟩ := hp
  obtain ⟨qa, qn, qc⟩ := hq
  have hp9 : pn ≤ 9223372036854775807 := hP.len.2
  have hq9 : qn ≤ 9223372036854775807 := by have h1 : qn ≤ qc := hS.hcap; have h2 : qc ≤ maxLen := hS.hmax; unfold maxLen at h2; omega
  obtain ⟨W, hWe⟩ : ∃ W, ((w.alloc (n.box ⟨sa, k, sc⟩ ⟨la, m, lc⟩)).alloc (Wgh.mk xr xm xf xc).box).alloc (playB ⟨pa, pn, pc⟩ ⟨qa, qn, qc⟩ a b) = W := ⟨_, rfl⟩
  have HB : Hid (Below w.heap.size w W) := by
    rw [← hWe]; exact (((Below.refl _ _).alloc (Nat.le_refl _) _).alloc (by simp) _).alloc (by simp; omega) _
  have HL : Hid (L22 W w.heap.size n ⟨sa, k, sc⟩ ⟨la, m, lc⟩ ⟨xr, xm, xf, xc⟩ ⟨pa, pn, pc⟩ ⟨qa, qn, qc⟩ a b) := by rw [← hWe]; exact L22.new _ _ _ _ _ _ _ _ _
  have HH := Lib.hid h
  have HP := Lib.hid hP
  have HS := Lib.hid hS
  clear h hP hS
  go_enter Try.func5, Try.ntmps5
  go_upto_region 3 with (go_at_call 31; refine (awake22_any _).mono ?_; rintro e w1 ⟨rfl, hb1⟩; have HB1 := Lib.hid (HB.out.trans (hb1.mono HB.out.size)); have HL1 := Lib.hid (HL.out.below hb1); clear hb1)
  obtain ⟨n0, n1, n2, x0, x1, x2, x3, p0, p1, p2, p3⟩ := HL1.out.cells
  clear HB HL hWe
  obtain ⟨fb, hfb⟩ : ∃ fb, decide (k ≤ 60 ∧ m ≤ 120) = fb := ⟨_, rfl⟩
  have HFB := Lib.hid hfb
  clear hfb
  cases fb with
  | false =>
    go_wp2_with (go_at_call 16; refine (few_any n ⟨sa, k, sc⟩ ⟨la, m, lc⟩ _).mono ?_; rintro e w2 ⟨rfl, hb2⟩; rw [HFB.out]; have HB2 := Lib.hid (HB1.out.trans (hb2.mono HB1.out.size)); clear hb2)
    go_ret
    exact ⟨rfl, HB2.out⟩
  | true =>
  obtain ⟨k60, m120⟩ := of_decide_eq_true HFB.out
  have HM : Hid (k ≤ 1000000 ∧ m ≤ 1000000) := ⟨by omega, by omega⟩
  obtain ⟨ce, hce⟩ : ∃ ce, checkE n = ce := ⟨_, rfl⟩
  have HCE := Lib.hid hce
  clear hce
  by_cases he : ce = 0
  case neg =>
    have e0 : (ce == 0) = false := by simpa using he
    go_wp2_with (first
      | (go_at_call 16; refine (few_any n ⟨sa, k, sc⟩ ⟨la, m, lc⟩ _).mono ?_; rintro e w2 ⟨rfl, hb2⟩; rw [HFB.out]; have HB2 := Lib.hid (HB1.out.trans (hb2.mono HB1.out.size)); have HL2 := Lib.hid (HL1.out.below hb2); obtain ⟨q0, q1, q2, -⟩ := HL2.out.cells; clear hb2)
      | (go_at_call 18; refine (rcheck_any n ⟨sa, k, sc⟩ ⟨la, m, lc⟩ _ HM.out (HH.out.below HB2.out)).mono ?_; rintro e w4 ⟨rfl, hb4⟩; rw [HCE.out]; have HB4 := Lib.hid (HB2.out.trans (hb4.mono HB2.out.size)); clear hb4))
    go_ret
    exact ⟨rfl, HB4.out⟩
  case pos =>
  subst he
  obtain ⟨fp, hfp⟩ : ∃ fp, fewP gs = fp := ⟨_, rfl⟩
  have HFP := Lib.hid hfp
  clear hfp
  cases fp with
  | false =>
    go_wp2_with (first
      | (go_at_call 16; refine (few_any n ⟨sa, k, sc⟩ ⟨la, m, lc⟩ _).mono ?_; rintro e w2 ⟨rfl, hb2⟩; rw [HFB.out]; have HB2 := Lib.hid (HB1.out.trans (hb2.mono HB1.out.size)); have HL2 := Lib.hid (HL1.out.below hb2); obtain ⟨q0, q1, q2, -⟩ := HL2.out.cells; clear hb2)
      | (go_at_call 18; refine (rcheck_any n ⟨sa, k, sc⟩ ⟨la, m, lc⟩ _ HM.out (HH.out.below HB2.out)).mono ?_; rintro e w4 ⟨rfl, hb4⟩; rw [HCE.out]; have HB4 := Lib.hid (HB2.out.trans (hb4.mono HB2.out.size)); have HL4 := Lib.hid (HL2.out.below hb4); obtain ⟨-, -, -, -, -, -, -, r0, r1, -, -⟩ := HL4.out.cells; clear hb4)
      | (go_at_call 32; refine (fewP_any pa pn pc gs _ (HP.out.below HB4.out)).mono ?_; rintro e w5 ⟨rfl, rfl⟩; rw [HFP.out]))
    go_ret
    exact ⟨rfl, HB4.out⟩
  | true =>
  have hp40 : pn ≤ 40 := by
    have h1 := HFP.out
    unfold fewP at h1
    rw [Bool.and_eq_true] at h1
    have h2 := of_decide_eq_true h1.2
    have h3 : pn = gs.length := HP.out.len.1
    omega
  by_cases hbig : (60 : Int) < (qn : Int)
  · go_wp2_with (first
      | (go_at_call 16; refine (few_any n ⟨sa, k, sc⟩ ⟨la, m, lc⟩ _).mono ?_; rintro e w2 ⟨rfl, hb2⟩; rw [HFB.out]; have HB2 := Lib.hid (HB1.out.trans (hb2.mono HB1.out.size)); have HL2 := Lib.hid (HL1.out.below hb2); obtain ⟨q0, q1, q2, -⟩ := HL2.out.cells; clear hb2)
      | (go_at_call 18; refine (rcheck_any n ⟨sa, k, sc⟩ ⟨la, m, lc⟩ _ HM.out (HH.out.below HB2.out)).mono ?_; rintro e w4 ⟨rfl, hb4⟩; rw [HCE.out]; have HB4 := Lib.hid (HB2.out.trans (hb4.mono HB2.out.size)); have HL4 := Lib.hid (HL2.out.below hb4); obtain ⟨-, -, -, -, -, -, -, r0, r1, -, -⟩ := HL4.out.cells; clear hb4)
      | (go_at_call 32; refine (fewP_any pa pn pc gs _ (HP.out.below HB4.out)).mono ?_; rintro e w5 ⟨rfl, rfl⟩; rw [HFP.out]))
    go_ret
    exact ⟨rfl, HB4.out⟩
  have hbf : decide ((60 : Int) < (qn : Int)) = false := decide_eq_false hbig
  go_upto_region 5 with (first
    | (go_at_call 16; refine (few_any n ⟨sa, k, sc⟩ ⟨la, m, lc⟩ _).mono ?_; rintro e w2 ⟨rfl, hb2⟩; rw [HFB.out]; have HB2 := Lib.hid (HB1.out.trans (hb2.mono HB1.out.size)); have HL2 := Lib.hid (HL1.out.below hb2); obtain ⟨q0, q1, q2, -⟩ := HL2.out.cells; clear hb2)
    | (go_at_call 18; refine (rcheck_any n ⟨sa, k, sc⟩ ⟨la, m, lc⟩ _ HM.out (HH.out.below HB2.out)).mono ?_; rintro e w4 ⟨rfl, hb4⟩; rw [HCE.out]; have HB4 := Lib.hid (HB2.out.trans (hb4.mono HB2.out.size)); have HL4 := Lib.hid (HL2.out.below hb4); obtain ⟨-, -, -, -, -, -, -, r0, r1, -, -⟩ := HL4.out.cells; clear hb4)
    | (go_at_call 32; refine (fewP_any pa pn pc gs _ (HP.out.below HB4.out)).mono ?_; rintro e w5 ⟨rfl, rfl⟩; rw [HFP.out]))
  clear n0 n1 n2 x0 x1 x2 x3 p0 p1 p2 p3 q0 q1 q2 r0 r1 HL1 HB1 HL2 HB2
  obtain ⟨n0, n1, n2, x0, x1, x2, x3, p0, p1, p2, p3⟩ := HL4.out.cells
  go_upto_region 8 with (go_at_call 17; refine (tnew_any n ⟨sa, k, sc⟩ ⟨la, m, lc⟩ _ HM.out (HH.out.below HB4.out)).mono ?_; rintro e w6 ⟨hb6, -, hf⟩; obtain ⟨tg, rfl, mg, ht, hne⟩ := hf HCE.out; have HB6 := Lib.hid (HB4.out.trans (hb6.mono HB4.out.size)); have HL6 := Lib.hid (HL4.out.below hb6); have HT6 := Lib.hid ht; have HNE := Lib.hid hne; clear hb6 hf ht hne)
  clear n0 n1 n2 x0 x1 x2 x3 p0 p1 p2 p3
  have hgl : w.heap.size + 2 < w4.heap.size := box_lt HL4.out.p
  have HGM : Hid (w.heap.size + 2 < mg) := by show _ < _; have := HT6.out.bm; omega
  obtain ⟨B, hBe⟩ : ∃ B, w4.heap.size = B := ⟨_, rfl⟩
  rw [hBe] at HT6
  clear HL4 HB4 hgl hBe
  obtain ⟨n0, n1, n2, x0, x1, x2, x3, p0, p1, p2, p3⟩ := HL6.out.cells
  go_region_held3 (fun w' => w'.cell? ⟨w.heap.size + 2, 2, none⟩ = some (.int .i64 a) ∧ w'.cell? ⟨w.heap.size + 2, 3, none⟩ = some (.int .i64 b)) (go_keep) (fail)
  have HB7 : Hid (Below w.heap.size w w6.drew) := HB6.out.trans (Below.drew (Below.refl _ _))
  have HL7 := Lib.hid (HL6.out.below (Below.drew (Below.refl _ _)))
  have HT7 := Lib.hid (HT6.out.below (Below.drew (Below.refl _ _)))
  obtain ⟨X, hX⟩ : ∃ X, w6.drew = X := ⟨_, rfl⟩
  rw [hX] at HB7 HL7 HT7 ⊢
  clear n0 n1 n2 x0 x1 x2 x3 p0 p1 p2 p3 HB6 HL6 HT6 hX
  obtain ⟨n0, n1, n2, x0, x1, x2, x3, p0, p1, p2, p3⟩ := HL7.out.cells
  obtain ⟨st, hst⟩ : ∃ st, stepE n k ⟨xr, xm, xf, xc⟩ a b = st := ⟨_, rfl⟩
  obtain ⟨sq, hsq⟩ : ∃ sq, seqE n k ⟨xr, xm, xf, xc⟩ gs ss = sq := ⟨_, rfl⟩
  have HST := Lib.hid hst
  have HSQ := Lib.hid hsq
  clear hst hsq
  go_wp2_with fail
  go_region_held3 (fun w' => w'.cell? ⟨w.heap.size, 0, none⟩ = some (.int .i64 n.ver) ∧ w'.cell? ⟨w.heap.size, 1, none⟩ = some (.slice sa k sc) ∧ w'.cell? ⟨w.heap.size, 2, none⟩ = some (.slice la m lc) ∧ w'.cell? ⟨w.heap.size + 1, 0, none⟩ = some (.int .i64 xr) ∧ w'.cell? ⟨w.heap.size + 1, 1, none⟩ = some (.int .i64 xm) ∧ w'.cell? ⟨w.heap.size + 1, 2, none⟩ = some (.int .i64 xf) ∧ w'.cell? ⟨w.heap.size + 1, 3, none⟩ = some (.int .i64 xc) ∧ w'.cell? ⟨w.heap.size + 2, 0, none⟩ = some (.slice pa pn pc) ∧ w'.cell? ⟨w.heap.size + 2, 1, none⟩ = some (.slice qa qn qc) ∧ w'.cell? ⟨w.heap.size + 2, 2, none⟩ = some (.int .i64 a) ∧ w'.cell? ⟨w.heap.size + 2, 3, none⟩ = some (.int .i64 b))
    (first | (exact HLd.out.cells) | (exact HLc.out.cells) | (exact HLb.out.cells) | (exact HLa.out.cells) | go_keep)
    (first
      | (go_at_call 33; go_loud (refine (cstep_any _ B tg mg 0 n ⟨sa, k, sc⟩ ⟨la, m, lc⟩ ⟨xr, xm, xf, xc⟩ a b (HT7.out.below (Below.drew (Below.refl _ _))) HCE.out k60 m120 (by omega) HNE.out).mono ?_); rintro e wa ⟨rfl, hta, hca⟩; rw [HST.out]; have HTa := Lib.hid hta; have HCa : Hid (Chg X wa mg none) := (Chg.of_below (Below.drew (Below.refl _ _)) mg none).trans hca (.inl rfl); have HLa := Lib.hid (HL7.out.chg HCa.out HGM.out); have HBa := Lib.hid (HB7.out.trans (HCa.out.below (by have := HGM.out; omega) (by simp) HB7.out.size)); clear hta hca)
      | (go_at_call 34; go_loud (refine (rstep_any n ⟨sa, k, sc⟩ ⟨la, m, lc⟩ ⟨xr, xm, xf, xc⟩ a b _ (HH.out.below HBa.out) HCE.out k60 m120).mono ?_); rintro e wb ⟨rfl, hbb⟩; rw [HST.out]; have HTb := Lib.hid (HTa.out.below hbb); have HLb := Lib.hid (HLa.out.below hbb); have HBb := Lib.hid (HBa.out.trans (hbb.mono HBa.out.size)); clear hbb)
      | (go_at_call 35; go_loud (refine (cseq_any _ w B tg mg 1 n ⟨sa, k, sc⟩ ⟨la, m, lc⟩ ⟨xr, xm, xf, xc⟩ ⟨pa, pn, pc⟩ ⟨qa, qn, qc⟩ gs ss HTb.out HCE.out k60 m120 (by omega) HNE.out HBb.out HP.out HS.out (by have := HGM.out; omega)).mono ?_); rintro e wc ⟨rfl, htc, hcc⟩; rw [HSQ.out]; have HTc := Lib.hid htc; have HLc := Lib.hid (HLb.out.chg hcc HGM.out); have HBc := Lib.hid (HBb.out.trans (hcc.below (by have := HGM.out; omega) (by simp) HBb.out.size)); clear htc hcc)
      | (go_at_call 36; go_loud (refine (rseq_any _ n ⟨sa, k, sc⟩ ⟨la, m, lc⟩ ⟨xr, xm, xf, xc⟩ ⟨pa, pn, pc⟩ ⟨qa, qn, qc⟩ gs ss (HH.out.below HBc.out) HCE.out k60 m120 (HP.out.below HBc.out) (HS.out.below HBc.out)).mono ?_); rintro e wd ⟨rfl, hbd⟩; rw [HSQ.out]; have HLd := Lib.hid (HLc.out.below hbd); have HBd := Lib.hid (HBc.out.trans (hbd.mono HBc.out.size)); clear hbd))
  all_goals
    clear n0 n1 n2 x0 x1 x2 x3 p0 p1 p2 p3
    obtain ⟨-, -, -, -, -, -, -, p0, -, -, -⟩ := HLd.out.cells
    go_wp2_with fail
    clear p0
    go_loopw [83] (fun i wr => ∃ j : Nat, i = .int .i64 j ∧ j ≤ pn ∧ Hid (Below w.heap.size w wr)) (fun i _ => pn - (intOf i).toNat)
    case atStart => exact ⟨0, by go_num, by omega, HBd.out⟩
    case round =>
      obtain ⟨j, rfl, hj, HBr⟩ := hrel
      by_cases hlt : j < pn
      · obtain ⟨pb, po, ph, g, e1, hpbl, hg, hpc, hpq⟩ := (HP.out.below HBr.out).at hlt
        obtain ⟨pha, phn, phc⟩ := ph
        have e1 : pa = some ⟨pb, po, none⟩ := e1
        subst e1
        have HPQ := Lib.hid hpq
        clear hg hpq
        go_wp2_with (first
          | (go_at_call 37; go_loud (refine (csquare_any pha phn phc g a _ HPQ.out).mono ?_); rintro e ve ⟨rfl, hbe⟩; have HPQe := Lib.hid (HPQ.out.below hbe); have HBe := Lib.hid (HBr.out.trans (hbe.mono HBr.out.size)); clear hbe)
          | (go_at_call 38; go_loud (refine (rsquare_any pha phn phc g a _ HPQe.out).mono ?_); rintro e vf ⟨rfl, rfl⟩))
        go_roundw
        case rel => exact ⟨j + 1, by go_num, by omega, HBe.out⟩
        case measure => simp [intOf]; omega
      · have hjn : pn = j := by omega
        subst hjn
        go_wp2_with fail
        go_ret
        exact ⟨rfl, HBr.out⟩
end Go.Proofs.Yteihffnmgacfpaa.Ne
