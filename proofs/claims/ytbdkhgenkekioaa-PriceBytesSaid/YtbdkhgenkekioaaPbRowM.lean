/- Tariffs as bytes, and bytes as tariffs: the law walked. -/
/- PriceBytes answers true, whatever comes in, and what came in reads as it did; no condition. -/
import Derived.Test.YtbdkhgenkekioaaPbB
import Derived.Test.YtbdkhgenkekioaaPbC
import Derived.Test.YtbdkhgenkekioaaPbD
import Derived.Test.YtbdkhgenkekioaaPbE
import Derived.Test.YtbdkhgenkekioaaPbF
import Derived.Test.YtbdkhgenkekioaaFaP
import Derived.Test.YtbdkhgenkekioaaRows
import Derived.Test.YtbdkhgenkekioaaFaR
import Derived.Test.YtbdkhgenkekioaaOpen
namespace Go.Proofs.Ytbdkhgenkekioaa.Pb
open Go.RowKit Go.V Go.Proofs Go.Sort Go.Proofs.Ytbdkhgenkekioaa.Wi
open Go.Proofs.Ytbdkhgenkekioaa.Ne (box_alloc box_new box_cell box_below box_lt)

abbrev tbox (t : Tar) (hb hs hr : Hdr) : Obj := .cells #[.int .i64 t.ver, .slice hb.a hb.n hb.cap, .int .i64 t.over, .int .i64 t.full, .slice hs.a hs.n hs.cap, .int .i64 t.unit, .int .i64 t.window, .int .i64 t.chain, .slice hr.a hr.n hr.cap] 61

theorem takeT_small (b : List Int) : (takeT b).1.bands.length ≤ 64 ∧ (takeT b).1.shares.length ≤ 16 ∧ (takeT b).1.rungs.length ≤ 16 := by
  have h0 : tar0.bands.length ≤ 64 ∧ tar0.shares.length ≤ 16 ∧ tar0.rungs.length ≤ 16 := ⟨Nat.zero_le _, Nat.zero_le _, Nat.zero_le _⟩
  unfold takeT
  split
  · exact h0
  split
  · exact h0
  split
  · exact h0
  · obtain ⟨c, hc⟩ : ∃ c, (wholeF 4 b).1 = c := ⟨_, rfl⟩
    rw [hc]
    unfold rdTar
    simp only [rdMany_len]
    have e1 := rdN_most c 64 (rdN c 1048576 0 0).2.1 (rdN c 1048576 0 0).2.2 (by omega)
    obtain ⟨K, h1, h2⟩ := e1
    refine ⟨by rw [h1]; omega, ?_, ?_⟩
    · obtain ⟨M, g1, g2⟩ := rdN_most c 16 _ _ (by omega)
      rw [g1]; omega
    · obtain ⟨M, g1, g2⟩ := rdN_most c 16 _ _ (by omega)
      rw [g1]; omega
theorem tsz {t : Tar} {w : World} {hb hs hr : Hdr} (h : TarIn w t hb hs hr) (hs' : t.bands.length ≤ 64 ∧ t.shares.length ≤ 16 ∧ t.rungs.length ≤ 16) : hb.n ≤ 1000000 ∧ hs.n ≤ 1000000 ∧ hr.n ≤ 1000000 := by
  have h1 := h.b.hlen
  have h2 := h.s.hlen
  have h3 := h.r.hlen
  omega

set_option maxHeartbeats 8000000 in
set_option maxRecDepth 100000 in
theorem pbytes_any (t : Tar) (hb hs hr : Hdr) (a : Option Addr) (m cap : Nat) (b : List Int) (w : World) (h : TarIn w t hb hs hr) (hsb : Sl bcod w a m cap b) (hB : Byt b) :
    Calls Try.prog 6 #[t.val hb hs hr, .slice a m cap] w fun e w' => e = .returned (.bool true) ∧ Below w.heap.size w w' := by
  obtain ⟨ba, bn, bc⟩ := hb
  obtain ⟨sa, sn, sc⟩ := hs
  obtain ⟨ra, rn, rc⟩ := hr
  have g1 : bn ≤ 9223372036854775807 := by have := h.b.hcap; have := h.b.hmax; unfold maxLen at this; simp only [] at *; omega
  have g2 : sn ≤ 9223372036854775807 := by have := h.s.hcap; have := h.s.hmax; unfold maxLen at this; simp only [] at *; omega
  have g3 : rn ≤ 9223372036854775807 := by have := h.r.hcap; have := h.r.hmax; unfold maxLen at this; simp only [] at *; omega
  have HH := Lib.hid h
  have HSB := Lib.hid hsb
  have HBB := Lib.hid hB
  have HX0 : Hid (TarBox 61 (w.alloc (tbox t ⟨ba, bn, bc⟩ ⟨sa, sn, sc⟩ ⟨ra, rn, rc⟩)) w.heap.size t ⟨ba, bn, bc⟩ ⟨sa, sn, sc⟩ ⟨ra, rn, rc⟩) := box_new w _
  have HB0 : Hid (Below w.heap.size w (w.alloc (tbox t ⟨ba, bn, bc⟩ ⟨sa, sn, sc⟩ ⟨ra, rn, rc⟩))) := (Below.refl _ _).alloc (Nat.le_refl _) _
  obtain ⟨-, c0, c1, c2, c3, c4, c5, c6, c7, c8⟩ := TarBox.cells HX0.out
  clear h hsb hB
  unfold Tar.val
  go_enter Try.func6, Try.ntmps6
  go_upto_region 3 with (go_at_call 27; refine (awake_any _).mono ?_; rintro e w1 ⟨rfl, hb1⟩; have HB1 := Lib.hid (HB0.out.trans (hb1.mono HB0.out.size)); have HX1 := Lib.hid (HX0.out.below hb1); clear hb1)
  clear c0 c1 c2 c3 c4 c5 c6 c7 c8 HX0 HB0
  obtain ⟨-, c0, c1, c2, c3, c4, c5, c6, c7, c8⟩ := TarBox.cells HX1.out
  obtain ⟨fb, hfb⟩ : ∃ fb, (decide (bn ≤ 100) && decide (sn ≤ 50) && decide (rn ≤ 50)) = fb := ⟨_, rfl⟩
  have HFB := Lib.hid hfb
  clear hfb
  cases fb with
  | false =>
    go_wp2_with (go_at_call 28; refine (few_any t ⟨ba, bn, bc⟩ ⟨sa, sn, sc⟩ ⟨ra, rn, rc⟩ _ ⟨g1, g2, g3⟩).mono ?_; rintro e w2 ⟨rfl, hb2⟩; rw [HFB.out]; have HB2 := Lib.hid (HB1.out.trans (hb2.mono HB1.out.size)); clear hb2)
    go_ret
    exact ⟨rfl, HB2.out⟩
  | true =>
  have hfb3 := HFB.out
  simp only [Bool.and_eq_true, decide_eq_true_eq] at hfb3
  obtain ⟨⟨b100, s50⟩, r50⟩ := hfb3
  by_cases hm : (2000 : Int) < (m : Int)
  · have hd : decide ((2000 : Int) < (m : Int)) = true := decide_eq_true hm
    go_wp2_with (go_at_call 28; refine (few_any t ⟨ba, bn, bc⟩ ⟨sa, sn, sc⟩ ⟨ra, rn, rc⟩ _ ⟨g1, g2, g3⟩).mono ?_; rintro e w2 ⟨rfl, hb2⟩; rw [HFB.out]; have HB2 := Lib.hid (HB1.out.trans (hb2.mono HB1.out.size)); clear hb2)
    go_ret
    exact ⟨rfl, HB2.out⟩
  have hd : decide ((2000 : Int) < (m : Int)) = false := decide_eq_false hm
  go_upto_region 5 with (go_at_call 28; refine (few_any t ⟨ba, bn, bc⟩ ⟨sa, sn, sc⟩ ⟨ra, rn, rc⟩ _ ⟨g1, g2, g3⟩).mono ?_; rintro e w2 ⟨rfl, hb2⟩; rw [HFB.out]; have HB2 := Lib.hid (HB1.out.trans (hb2.mono HB1.out.size)); have HX2 := Lib.hid (HX1.out.below hb2); clear hb2)
  clear c0 c1 c2 c3 c4 c5 c6 c7 c8 HX1
  obtain ⟨-, c0, c1, c2, c3, c4, c5, c6, c7, c8⟩ := TarBox.cells HX2.out
  have HM : Hid (bn ≤ 1000000 ∧ sn ≤ 1000000 ∧ rn ≤ 1000000) := ⟨by omega, by omega, by omega⟩
  have hm6 : m ≤ 1000000 := by omega
  obtain ⟨ok, hok⟩ : ∃ ok, tarOk t = ok := ⟨_, rfl⟩
  have HOK := Lib.hid hok
  clear hok
  have hts := takeT_small b
  obtain ⟨T, hT⟩ : ∃ T, takeT b = T := ⟨_, rfl⟩
  rw [hT] at hts
  obtain ⟨tn, te⟩ := T
  have HTS := Lib.hid hts
  simp only [] at HTS
  clear hts
  have HT := Lib.hid hT
  clear hT
  cases ok with
  | false =>
    go_upto_region 12 with (first
      | (go_at_call 29; go_loud (refine (pput_any t ⟨ba, bn, bc⟩ ⟨sa, sn, sc⟩ ⟨ra, rn, rc⟩ w2 HM.out (HH.out.below HB2.out)).mono ?_); rintro e w3 ⟨hb3, he, -⟩; have he2 := he HOK.out; subst he2; have HB3 := Lib.hid (HB2.out.trans (hb3.mono HB2.out.size)); have HX3 := Lib.hid (HX2.out.below hb3); obtain ⟨-, c0, c1, c2, c3, c4, c5, c6, c7, c8⟩ := TarBox.cells HX3.out; clear hb3 he)
      | (go_at_call 30; go_loud (refine (rtarR_any t ⟨ba, bn, bc⟩ ⟨sa, sn, sc⟩ ⟨ra, rn, rc⟩ w3 HM.out (HH.out.below HB3.out)).mono ?_); rintro e w4 ⟨rfl, hb4⟩; rw [HOK.out]; have HB4 := Lib.hid (HB3.out.trans (hb4.mono HB3.out.size)); clear hb4))
    have HBV := Lib.hid HB4.out
    obtain ⟨v, hv⟩ : ∃ v, w4 = v := ⟨_, rfl⟩
    rw [hv] at HBV ⊢
    clear hv HB4 HB3 HX3 c0 c1 c2 c3 c4 c5 c6 c7 c8
    go_wp2_with (first
      | (go_at_call 31; go_loud (refine (ptake_any a m cap b v (HSB.out.below HBV.out) HBB.out hm6).mono ?_); rintro e u6 ⟨yb, ys, yr, rfl, hn6, hb6⟩; obtain ⟨yba, ybn, ybc⟩ := yb; obtain ⟨ysa, ysn, ysc⟩ := ys; obtain ⟨yra, yrn, yrc⟩ := yr; rw [HT.out] at hn6 ⊢; have HU6 := Lib.hid hn6; have HV6 := Lib.hid (HBV.out.trans (hb6.mono HBV.out.size)); unfold Tar.val; clear hn6 hb6)
      | (go_at_call 34; go_loud (refine (rtaket_any a m cap b (u6.alloc (tbox tn ⟨yba, ybn, ybc⟩ ⟨ysa, ysn, ysc⟩ ⟨yra, yrn, yrc⟩)) (HSB.out.below (HV6.out.alloc HV6.out.size _)) HBB.out hm6).mono ?_); rintro e u7 ⟨zb, zs, zr, rfl, hn7, hb7⟩; obtain ⟨zba, zbn, zbc⟩ := zb; obtain ⟨zsa, zsn, zsc⟩ := zs; obtain ⟨zra, zrn, zrc⟩ := zr; rw [HT.out] at hn7 ⊢; have HU7 := Lib.hid hn7; have HV7 : Hid (Below w.heap.size w u7) := (HV6.out.alloc HV6.out.size _).trans (hb7.mono (by have := HV6.out.size; simp; omega)); have HXT : Hid (TarBox 61 u7 u6.heap.size tn ⟨yba, ybn, ybc⟩ ⟨ysa, ysn, ysc⟩ ⟨yra, yrn, yrc⟩) := box_below (box_new u6 (tbox tn ⟨yba, ybn, ybc⟩ ⟨ysa, ysn, ysc⟩ ⟨yra, yrn, yrc⟩)) hb7; have HU67 := Lib.hid ((HU6.out.below ((Below.refl _ _).alloc (Nat.le_refl _) (tbox tn ⟨yba, ybn, ybc⟩ ⟨ysa, ysn, ysc⟩ ⟨yra, yrn, yrc⟩))).below hb7); obtain ⟨hl7x, k0, k1, k2, k3, k4, k5, k6, k7, k8⟩ := TarBox.cells HXT.out; unfold Tar.val; clear hn7 hb7)
      | (go_at_call 33; go_loud (refine (tsame_eq tn ⟨yba, ybn, ybc⟩ ⟨ysa, ysn, ysc⟩ ⟨yra, yrn, yrc⟩ ⟨zba, zbn, zbc⟩ ⟨zsa, zsn, zsc⟩ ⟨zra, zrn, zrc⟩ _ (tsz HU67.out HTS.out) (HU67.out.below ((Below.refl _ _).alloc (Nat.le_refl _) _)) (HU7.out.below ((Below.refl _ _).alloc (Nat.le_refl _) _))).mono ?_); rintro e u8 ⟨rfl, hb8⟩; have HV8 := Lib.hid ((HV7.out.alloc HV7.out.size (tbox tn ⟨zba, zbn, zbc⟩ ⟨zsa, zsn, zsc⟩ ⟨zra, zrn, zrc⟩)).trans (hb8.mono (by have := HV7.out.size; simp; omega))); clear hb8))
    go_ret
    exact ⟨by simp, HV8.out⟩
  | true =>
    have HTP := Lib.hid (take_putT HOK.out)
    have HFT := Lib.hid (fit_of_ok HOK.out)
    have HPL : Hid ((frameE 4 (putTar t)).length ≤ 1000000) := by have := frame_len (kd := 4) (c := putTar t) (by have := putTar_len HFT.out; omega); have := putTar_len HFT.out; show _ ≤ _; omega
    have HPB : Hid (Byt (frameE 4 (putTar t))) := frame_byt (by omega) (putTar_byt HFT.out) (by have := putTar_len HFT.out; omega)
    obtain ⟨F, hF⟩ : ∃ F, frameE 4 (putTar t) = F := ⟨_, rfl⟩
    rw [hF] at HTP HPL HPB
    have HF := Lib.hid hF
    clear hF
    go_upto_region 12 with (first
      | (go_at_call 29; go_loud (refine (pput_any t ⟨ba, bn, bc⟩ ⟨sa, sn, sc⟩ ⟨ra, rn, rc⟩ w2 HM.out (HH.out.below HB2.out)).mono ?_); rintro e w3 ⟨hb3, -, he⟩; obtain ⟨v3, rfl, ho3⟩ := he HOK.out; rw [HF.out] at ho3; obtain ⟨a3, c3', rfl, hsl3, -⟩ := ho3.slice; have HS3 := Lib.hid hsl3; have HB3 := Lib.hid (HB2.out.trans (hb3.mono HB2.out.size)); have HX3 := Lib.hid (HX2.out.below hb3); obtain ⟨-, c0, c1, c2, c3, c4, c5, c6, c7, c8⟩ := TarBox.cells HX3.out; clear hb3 he ho3 hsl3)
      | (go_at_call 30; go_loud (refine (rtarR_any t ⟨ba, bn, bc⟩ ⟨sa, sn, sc⟩ ⟨ra, rn, rc⟩ w3 HM.out (HH.out.below HB3.out)).mono ?_); rintro e w4 ⟨rfl, hb4⟩; rw [HOK.out]; have HB4 := Lib.hid (HB3.out.trans (hb4.mono HB3.out.size)); have HX4 := Lib.hid (HX3.out.below hb4); have HS4 := Lib.hid (HS3.out.below hb4); clear hb4)
      | (go_at_call 31; go_loud (refine (ptake_any a3 _ c3' F w4 HS4.out HPB.out HPL.out).mono ?_); rintro e w5 ⟨xb, xs, xr, rfl, hn5, hb5⟩; obtain ⟨xba, xbn, xbc⟩ := xb; obtain ⟨xsa, xsn, xsc⟩ := xs; obtain ⟨xra, xrn, xrc⟩ := xr; rw [HTP.out] at hn5 ⊢; have HN5 := Lib.hid hn5; have HB5 := Lib.hid (HB4.out.trans (hb5.mono HB4.out.size)); have HX5 : Hid (TarBox 61 (w5.alloc (tbox t ⟨xba, xbn, xbc⟩ ⟨xsa, xsn, xsc⟩ ⟨xra, xrn, xrc⟩)) w.heap.size t ⟨ba, bn, bc⟩ ⟨sa, sn, sc⟩ ⟨ra, rn, rc⟩) := box_alloc (HX4.out.below hb5); have HS5 := Lib.hid ((HS4.out.below hb5).below ((Below.refl _ _).alloc (Nat.le_refl _) (tbox t ⟨xba, xbn, xbc⟩ ⟨xsa, xsn, xsc⟩ ⟨xra, xrn, xrc⟩))); obtain ⟨-, c0, c1, c2, c3, c4, c5, c6, c7, c8⟩ := TarBox.cells HX5.out; unfold Tar.val; clear hn5 hb5)
      | (go_at_call 32; go_loud (refine (rput_tar t ⟨ba, bn, bc⟩ ⟨sa, sn, sc⟩ ⟨ra, rn, rc⟩ (w5.alloc (tbox t ⟨xba, xbn, xbc⟩ ⟨xsa, xsn, xsc⟩ ⟨xra, xrn, xrc⟩)) (HH.out.below (HB5.out.alloc HB5.out.size _)) HOK.out).mono ?_); rintro e w6 ⟨hb6, v6, rfl, ho6⟩; rw [HF.out] at ho6; obtain ⟨a6, c6', rfl, hsl6, -⟩ := ho6.slice; have HS6 := Lib.hid hsl6; have HB6 : Hid (Below w.heap.size w w6) := (HB5.out.alloc HB5.out.size _).trans (hb6.mono (by have := HB5.out.size; simp; omega)); have HX6 := Lib.hid (HX5.out.below hb6); have HS36 := Lib.hid (HS5.out.below hb6); have HY6 : Hid (TarBox 61 w6 w5.heap.size t ⟨xba, xbn, xbc⟩ ⟨xsa, xsn, xsc⟩ ⟨xra, xrn, xrc⟩) := box_below (box_new w5 (tbox t ⟨xba, xbn, xbc⟩ ⟨xsa, xsn, xsc⟩ ⟨xra, xrn, xrc⟩)) hb6; have HN6 := Lib.hid ((HN5.out.below ((Below.refl _ _).alloc (Nat.le_refl _) (tbox t ⟨xba, xbn, xbc⟩ ⟨xsa, xsn, xsc⟩ ⟨xra, xrn, xrc⟩))).below hb6); clear hb6 ho6 hsl6)
      | (go_at_call 22; go_loud (refine (bsame_any a3 _ c3' F a6 _ c6' F w6 HS36.out HS6.out).mono ?_); rintro e w7 ⟨rfl, hb7⟩; have HB7 := Lib.hid (HB6.out.trans (hb7.mono HB6.out.size)); have HX7 := Lib.hid (HX6.out.below hb7); have HY7 := Lib.hid (HY6.out.below hb7); have HN7 := Lib.hid (HN6.out.below hb7); obtain ⟨-, c0, c1, c2, c3, c4, c5, c6, c7, c8⟩ := TarBox.cells HX7.out; obtain ⟨-, d0, d1, d2, d3, d4, d5, d6, d7, d8⟩ := TarBox.cells HY7.out; clear hb7)
      | (go_at_call 33; go_loud (refine (tsame_eq t ⟨ba, bn, bc⟩ ⟨sa, sn, sc⟩ ⟨ra, rn, rc⟩ ⟨xba, xbn, xbc⟩ ⟨xsa, xsn, xsc⟩ ⟨xra, xrn, xrc⟩ w7 HM.out (HH.out.below HB7.out) HN7.out).mono ?_); rintro e w8 ⟨rfl, hb8⟩; have HB8 := Lib.hid (HB7.out.trans (hb8.mono HB7.out.size)); clear hb8))
    have HBV := Lib.hid HB8.out
    obtain ⟨v, hv⟩ : ∃ v, w8 = v := ⟨_, rfl⟩
    rw [hv] at HBV ⊢
    clear hv HB4 HB3 HX3 HB5 HX5 HB6 HX6 HB7 HX7 HY6 HY7 HN5 HN6 HN7 HS3 HS4 HS5 HS6 HS36 c0 c1 c2 c3 c4 c5 c6 c7 c8 d0 d1 d2 d3 d4 d5 d6 d7 d8
    go_wp2_with (first
      | (go_at_call 31; go_loud (refine (ptake_any a m cap b v (HSB.out.below HBV.out) HBB.out hm6).mono ?_); rintro e u6 ⟨yb, ys, yr, rfl, hn6, hb6⟩; obtain ⟨yba, ybn, ybc⟩ := yb; obtain ⟨ysa, ysn, ysc⟩ := ys; obtain ⟨yra, yrn, yrc⟩ := yr; rw [HT.out] at hn6 ⊢; have HU6 := Lib.hid hn6; have HV6 := Lib.hid (HBV.out.trans (hb6.mono HBV.out.size)); unfold Tar.val; clear hn6 hb6)
      | (go_at_call 34; go_loud (refine (rtaket_any a m cap b (u6.alloc (tbox tn ⟨yba, ybn, ybc⟩ ⟨ysa, ysn, ysc⟩ ⟨yra, yrn, yrc⟩)) (HSB.out.below (HV6.out.alloc HV6.out.size _)) HBB.out hm6).mono ?_); rintro e u7 ⟨zb, zs, zr, rfl, hn7, hb7⟩; obtain ⟨zba, zbn, zbc⟩ := zb; obtain ⟨zsa, zsn, zsc⟩ := zs; obtain ⟨zra, zrn, zrc⟩ := zr; rw [HT.out] at hn7 ⊢; have HU7 := Lib.hid hn7; have HV7 : Hid (Below w.heap.size w u7) := (HV6.out.alloc HV6.out.size _).trans (hb7.mono (by have := HV6.out.size; simp; omega)); have HXT : Hid (TarBox 61 u7 u6.heap.size tn ⟨yba, ybn, ybc⟩ ⟨ysa, ysn, ysc⟩ ⟨yra, yrn, yrc⟩) := box_below (box_new u6 (tbox tn ⟨yba, ybn, ybc⟩ ⟨ysa, ysn, ysc⟩ ⟨yra, yrn, yrc⟩)) hb7; have HU67 := Lib.hid ((HU6.out.below ((Below.refl _ _).alloc (Nat.le_refl _) (tbox tn ⟨yba, ybn, ybc⟩ ⟨ysa, ysn, ysc⟩ ⟨yra, yrn, yrc⟩))).below hb7); obtain ⟨hl7x, k0, k1, k2, k3, k4, k5, k6, k7, k8⟩ := TarBox.cells HXT.out; unfold Tar.val; clear hn7 hb7)
      | (go_at_call 33; go_loud (refine (tsame_eq tn ⟨yba, ybn, ybc⟩ ⟨ysa, ysn, ysc⟩ ⟨yra, yrn, yrc⟩ ⟨zba, zbn, zbc⟩ ⟨zsa, zsn, zsc⟩ ⟨zra, zrn, zrc⟩ _ (tsz HU67.out HTS.out) (HU67.out.below ((Below.refl _ _).alloc (Nat.le_refl _) _)) (HU7.out.below ((Below.refl _ _).alloc (Nat.le_refl _) _))).mono ?_); rintro e u8 ⟨rfl, hb8⟩; have HV8 := Lib.hid ((HV7.out.alloc HV7.out.size (tbox tn ⟨zba, zbn, zbc⟩ ⟨zsa, zsn, zsc⟩ ⟨zra, zrn, zrc⟩)).trans (hb8.mono (by have := HV7.out.size; simp; omega))); clear hb8))
    go_ret
    exact ⟨by simp, HV8.out⟩
end Go.Proofs.Ytbdkhgenkekioaa.Pb

namespace Go.Proofs.Ytbdkhgenkekioaa.lawPriceBytes
open Go.ChangeShapes Go.WideShapes Go.ChangeAt Go.RowKit Go.V Go.Proofs.Ytbdkhgenkekioaa.Ne

theorem own : ownKnob Try.prog.godebug = none := by kernel_rfl
theorem laidOut : laidOutB Try.prog = true := by kernel_rfl

theorem byte_opened {H : Type} {enc : TypeId × Value → H} {w : World} {b0 : Nat} {spare : Nat → Bool} {held : Bool} (n : Nat) (cs : List Value) (y : DataW H × List MemPlace) (h : DataW.trod enc Try.prog w b0 spare held n 5 cs = some y) : ∃ x, cs = Wi.bcod.enc x ∧ (Lit.int .u8 x).wf = true := by
  obtain ⟨n0, e0, -, w0⟩ := DataW.trod_int Try.underlying5 h
  exact ⟨n0, e0, w0⟩
theorem byte_wf {x : Int} (h : (Lit.int .u8 x).wf = true) : 0 ≤ x ∧ x < 256 := by
  simp [Lit.wf, IntKind.min, IntKind.max, IntKind.signed, IntKind.bits] at h
  omega

set_option maxRecDepth 100000 in
theorem lifted (os : Os) (started : os.Started) (H : Type) (enc : TypeId × Value → H) :
    ReturnsInHanded {} Try.checked os 6 .any (Rows.priceBytesSpec.pre6 enc Try.prog Try.f6 Rows.priceBytesRow.domain false) (Rows.priceBytesSpec.post enc Try.prog Try.f6 false true false false) := by
  refine returnsInHanded_of_change (C := Try.checked) own started (by kernel_rfl) Try.func6
    (ChangeSpec.witness6 (enc := enc) (C := Try.checked) false ⟨#[], #[.agg #[.int .i64 0, .slice none 0 0, .int .i64 0, .int .i64 0, .slice none 0 0, .int .i64 0, .int .i64 0, .int .i64 0, .slice none 0 0], .slice none 0 0], []⟩ 8 (by kernel_rfl) (by kernel_rfl) (by kernel_rfl) (by kernel_rfl)) ?_
  intro W base args ds gs before hval0 hW hcnd _
  have hval : ∀ (j : Nat) t v, Try.f6.params[j]? = some t → args[j]? = some v → Value.okWide Try.prog W .any base t v := hval0
  have hW' := hW
  obtain ⟨p, q, hA0, hV, rfl, hfz, hnd⟩ := hW
  have hA : DataW.TrodAll enc Try.prog W 0 (fun _ => true) true Try.f6.params.toList args.toList ds p := hA0
  rw [Try.params6] at hA hval
  obtain ⟨v0, vs0, d0, ds0, p0, q0, hargs, rfl, rfl, h0, r0⟩ := trodAll_cons hA
  obtain ⟨v1, vs1, d1, ds1, p1, q1, rfl, rfl, rfl, h1, r1⟩ := trodAll_cons r0
  obtain ⟨rfl, rfl, rfl⟩ := trodAll_nil r1
  obtain rfl : args = #[v0, v1] := by cases args; simp_all
  obtain ⟨rfl, rfl⟩ := trodVars_none hV
  have k0 := h0
  have lt0 : ∀ x ∈ p0, x.block < W.heap.size := by obtain ⟨m, hm⟩ := k0; exact DataW.trod_lt m _ _ _ hm
  have k1 := h1
  have lt1 : ∀ x ∈ p1, x.block < W.heap.size := by obtain ⟨m, hm⟩ := k1; exact DataW.trod_lt m _ _ _ hm
  obtain ⟨tt, hb, hs, hr, rfl, htt⟩ := open_tar (hval 0 61 v0 rfl rfl) h0
  obtain ⟨ya1, yn1, yc1, ys1, rfl, hys1, hyb1⟩ := open_sl (c := Wi.bcod) (ok := fun x => (Lit.int .u8 x).wf = true) Try.underlying47 (by kernel_rfl) (fun n cs y => byte_opened n cs y) (hval 1 47 v1 rfl rfl) h1
  clear hA0 hval0
  refine (Pb.pbytes_any tt hb hs hr ya1 yn1 yc1 ys1 W htt hys1 (fun x hx => byte_wf (hyb1 x hx))).mono fun e W' ⟨he, bel⟩ => ?_
  subst he
  exact ⟨_, rfl, _, _, _, [], _, [], hW', trodAll_mk1 (shut_bool Try.underlying4 _), (trodAll_cons_mk (Below.trod laidOut (by kernel_rfl) (of_decide_eq_true (by kernel_rfl)) k0 bel lt0) (trodAll_cons_mk (Below.trod laidOut (by kernel_rfl) (of_decide_eq_true (by kernel_rfl)) k1 bel lt1) trodAll_mk0)), rfl, bel.frame _, fun h => by cases h⟩

theorem over : Rows.priceBytesRow.holds Try.pinned (OpenSpec.ofChange Rows.priceBytesSpec) :=
  OpenClaim.holds_of_wide 6 Try.f6 rfl rfl rfl rfl rfl rfl rfl ⟨rfl, rfl, rfl, rfl, rfl⟩ rfl rfl rfl rfl rfl (by kernel_rfl) Try.func6 (by kernel_rfl)
    (of_decide_eq_true (by kernel_rfl)) (by unfold Func.isWrapper; first | (rw [if_pos (by decide +kernel)]; kernel_rfl) | (rw [if_neg (by decide +kernel)]; exact ⟨rfl, rfl⟩))
    (fun os started H enc _ => lifted os started H enc)

theorem proved : Rows.PriceBytesSaid := over
#print axioms proved
end Go.Proofs.Ytbdkhgenkekioaa.lawPriceBytes
