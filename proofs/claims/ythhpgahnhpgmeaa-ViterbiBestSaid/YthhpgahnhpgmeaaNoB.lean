/- Costs: a step's cost, walked. -/
import Derived.Test.YthhpgahnhpgmeaaNoA
namespace Go.Proofs.Ythhpgahnhpgmeaa.Ne
open Go.RowKit Go.V Go.Proofs Go.Sort Go.Maps

/-! ### A step -/
/-- What it costs to come from a stop to another one. -/
def stepE (n : Net) (k : Nat) (x : Wgh) (a b : Int) : Int := if mayW x = true ∧ 0 ≤ tfarE n k a b then (if a = b then 0 else tfarE n k a b * x.factor + x.change) else -1
theorem tfar_in {n : Net} {k : Nat} (hok : checkE n = 0) (hk : k = n.stops.length) (a b : Int) : tfarE n k a b ≤ k * (n.links.length * 2097150) := by
  unfold tfarE
  split
  · next h =>
    have hL : LinksOk n.links k := by rw [hk]; exact (check_ok hok).2.2.2.2.1
    have hs := (bf_sound (L := n.links) (k := k) (a := a) ⟨h.1, h.2.1⟩).turns hL k
    obtain ⟨v, rfl⟩ : ∃ v : Nat, b = v := ⟨b.toNat, by omega⟩
    have h1 := bf_at (L := n.links) (k := k) (a := a) hL ⟨h.1, h.2.1⟩ (v := v) (by omega)
    rcases hs.one v _ h1 with e | ⟨-, e, -⟩
    · rw [e]
      have : 0 ≤ (k : Int) * (n.links.length * 2097150) := Int.mul_nonneg (by omega) (by omega)
      omega
    · exact e
  · have : 0 ≤ (k : Int) * (n.links.length * 2097150) := Int.mul_nonneg (by omega) (by omega)
    omega
/-- Of few stops and links. -/
theorem tfar_few {n : Net} {k : Nat} (hok : checkE n = 0) (hk : k = n.stops.length) (h60 : k ≤ 60) (h120 : n.links.length ≤ 120) (a b : Int) : tfarE n k a b ≤ 15099480000 := by
  refine Int.le_trans (tfar_in hok hk a b) ?_
  have h1 : (k : Int) * (n.links.length * 2097150) ≤ 60 * (n.links.length * 2097150) := Int.mul_le_mul_of_nonneg_right (by omega) (by omega)
  omega
theorem mul_in {f x : Int} (hf : 0 ≤ f ∧ f ≤ 15099480000) (hx : 0 ≤ x ∧ x ≤ 1024) : 0 ≤ f * x ∧ f * x ≤ 15461867520000 := by
  have h1 : 0 ≤ f * x := Int.mul_nonneg hf.1 hx.1
  have h2 : f * x ≤ f * 1024 := Int.mul_le_mul_of_nonneg_left hx.2 hf.1
  omega
theorem stepE_in {n : Net} {k : Nat} (hok : checkE n = 0) (hk : k = n.stops.length) (h60 : k ≤ 60) (h120 : n.links.length ≤ 120) (x : Wgh) (a b : Int) : -1 ≤ stepE n k x a b ∧ stepE n k x a b ≤ 15461868568576 := by
  unfold stepE
  split
  · next h =>
    split
    · omega
    · have h1 := mayW_in h.1
      have h2 := mul_in ⟨h.2, tfar_few hok hk h60 h120 a b⟩ h1.1
      omega
  · omega

set_option maxHeartbeats 4000000 in
set_option maxRecDepth 100000 in
theorem cstep_gen (w : World) (base tg mg N : Nat) (n : Net) (hs hl : Hdr) (x : Wgh) (a b : Int) (h : TabIn w base tg mg N n hs hl) (hok : checkE n = 0) (h60 : hs.n ≤ 60) (h120 : hl.n ≤ 120) (hN : N ≤ 1000000) (hne : tg ≠ mg) :
    Calls Try.prog 51 #[.pointer (some ⟨tg, 0, none⟩), x.val, .int .i64 a, .int .i64 b] w fun e w' => e = .returned (.int .i64 (stepE n hs.n x a b)) ∧ TabIn w' base tg mg (N + 1) n hs hl ∧ ChgT w w' mg := by
  obtain ⟨xr, xm, xf, xc⟩ := x
  have HT := Lib.hid h
  have HOK := Lib.hid hok
  have hkn : hs.n = n.stops.length := h.netIn.s.hlen
  have hln : hl.n = n.links.length := h.netIn.l.hlen
  have HFW := Lib.hid (tfar_few hok hkn h60 (by omega) a b)
  have HX := Lib.hid (box_new w (Wgh.mk xr xm xf xc).box)
  have hmb := h.mg_lt
  obtain ⟨W, hW⟩ : ∃ W, w.alloc (Wgh.mk xr xm xf xc).box = W := ⟨_, rfl⟩
  have HB : Hid (Below w.heap.size w W) := by rw [← hW]; exact (Below.refl _ _).alloc (Nat.le_refl _) _
  rw [hW] at HX
  have HTW := Lib.hid (h.below HB.out)
  obtain ⟨d, hd⟩ : ∃ d, tfarE n hs.n a b = d := ⟨_, rfl⟩
  have HD := Lib.hid hd
  rw [hd] at HFW
  obtain ⟨bm, hbm⟩ : ∃ bm, mayW ⟨xr, xm, xf, xc⟩ = bm := ⟨_, rfl⟩
  have HBM := Lib.hid hbm
  clear h hok hkn hln hd hbm
  go_enter Try.func51, Try.ntmps51
  go_upto_region 2 with (go_at_call 82; refine (tfar_gen _ base tg mg N n hs hl a b HTW.out HOK.out hN hne).mono ?_; rintro e w2 ⟨rfl, ht2, hc2⟩; rw [HD.out]; have HT2 := Lib.hid ht2; have HX2 := Lib.hid (hc2.chg.box HX.out (by omega) (by simp)); have HC2 : Hid (ChgT w w2 mg) := (ChgT.of_below HB.out hmb).trans hc2; have hmb2 : mg < w2.heap.size := Nat.lt_of_lt_of_le hmb HC2.out.chg.size; clear ht2 hc2)
  obtain ⟨c0, c1, c2, c3⟩ := box4_cells HX2.out
  clear HX
  cases bm with
  | false =>
    have hE : stepE n hs.n ⟨xr, xm, xf, xc⟩ a b = -1 := by unfold stepE; rw [HBM.out, if_neg (by simp)]
    have HE := Lib.hid hE
    clear hE
    go_wp2_with (go_at_call 78; refine (cmay_any ⟨xr, xm, xf, xc⟩ _).mono ?_; rintro e w3 ⟨rfl, hb3⟩; rw [HBM.out]; have HT3 := Lib.hid (HT2.out.below hb3); have HC3 := Lib.hid (HC2.out.trans (ChgT.of_below hb3 hmb2)); clear hb3)
    go_ret
    exact ⟨by rw [HE.out]; rfl, HT3.out, HC3.out⟩
  | true =>
    by_cases hdn : d < 0
    · have hE : stepE n hs.n ⟨xr, xm, xf, xc⟩ a b = -1 := by unfold stepE; rw [HD.out, if_neg (by omega)]
      have HE := Lib.hid hE
      clear hE
      go_wp2_with (go_at_call 78; refine (cmay_any ⟨xr, xm, xf, xc⟩ _).mono ?_; rintro e w3 ⟨rfl, hb3⟩; rw [HBM.out]; have HT3 := Lib.hid (HT2.out.below hb3); have HC3 := Lib.hid (HC2.out.trans (ChgT.of_below hb3 hmb2)); clear hb3)
      go_ret
      exact ⟨by rw [HE.out]; rfl, HT3.out, HC3.out⟩
    · have dd : decide (d < 0) = false := decide_eq_false hdn
      by_cases hab : a = b
      · have hE : stepE n hs.n ⟨xr, xm, xf, xc⟩ a b = 0 := by unfold stepE; rw [HD.out, HBM.out, if_pos ⟨rfl, by omega⟩, if_pos hab]
        have HE := Lib.hid hE
        clear hE
        subst hab
        go_wp2_with (go_at_call 78; refine (cmay_any ⟨xr, xm, xf, xc⟩ _).mono ?_; rintro e w3 ⟨rfl, hb3⟩; rw [HBM.out]; have HT3 := Lib.hid (HT2.out.below hb3); have HC3 := Lib.hid (HC2.out.trans (ChgT.of_below hb3 hmb2)); clear hb3)
        go_ret
        exact ⟨by rw [HE.out]; rfl, HT3.out, HC3.out⟩
      · have hE : stepE n hs.n ⟨xr, xm, xf, xc⟩ a b = d * xf + xc := by unfold stepE; rw [HD.out, HBM.out, if_pos ⟨rfl, by omega⟩, if_neg hab]
        have HE := Lib.hid hE
        have hab' : (a == b) = false := by simpa using hab
        have hm1 := mayW_in HBM.out
        have hm2 := mul_in ⟨by omega, HFW.out⟩ hm1.1
        simp only [] at hm1 hm2
        have hw1 : IntKind.i64.wrap (d * xf) = d * xf := IntWalk.i64_in _ (by omega)
        have hw2 : IntKind.i64.wrap (d * xf + xc) = d * xf + xc := IntWalk.i64_in _ (by omega)
        clear hE
        go_wp2_with (go_at_call 78; refine (cmay_any ⟨xr, xm, xf, xc⟩ _).mono ?_; rintro e w3 ⟨rfl, hb3⟩; rw [HBM.out]; have HT3 := Lib.hid (HT2.out.below hb3); have HX3 := Lib.hid (box_below HX2.out hb3); obtain ⟨e0, e1, e2, e3⟩ := box4_cells HX3.out; have HC3 := Lib.hid (HC2.out.trans (ChgT.of_below hb3 hmb2)); clear hb3)
        go_ret
        exact ⟨by rw [HE.out]; rfl, HT3.out, HC3.out⟩
theorem cstep_any (w : World) (base tg mg N : Nat) (n : Net) (hs hl : Hdr) (x : Wgh) (a b : Int) (h : TabIn w base tg mg N n hs hl) (hok : checkE n = 0) (h60 : hs.n ≤ 60) (h120 : hl.n ≤ 120) (hN : N ≤ 1000000) (hne : tg ≠ mg) :
    Calls Try.prog 51 #[.pointer (some ⟨tg, 0, none⟩), x.val, .int .i64 a, .int .i64 b] w fun e w' => e = .returned (.int .i64 (stepE n hs.n x a b)) ∧ TabIn w' base tg mg (N + 1) n hs hl ∧ Chg w w' mg none :=
  (cstep_gen w base tg mg N n hs hl x a b h hok h60 h120 hN hne).mono fun _ _ ⟨h1, h2, h3⟩ => ⟨h1, h2, h3.chg⟩

set_option maxHeartbeats 4000000 in
set_option maxRecDepth 100000 in
theorem rstep_any (n : Net) (hs hl : Hdr) (x : Wgh) (a b : Int) (w : World) (h : NetIn w n hs hl) (hok : checkE n = 0) (h60 : hs.n ≤ 60) (h120 : hl.n ≤ 120) :
    Calls Try.prog 85 #[n.val hs hl, x.val, .int .i64 a, .int .i64 b] w fun e w' => e = .returned (.int .i64 (stepE n hs.n x a b)) ∧ Below w.heap.size w w' := by
  obtain ⟨xr, xm, xf, xc⟩ := x
  have HOK := Lib.hid hok
  have hkn : hs.n = n.stops.length := h.s.hlen
  have hln : hl.n = n.links.length := h.l.hlen
  have HFW := Lib.hid (tfar_few hok hkn h60 (by omega) a b)
  have HX0 := Lib.hid (box_new w (n.box hs hl))
  have HX := Lib.hid (box_new (w.alloc (n.box hs hl)) (Wgh.mk xr xm xf xc).box)
  have HX0' := Lib.hid (box_alloc (o := (Wgh.mk xr xm xf xc).box) HX0.out)
  obtain ⟨W, hW⟩ : ∃ W, (w.alloc (n.box hs hl)).alloc (Wgh.mk xr xm xf xc).box = W := ⟨_, rfl⟩
  have HB : Hid (Below w.heap.size w W) := by rw [← hW]; exact ((Below.refl _ _).alloc (Nat.le_refl _) _).alloc (by simp) _
  have hsz : (w.alloc (n.box hs hl)).heap.size = w.heap.size + 1 := by simp
  rw [hW, hsz] at HX
  rw [hW] at HX0'
  have HH := Lib.hid (h.below HB.out)
  obtain ⟨d, hd⟩ : ∃ d, tfarE n hs.n a b = d := ⟨_, rfl⟩
  have HD := Lib.hid hd
  rw [hd] at HFW
  obtain ⟨bm, hbm⟩ : ∃ bm, mayW ⟨xr, xm, xf, xc⟩ = bm := ⟨_, rfl⟩
  have HBM := Lib.hid hbm
  obtain ⟨n0, n1, n2, -, -, -⟩ := box3_cells HX0'.out
  clear h hok hkn hln hd hbm HX0
  go_enter Try.func85, Try.ntmps85
  go_upto_region 2 with (go_at_call 102; refine (rfar_any n hs hl a b _ HH.out HOK.out h60 h120).mono ?_; rintro e w2 ⟨rfl, hb2⟩; rw [HD.out]; have HX2 := Lib.hid (box_below HX.out hb2); have HB2 := Lib.hid (HB.out.trans (hb2.mono HB.out.size)); clear hb2)
  obtain ⟨c0, c1, c2, c3⟩ := box4_cells HX2.out
  clear HX n0 n1 n2 HX0'
  cases bm with
  | false =>
    have hE : stepE n hs.n ⟨xr, xm, xf, xc⟩ a b = -1 := by unfold stepE; rw [HBM.out, if_neg (by simp)]
    have HE := Lib.hid hE
    clear hE
    go_wp2_with (go_at_call 52; refine (rcmay_any ⟨xr, xm, xf, xc⟩ _).mono ?_; rintro e w3 ⟨rfl, hb3⟩; rw [HBM.out]; have HB3 := Lib.hid (HB2.out.trans (hb3.mono HB2.out.size)); clear hb3)
    go_ret
    exact ⟨by rw [HE.out]; rfl, HB3.out⟩
  | true =>
    by_cases hdn : d < 0
    · have hE : stepE n hs.n ⟨xr, xm, xf, xc⟩ a b = -1 := by unfold stepE; rw [HD.out, if_neg (by omega)]
      have HE := Lib.hid hE
      clear hE
      go_wp2_with (go_at_call 52; refine (rcmay_any ⟨xr, xm, xf, xc⟩ _).mono ?_; rintro e w3 ⟨rfl, hb3⟩; rw [HBM.out]; have HB3 := Lib.hid (HB2.out.trans (hb3.mono HB2.out.size)); clear hb3)
      go_ret
      exact ⟨by rw [HE.out]; rfl, HB3.out⟩
    · have dd : decide (d < 0) = false := decide_eq_false hdn
      by_cases hab : a = b
      · have hE : stepE n hs.n ⟨xr, xm, xf, xc⟩ a b = 0 := by unfold stepE; rw [HD.out, HBM.out, if_pos ⟨rfl, by omega⟩, if_pos hab]
        have HE := Lib.hid hE
        clear hE
        subst hab
        go_wp2_with (go_at_call 52; refine (rcmay_any ⟨xr, xm, xf, xc⟩ _).mono ?_; rintro e w3 ⟨rfl, hb3⟩; rw [HBM.out]; have HB3 := Lib.hid (HB2.out.trans (hb3.mono HB2.out.size)); clear hb3)
        go_ret
        exact ⟨by rw [HE.out]; rfl, HB3.out⟩
      · have hE : stepE n hs.n ⟨xr, xm, xf, xc⟩ a b = d * xf + xc := by unfold stepE; rw [HD.out, HBM.out, if_pos ⟨rfl, by omega⟩, if_neg hab]
        have HE := Lib.hid hE
        have hab' : (a == b) = false := by simpa using hab
        have hm1 := mayW_in HBM.out
        have hm2 := mul_in ⟨by omega, HFW.out⟩ hm1.1
        simp only [] at hm1 hm2
        have hw1 : IntKind.i64.wrap (d * xf) = d * xf := IntWalk.i64_in _ (by omega)
        have hw2 : IntKind.i64.wrap (d * xf + xc) = d * xf + xc := IntWalk.i64_in _ (by omega)
        clear hE
        go_wp2_with (go_at_call 52; refine (rcmay_any ⟨xr, xm, xf, xc⟩ _).mono ?_; rintro e w3 ⟨rfl, hb3⟩; rw [HBM.out]; have HX3 := Lib.hid (box_below HX2.out hb3); obtain ⟨e0, e1, e2, e3⟩ := box4_cells HX3.out; have HB3 := Lib.hid (HB2.out.trans (hb3.mono HB2.out.size)); clear hb3)
        go_ret
        exact ⟨by rw [HE.out]; rfl, HB3.out⟩
end Go.Proofs.Ythhpgahnhpgmeaa.Ne
