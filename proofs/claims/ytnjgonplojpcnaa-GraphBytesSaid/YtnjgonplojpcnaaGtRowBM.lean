/- Networks as bytes, and bytes as networks: the law walked. -/
/- GraphBytes answers true, whatever comes in, and what came in reads as it did; no condition. -/
import Derived.Test.YtnjgonplojpcnaaGtC
import Derived.Test.YtnjgonplojpcnaaWiK
import Derived.Test.YtnjgonplojpcnaaWiL
import Derived.Test.YtnjgonplojpcnaaWiV
import Derived.Test.YtnjgonplojpcnaaNuV
import Derived.Test.YtnjgonplojpcnaaRows
import Derived.Test.YtnjgonplojpcnaaNeN
namespace Go.Proofs.Ytnjgonplojpcnaa.Gt
open Go.RowKit Go.V Go.Proofs Go.Sort Go.Proofs.Ytnjgonplojpcnaa.Wi
open Go.Proofs.Ytnjgonplojpcnaa.Ne (box_alloc box_new box_cell box_below box_lt box2_cells box3_cells Stp Net NetIn lcod checkE check_any rcheck_any rdNet gput_any rnetput_any nsame_any few_any awake15_any putNet)

set_option maxHeartbeats 8000000 in
set_option maxRecDepth 100000 in
theorem gbytes_any (n : Net) (hs hl : Hdr) (a : Option Addr) (m cap : Nat) (b : List Int) (w : World) (h : NetIn w n hs hl) (hb : Sl bcod w a m cap b) (hB : Byt b) :
    Calls Try.prog 4 #[n.val hs hl, .slice a m cap] w fun e w' => e = .returned (.bool true) ∧ Below w.heap.size w w' := by
  obtain ⟨sa, k, sc⟩ := hs
  obtain ⟨la, l, lc⟩ := hl
  have HH := Lib.hid h
  have HSB := Lib.hid hb
  have HBB := Lib.hid hB
  have HX0 := Lib.hid (box_new w (n.box ⟨sa, k, sc⟩ ⟨la, l, lc⟩))
  have HB0 : Hid (Below w.heap.size w (w.alloc (n.box ⟨sa, k, sc⟩ ⟨la, l, lc⟩))) := (Below.refl _ _).alloc (Nat.le_refl _) _
  obtain ⟨c0, c1, c2, -, -, -⟩ := box3_cells HX0.out
  clear h hb hB
  go_enter Try.func4, Try.ntmps4
  go_upto_region 3 with (go_at_call 17; refine (awake15_any _).mono ?_; rintro e w1 ⟨rfl, hb1⟩; have HB1 := Lib.hid (HB0.out.trans (hb1.mono HB0.out.size)); have HX1 := Lib.hid (box_below HX0.out hb1); clear hb1)
  clear c0 c1 c2 HX0 HB0
  obtain ⟨c0, c1, c2, -, -, -⟩ := box3_cells HX1.out
  obtain ⟨fb, hfb⟩ : ∃ fb, decide (k ≤ 60 ∧ l ≤ 120) = fb := ⟨_, rfl⟩
  have HFB := Lib.hid hfb
  clear hfb
  cases fb with
  | false =>
    go_wp2_with (go_at_call 18; refine (few_any n ⟨sa, k, sc⟩ ⟨la, l, lc⟩ _).mono ?_; rintro e w2 ⟨rfl, hb2⟩; rw [HFB.out]; have HB2 := Lib.hid (HB1.out.trans (hb2.mono HB1.out.size)); clear hb2)
    go_ret
    exact ⟨rfl, HB2.out⟩
  | true =>
  obtain ⟨k60, l120⟩ := of_decide_eq_true HFB.out
  by_cases hm : (2000 : Int) < (m : Int)
  · have hd : decide ((2000 : Int) < (m : Int)) = true := decide_eq_true hm
    go_wp2_with (go_at_call 18; refine (few_any n ⟨sa, k, sc⟩ ⟨la, l, lc⟩ _).mono ?_; rintro e w2 ⟨rfl, hb2⟩; rw [HFB.out]; have HB2 := Lib.hid (HB1.out.trans (hb2.mono HB1.out.size)); clear hb2)
    go_ret
    exact ⟨rfl, HB2.out⟩
  have hd : decide ((2000 : Int) < (m : Int)) = false := decide_eq_false hm
  go_upto_region 5 with (go_at_call 18; refine (few_any n ⟨sa, k, sc⟩ ⟨la, l, lc⟩ _).mono ?_; rintro e w2 ⟨rfl, hb2⟩; rw [HFB.out]; have HB2 := Lib.hid (HB1.out.trans (hb2.mono HB1.out.size)); have HX2 := Lib.hid (box_below HX1.out hb2); clear hb2)
  clear c0 c1 c2 HX1
  obtain ⟨c0, c1, c2, -, -, -⟩ := box3_cells HX2.out
  obtain ⟨ck, hck⟩ : ∃ ck, checkE n = ck := ⟨_, rfl⟩
  have HCK := Lib.hid hck
  clear hck
  have hk6 : k ≤ 1000000 := by omega
  have hl6 : l ≤ 1000000 := by omega
  have hm6 : m ≤ 1000000 := by omega
  obtain ⟨T, hT⟩ : ∃ T, takeN b = T := ⟨_, rfl⟩
  obtain ⟨tn, te⟩ := T
  have HT := Lib.hid hT
  clear hT
  by_cases hz : ck = 0
  case neg =>
    have e0 : (ck == 0) = false := by simpa using hz
    have e1 : (ck != 0) = true := by simpa using hz
    have HZ := Lib.hid hz
    clear hz
    go_wp2_with (first
      | (go_at_call 19; go_loud (refine (gput_any n ⟨sa, k, sc⟩ ⟨la, l, lc⟩ w2 k60 l120 (HH.out.below HB2.out)).mono ?_); rintro e w3 ⟨hb3, he, -⟩; have he2 := he (by rw [HCK.out]; exact HZ.out); subst he2; rw [HCK.out]; have HB3 := Lib.hid (HB2.out.trans (hb3.mono HB2.out.size)); have HX3 := Lib.hid (box_below HX2.out hb3); obtain ⟨c0, c1, c2, -, -, -⟩ := box3_cells HX3.out; clear hb3 he)
      | (go_at_call 20; go_loud (refine (rcheck_any n ⟨sa, k, sc⟩ ⟨la, l, lc⟩ w3 ⟨hk6, hl6⟩ (HH.out.below HB3.out)).mono ?_); rintro e w4 ⟨rfl, hb4⟩; rw [HCK.out]; have HB4 := Lib.hid (HB3.out.trans (hb4.mono HB3.out.size)); have HX4 := Lib.hid (box_below HX3.out hb4); obtain ⟨c0, c1, c2, -, -, -⟩ := box3_cells HX4.out; clear hb4)
      | (go_at_call 21; go_loud (refine (check_any n ⟨sa, k, sc⟩ ⟨la, l, lc⟩ w4 ⟨hk6, hl6⟩ (HH.out.below HB4.out)).mono ?_); rintro e w5 ⟨rfl, hb5⟩; rw [HCK.out]; have HB5 := Lib.hid (HB4.out.trans (hb5.mono HB4.out.size)); clear hb5)
      | (go_at_call 23; go_loud (refine (gtake_any a m cap b w5 (HSB.out.below HB5.out) HBB.out hm6).mono ?_); rintro e w6 ⟨hs6, hl6', rfl, hn6, hb6⟩; obtain ⟨s6a, s6n, s6c⟩ := hs6; obtain ⟨l6a, l6n, l6c⟩ := hl6'; rw [HT.out] at hn6 ⊢; have HN6 := Lib.hid hn6; have HB6 := Lib.hid (HB5.out.trans (hb6.mono HB5.out.size)); clear hn6 hb6)
      | (go_at_call 24; go_loud (refine (rgtake_any a m cap b (w6.alloc (tn.box ⟨s6a, s6n, s6c⟩ ⟨l6a, l6n, l6c⟩)) (HSB.out.below (HB6.out.alloc HB6.out.size _)) HBB.out hm6).mono ?_); rintro e w7 ⟨hs7, hl7, rfl, hn7, hb7⟩; obtain ⟨s7a, s7n, s7c⟩ := hs7; obtain ⟨l7a, l7n, l7c⟩ := hl7; rw [HT.out] at hn7 ⊢; have HN7 := Lib.hid hn7; have HB7 : Hid (Below w.heap.size w w7) := (HB6.out.alloc HB6.out.size _).trans (hb7.mono (by have := HB6.out.size; simp; omega)); have HX7 := Lib.hid (box_below (box_new w6 (tn.box ⟨s6a, s6n, s6c⟩ ⟨l6a, l6n, l6c⟩)) hb7); have HN67 := Lib.hid ((HN6.out.below ((Below.refl _ _).alloc (Nat.le_refl _) (tn.box ⟨s6a, s6n, s6c⟩ ⟨l6a, l6n, l6c⟩))).below hb7); obtain ⟨k0, k1, k2, -, -, -⟩ := box3_cells HX7.out; have hl7x := box_lt HX7.out; clear hn7 hb7)
      | (go_at_call 25; go_loud (refine (nsame_any tn tn ⟨s6a, s6n, s6c⟩ ⟨l6a, l6n, l6c⟩ ⟨s7a, s7n, s7c⟩ ⟨l7a, l7n, l7c⟩ _ (HN67.out.below ((Below.refl _ _).alloc (Nat.le_refl _) _)) (HN7.out.below ((Below.refl _ _).alloc (Nat.le_refl _) _))).mono ?_); rintro e w8 ⟨rfl, hb8⟩; have HB8 := Lib.hid ((HB7.out.alloc HB7.out.size (tn.box ⟨s7a, s7n, s7c⟩ ⟨l7a, l7n, l7c⟩)).trans (hb8.mono (by have := HB7.out.size; simp; omega))); clear hb8))
    go_ret
    exact ⟨by simp, HB8.out⟩
  case pos =>
    subst hz
    go_wp2_with (first
      | (go_at_call 19; go_loud (refine (gput_any n ⟨sa, k, sc⟩ ⟨la, l, lc⟩ w2 k60 l120 (HH.out.below HB2.out)).mono ?_); rintro e w3 ⟨hb3, -, he⟩; obtain ⟨v3, rfl, ho3⟩ := he HCK.out; obtain ⟨a3, c3, rfl, hsl3, -⟩ := ho3.slice; have HS3 := Lib.hid hsl3; have HB3 := Lib.hid (HB2.out.trans (hb3.mono HB2.out.size)); have HX3 := Lib.hid (box_below HX2.out hb3); obtain ⟨c0, c1, c2, -, -, -⟩ := box3_cells HX3.out; clear hb3 he ho3 hsl3)
      | (go_at_call 20; go_loud (refine (rcheck_any n ⟨sa, k, sc⟩ ⟨la, l, lc⟩ w3 ⟨hk6, hl6⟩ (HH.out.below HB3.out)).mono ?_); rintro e w4 ⟨rfl, hb4⟩; rw [HCK.out]; have HQ4 := Lib.hid hb4; have HB4 := Lib.hid (HB3.out.trans (hb4.mono HB3.out.size)); have HX4 := Lib.hid (box_below HX3.out hb4); obtain ⟨c0, c1, c2, -, -, -⟩ := box3_cells HX4.out; clear hb4)
      | (go_at_call 21; go_loud (refine (check_any n ⟨sa, k, sc⟩ ⟨la, l, lc⟩ w4 ⟨hk6, hl6⟩ (HH.out.below HB4.out)).mono ?_); rintro e w5 ⟨rfl, hb5⟩; rw [HCK.out]; have HQ5 := Lib.hid hb5; have HX5 := Lib.hid (box_below HX4.out hb5); obtain ⟨c0, c1, c2, -, -, -⟩ := box3_cells HX5.out; have HB5 := Lib.hid (HB4.out.trans (hb5.mono HB4.out.size)); clear hb5)
      | (go_at_call 22; go_loud (refine (rnetput_any n ⟨sa, k, sc⟩ ⟨la, l, lc⟩ w5 k60 l120 (HH.out.below HB5.out) HCK.out).mono ?_); rintro e u5 ⟨hb6, v6, rfl, ho6⟩; obtain ⟨a6, c6, rfl, hsl6, -⟩ := ho6.slice; have HS6 := Lib.hid hsl6; have HU5 := Lib.hid (HB5.out.trans (hb6.mono HB5.out.size)); have HS36 := Lib.hid ((((HS3.out.below HQ4.out).below HQ5.out)).below hb6); clear hb6 ho6 hsl6)
      | (go_at_call 9; go_loud (refine (bsame_any a3 _ c3 _ a6 _ c6 _ u5 HS36.out HS6.out).mono ?_); rintro e u6 ⟨rfl, hb6⟩; have HU6 := Lib.hid (HU5.out.trans (hb6.mono HU5.out.size)); clear hb6)
      | (go_at_call 23; go_loud (refine (gtake_any a m cap b u6 (HSB.out.below HU6.out) HBB.out hm6).mono ?_); rintro e w6 ⟨hs6, hl6', rfl, hn6, hb6⟩; obtain ⟨s6a, s6n, s6c⟩ := hs6; obtain ⟨l6a, l6n, l6c⟩ := hl6'; rw [HT.out] at hn6 ⊢; have HN6 := Lib.hid hn6; have HB6 := Lib.hid (HU6.out.trans (hb6.mono HU6.out.size)); clear hn6 hb6)
      | (go_at_call 24; go_loud (refine (rgtake_any a m cap b (w6.alloc (tn.box ⟨s6a, s6n, s6c⟩ ⟨l6a, l6n, l6c⟩)) (HSB.out.below (HB6.out.alloc HB6.out.size _)) HBB.out hm6).mono ?_); rintro e w7 ⟨hs7, hl7, rfl, hn7, hb7⟩; obtain ⟨s7a, s7n, s7c⟩ := hs7; obtain ⟨l7a, l7n, l7c⟩ := hl7; rw [HT.out] at hn7 ⊢; have HN7 := Lib.hid hn7; have HB7 : Hid (Below w.heap.size w w7) := (HB6.out.alloc HB6.out.size _).trans (hb7.mono (by have := HB6.out.size; simp; omega)); have HX7 := Lib.hid (box_below (box_new w6 (tn.box ⟨s6a, s6n, s6c⟩ ⟨l6a, l6n, l6c⟩)) hb7); have HN67 := Lib.hid ((HN6.out.below ((Below.refl _ _).alloc (Nat.le_refl _) (tn.box ⟨s6a, s6n, s6c⟩ ⟨l6a, l6n, l6c⟩))).below hb7); obtain ⟨k0, k1, k2, -, -, -⟩ := box3_cells HX7.out; have hl7x := box_lt HX7.out; clear hn7 hb7)
      | (go_at_call 25; go_loud (refine (nsame_any tn tn ⟨s6a, s6n, s6c⟩ ⟨l6a, l6n, l6c⟩ ⟨s7a, s7n, s7c⟩ ⟨l7a, l7n, l7c⟩ _ (HN67.out.below ((Below.refl _ _).alloc (Nat.le_refl _) _)) (HN7.out.below ((Below.refl _ _).alloc (Nat.le_refl _) _))).mono ?_); rintro e w8 ⟨rfl, hb8⟩; have HB8 := Lib.hid ((HB7.out.alloc HB7.out.size (tn.box ⟨s7a, s7n, s7c⟩ ⟨l7a, l7n, l7c⟩)).trans (hb8.mono (by have := HB7.out.size; simp; omega))); clear hb8))
    go_ret
    exact ⟨by simp, HB8.out⟩
end Go.Proofs.Ytnjgonplojpcnaa.Gt

namespace Go.Proofs.Ytnjgonplojpcnaa.lawGraphBytes
open Go.ChangeShapes Go.WideShapes Go.ChangeAt Go.RowKit Go.V Go.Proofs.Ytnjgonplojpcnaa.Ne

theorem own : ownKnob Try.prog.godebug = none := by kernel_rfl
theorem laidOut : laidOutB Try.prog = true := by kernel_rfl

theorem byte_opened {H : Type} {enc : TypeId × Value → H} {w : World} {b0 : Nat} {spare : Nat → Bool} {held : Bool} (n : Nat) (cs : List Value) (y : DataW H × List MemPlace) (h : DataW.trod enc Try.prog w b0 spare held n 5 cs = some y) : ∃ x, cs = Wi.bcod.enc x ∧ (Lit.int .u8 x).wf = true := by
  obtain ⟨n0, e0, -, w0⟩ := DataW.trod_int Try.underlying5 h
  exact ⟨n0, e0, w0⟩
theorem byte_wf {x : Int} (h : (Lit.int .u8 x).wf = true) : 0 ≤ x ∧ x < 256 := by
  simp [Lit.wf, IntKind.min, IntKind.max, IntKind.signed, IntKind.bits] at h
  omega

set_option maxRecDepth 100000 in
theorem lifted (os : Os) (started : os.Started) (H : Type) (enc : TypeId × Value → H) :
    ReturnsInHanded {} Try.checked os 4 .any (Rows.graphBytesSpec.pre6 enc Try.prog Try.f4 Rows.graphBytesRow.domain false) (Rows.graphBytesSpec.post enc Try.prog Try.f4 false true false false) := by
  refine returnsInHanded_of_change (C := Try.checked) own started (by kernel_rfl) Try.func4
    (ChangeSpec.witness6 (enc := enc) (C := Try.checked) false ⟨#[], #[.agg #[.int .i64 0, .slice none 0 0, .slice none 0 0], .slice none 0 0], []⟩ 8 (by kernel_rfl) (by kernel_rfl) (by kernel_rfl) (by kernel_rfl)) ?_
  intro W base args ds gs before hval0 hW hcnd _
  have hval : ∀ (j : Nat) t v, Try.f4.params[j]? = some t → args[j]? = some v → Value.okWide Try.prog W .any base t v := hval0
  have hW' := hW
  obtain ⟨p, q, hA0, hV, rfl, hfz, hnd⟩ := hW
  have hA : DataW.TrodAll enc Try.prog W 0 (fun _ => true) true Try.f4.params.toList args.toList ds p := hA0
  rw [Try.params4] at hA hval
  obtain ⟨v0, vs0, d0, ds0, p0, q0, hargs, rfl, rfl, h0, r0⟩ := trodAll_cons hA
  obtain ⟨v1, vs1, d1, ds1, p1, q1, rfl, rfl, rfl, h1, r1⟩ := trodAll_cons r0
  obtain ⟨rfl, rfl, rfl⟩ := trodAll_nil r1
  obtain rfl : args = #[v0, v1] := by cases args; simp_all
  obtain ⟨rfl, rfl⟩ := trodVars_none hV
  have k0 := h0
  have lt0 : ∀ x ∈ p0, x.block < W.heap.size := by obtain ⟨m, hm⟩ := k0; exact DataW.trod_lt m _ _ _ hm
  have k1 := h1
  have lt1 : ∀ x ∈ p1, x.block < W.heap.size := by obtain ⟨m, hm⟩ := k1; exact DataW.trod_lt m _ _ _ hm
  obtain ⟨nt, hs, hl, rfl, hnt, -, -, -⟩ := open_net (hval 0 46 v0 rfl rfl) h0
  obtain ⟨ya1, yn1, yc1, ys1, rfl, hys1, hyb1⟩ := open_sl (c := Wi.bcod) (ok := fun x => (Lit.int .u8 x).wf = true) Try.underlying23 (by kernel_rfl) (fun n cs y => byte_opened n cs y) (hval 1 23 v1 rfl rfl) h1
  clear hA0 hval0
  refine (Gt.gbytes_any nt hs hl ya1 yn1 yc1 ys1 W hnt hys1 (fun x hx => byte_wf (hyb1 x hx))).mono fun e W' ⟨he, bel⟩ => ?_
  subst he
  exact ⟨_, rfl, _, _, _, [], _, [], hW', trodAll_mk1 (shut_bool Try.underlying4 _), (trodAll_cons_mk (Below.trod laidOut (by kernel_rfl) (of_decide_eq_true (by kernel_rfl)) k0 bel lt0) (trodAll_cons_mk (Below.trod laidOut (by kernel_rfl) (of_decide_eq_true (by kernel_rfl)) k1 bel lt1) trodAll_mk0)), rfl, bel.frame _, fun h => by cases h⟩

theorem over : Rows.graphBytesRow.holds Try.pinned (OpenSpec.ofChange Rows.graphBytesSpec) :=
  OpenClaim.holds_of_wide 4 Try.f4 rfl rfl rfl rfl rfl rfl rfl ⟨rfl, rfl, rfl, rfl, rfl⟩ rfl rfl rfl rfl rfl (by kernel_rfl) Try.func4 (by kernel_rfl)
    (of_decide_eq_true (by kernel_rfl)) (by unfold Func.isWrapper; first | (rw [if_pos (by decide +kernel)]; kernel_rfl) | (rw [if_neg (by decide +kernel)]; exact ⟨rfl, rfl⟩))
    (fun os started H enc _ => lifted os started H enc)

theorem proved : Rows.GraphBytesSaid := over
#print axioms proved
end Go.Proofs.Ytnjgonplojpcnaa.lawGraphBytes
