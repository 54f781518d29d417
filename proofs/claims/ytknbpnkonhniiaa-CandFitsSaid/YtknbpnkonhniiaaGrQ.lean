/- Grids: Near: walked. -/
import Derived.Test.YtknbpnkonhniiaaGrP
import Derived.Test.YtknbpnkonhniiaaGrO
namespace Go.Proofs.Ytknbpnkonhniiaa.Ne
open Go.RowKit Go.V Go.Proofs

set_option maxHeartbeats 1000000 in
theorem grnear_nil (x y reach most : Int) (w : World) :
    Calls Try.prog 28 #[.pointer none, .int .i64 x, .int .i64 y, .int .i64 reach, .int .i64 most] w fun e w' => e = .returned (.tuple #[.slice none 0 0, .int .i64 1]) ∧ Below w.heap.size w w' := by
  go_enter Try.func28, Try.ntmps28
  go_wp2_with (go_at_call 37; refine (grisn_any _).mono ?_; rintro e w1 ⟨rfl, rfl⟩)
  go_ret2
  exact ⟨rfl, Below.refl _ _⟩
def nearB (x y reach most : Int) : Bool := mayB x y && decide (0 ≤ reach ∧ reach ≤ 1048576 ∧ 0 ≤ most)
set_option maxHeartbeats 1000000 in
theorem grnear_bad (g : Nat) (hs : Hdr) (z : Int) (b : Nat) (x y reach most : Int) (w : World) (h : GBox w g hs z b) (hb : nearB x y reach most = false) :
    Calls Try.prog 28 #[gP g, .int .i64 x, .int .i64 y, .int .i64 reach, .int .i64 most] w fun e w' => e = .returned (.tuple #[.slice none 0 0, .int .i64 2]) ∧ Below w.heap.size w w' := by
  have HI := Lib.hid (gris_any g hs z b w h)
  obtain ⟨bb, hbb⟩ : ∃ bb, mayB x y = bb := ⟨_, rfl⟩
  have HBB := Lib.hid hbb
  unfold nearB at hb
  rw [hbb] at hb
  clear hbb
  cases bb with
  | false =>
    clear hb
    go_enter Try.func28, Try.ntmps28
    go_wp2_with (first
      | (go_at_call 37; refine HI.out.mono ?_; rintro e w1 ⟨rfl, rfl⟩)
      | (go_at_call 25; refine (may_any x y _).mono ?_; rintro e w2 ⟨rfl, rfl⟩; rw [HBB.out]))
    go_ret2
    exact ⟨rfl, Below.refl _ _⟩
  | true =>
    have hn : ¬ (0 ≤ reach ∧ reach ≤ 1048576 ∧ 0 ≤ most) := by simpa using hb
    clear hb
    by_cases h1 : reach < 0
    · clear hn
      go_enter Try.func28, Try.ntmps28
      go_wp2_with (first
        | (go_at_call 37; refine HI.out.mono ?_; rintro e w1 ⟨rfl, rfl⟩)
        | (go_at_call 25; refine (may_any x y _).mono ?_; rintro e w2 ⟨rfl, rfl⟩; rw [HBB.out]))
      go_ret2
      exact ⟨rfl, Below.refl _ _⟩
    · by_cases h2 : 1048576 < reach
      · clear hn
        go_enter Try.func28, Try.ntmps28
        go_wp2_with (first
          | (go_at_call 37; refine HI.out.mono ?_; rintro e w1 ⟨rfl, rfl⟩)
          | (go_at_call 25; refine (may_any x y _).mono ?_; rintro e w2 ⟨rfl, rfl⟩; rw [HBB.out]))
        go_ret2
        exact ⟨rfl, Below.refl _ _⟩
      · have h3 : most < 0 := by omega
        clear hn
        go_enter Try.func28, Try.ntmps28
        go_wp2_with (first
          | (go_at_call 37; refine HI.out.mono ?_; rintro e w1 ⟨rfl, rfl⟩)
          | (go_at_call 25; refine (may_any x y _).mono ?_; rintro e w2 ⟨rfl, rfl⟩; rw [HBB.out]))
        go_ret2
        exact ⟨rfl, Below.refl _ _⟩
theorem own_upto {w : World} {B : Nat} {a : Option Addr} {n cap q : Nat} {xs : List Fnd} (h : V.Own 84 Fnd.cod B w (.slice a n cap) xs) (hn : n = xs.length) (W : World) : (Instr.slice 80 (.slice a n cap) none (some (.int .i64 (min (q : Int) (n : Int)))) none).run Try.prog W = .ok (.slice a (min q n) cap) W := by
  rw [show min (q : Int) (n : Int) = ((min q n : Nat) : Int) from by omega]
  obtain ⟨q, hqq⟩ : ∃ q', min q n = q' := ⟨_, rfl⟩
  rw [hqq]
  have hq : q ≤ n := by omega
  clear hqq
  obtain ⟨a', c', e', hs, hd⟩ := h.slice
  cases e'
  have hc := hs.hcap
  rw [run_slice_h W 80 a xs.length cap (by kernel_rfl) .i64 (q : Int) (by omega) (by omega)]
  have e : (sizeOf (Try.prog.elem 80)).run Try.prog W = .ok 2 W := by kernel_rfl
  rw [e]
  show Result.ok (sliced a 0 (q : Int).toNat cap 2) W = _
  unfold sliced
  have hm : a.map (·.add (0 * 2)) = a := by
    cases a with
    | none => rfl
    | some d =>
      obtain ⟨g, cur, rfl, -⟩ := hd d rfl
      show some ((⟨g, 0, none⟩ : Addr).add (0 * 2)) = some _
      rw [Nat.zero_mul, add_addr]
  rw [Int.toNat_natCast, hm, ite_self]; rfl

theorem good_len {p : Stp} {S : List Stp} {m : Int} {L : List Fnd} (h : GoodL p S m L) : L.length ≤ S.length := by
  have hp : L.Perm (nearF p S m) := (List.perm_ext_iff_of_nodup h.1 (near_good p S m).1).2 fun f => by rw [h.2 f, (near_good p S m).2 f]
  rw [hp.length_eq]
  exact near_len p S m
set_option maxHeartbeats 4000000 in
set_option maxRecDepth 100000 in
theorem grnear_any (g : Nat) (hs : Hdr) (z : Int) (b : Nat) (S : List Stp) (p : Stp) (reach most : Int) (w : World)
    (hn : S.length ≤ 200) (hz : 1 ≤ z ∧ z ≤ 67108864) (hr : nearB p.x p.y reach most = true) (hS : ∀ s ∈ S, stpB s = true)
    (h : GBox w g hs z b) (hsl : Sl Stp.cod w hs.a hs.n hs.cap S) (hm : GMap w b (idxs S z)) :
    Calls Try.prog 28 #[gP g, .int .i64 p.x, .int .i64 p.y, .int .i64 reach, .int .i64 most] w fun e w' => ∃ v, e = .returned (.tuple #[v, .int .i64 0]) ∧ V.Own 3 icod w.heap.size w' v (nearL p S (reach * reach) most.toNat) ∧ Below w.heap.size w w' := by
  have HI := Lib.hid (gris_any g hs z b w h)
  unfold nearB at hr
  rw [Bool.and_eq_true] at hr
  obtain ⟨hp, hr⟩ := hr
  have hr := of_decide_eq_true hr
  have HP := Lib.hid hp
  obtain ⟨r1, r2, r3⟩ := hr
  obtain ⟨M, hM⟩ : ∃ M, reach * reach = M := ⟨_, rfl⟩
  have HM := Lib.hid hM
  rw [hM]
  have HAR := Lib.hid (garound_any g hs z b S p reach w hn hz ⟨r1, r2⟩ hp hS h hsl hm)
  rw [hM] at HAR
  clear hM hp h hsl hm
  obtain ⟨mk, hmk⟩ : ∃ mk : Nat, most = mk := ⟨most.toNat, by omega⟩
  subst hmk
  rw [Int.toNat_natCast]
  go_enter Try.func28, Try.ntmps28
  go_upto_block 0 with (first
    | (go_at_call 37; refine HI.out.mono ?_; rintro e w1 ⟨rfl, rfl⟩)
    | (go_at_call 25; refine (may_any p.x p.y _).mono ?_; rintro e w2 ⟨rfl, rfl⟩; rw [HP.out])
    | (go_at_call 38; refine HAR.out.mono ?_; rintro e w3 ⟨v, L, rfl, hg, ho, hb⟩; obtain ⟨fa, fc, rfl, -, -⟩ := ho.slice; have HG3 := Lib.hid hg; have HO3 := Lib.hid ho; have HB3 := Lib.hid hb; have HL3 := Lib.hid (good_len hg); have hsc := own_upto ho (q := mk) rfl; clear hg ho hb)
    | (go_at_call 39; go_fit (fsort_any w.heap.size fa L.length fc L _ HO3.out rfl (by have := HL3.out; omega) HB3.out.size); rintro e w4 ⟨rfl, T, hp4, ho4, hw4, hb4⟩; have HP4 := Lib.hid hp4; have HT4 := Lib.hid ho4; have HO4 := Lib.hid hw4; have HB4 := Lib.hid hb4; clear hp4 ho4 hw4 hb4))
  have HT : Hid (T = nearF p S M) := sorted_is HG3.out HP4.out HT4.out
  obtain ⟨ln, hln⟩ : ∃ ln, L.length = ln := ⟨_, rfl⟩
  have HLN : Hid (ln = (nearF p S M).length) := by show _ = _; rw [← hln, ← HT.out, HP4.out.length_eq]
  rw [hln] at HO4 HL3 ⊢
  have hk200 : min mk ln ≤ 200 := by have := HL3.out; omega
  obtain ⟨kk, hkk⟩ : ∃ kk, min mk ln = kk := ⟨_, rfl⟩
  rw [hkk] at hk200 ⊢
  have HKK := Lib.hid hkk
  have HSL : Hid (Sl Fnd.cod w4 fa kk fc ((nearF p S M).take kk)) := by
    have o := HO4.out
    rw [HT.out] at o
    obtain ⟨a', c', e', s', -⟩ := o.slice
    rw [HLN.out] at e'
    cases e'
    exact s'.upto (by rw [← HLN.out]; omega)
  have HB4' : Hid (Below w.heap.size w w4) := HB3.out.trans HB4.out
  have HNL : Hid (nearL p S M mk = ((nearF p S M).take kk).map Fnd.stop) := by
    show _ = _
    unfold nearL
    rw [← HKK.out, HLN.out]
    by_cases q : mk ≤ (nearF p S M).length
    · rw [Nat.min_eq_left q]
    · rw [Nat.min_eq_right (by omega), List.take_of_length_le (by omega), List.take_of_length_le (Nat.le_refl _)]
  clear hln hkk hsc
  go_wp2_with fail
  go_loopw [13, 50] (fun v i wr => ∃ (j : Nat), j ≤ kk ∧ i = .int .i64 j ∧ Hid (V.Own 3 icod w4.heap.size wr v ((((nearF p S M).take kk).take j).map Fnd.stop)) ∧ Hid (Below w4.heap.size w4 wr)) (fun _ i _ => kk - (intOf i).toNat)
  case atStart => exact ⟨0, by omega, rfl, World.ownsRow_nil _ _ _ _, Below.refl _ _⟩
  case round =>
    obtain ⟨j, hj, rfl, ho, hb⟩ := hrel
    by_cases hlt : j < kk
    · have hltz : (j : Int) < kk := by omega
      obtain ⟨fb, fo, r, hfa, hfb, hfr, c0, c1⟩ := fnd_at (HSL.out.below hb.out) hlt
      have HFA := Lib.hid hfa
      rw [hfa]
      have hsz : w4.heap.size ≤ wr.heap.size := hb.out.size
      have HSN : Hid ((((nearF p S M).take kk).take (j + 1)).map Fnd.stop = (((nearF p S M).take kk).take j).map Fnd.stop ++ [r.stop]) := by show _ = _; rw [take_at hfr, List.map_append]; rfl
      have hlen : ((((nearF p S M).take kk).take j).map Fnd.stop).length ≤ 200 := by rw [List.length_map, List.length_take]; omega
      have HM1 : Hid (((((nearF p S M).take kk).take j).map Fnd.stop).length + 1 ≤ maxLen) := by show _ ≤ _; unfold maxLen; omega
      have HM2 : Hid ((((((nearF p S M).take kk).take j).map Fnd.stop).length + 1) * 8 ≤ 140737488355328) := by show _ ≤ _; omega
      have HSW : Hid (Sl icod ((wr.alloc (.cells #[.int .i64 r.stop, .int .i64 r.sq] 84)).alloc (.cells #[.int .i64 r.stop] 3)) (some ⟨wr.heap.size + 1, 0, none⟩) 1 1 [r.stop]) := by
        have q := sl_new (c := icod) (wr.alloc (.cells #[.int .i64 r.stop, .int .i64 r.sq] 84)) #[.int .i64 r.stop] 3 [r.stop] 1 rfl (by unfold maxLen; omega) rfl
        rw [World.size_alloc] at q
        exact q
      clear hfa hfr hlen
      go_wp2_with (at_builtin; go_loud (refine wpList_app Ir.eltI rfl (.tmp 54) (.tmp 57) rfl (base := w4.heap.size) _ _ rfl ((ho.out.alloc _).alloc _) _ 1 1 [r.stop] rfl HSW.out HM1.out HM2.out (by simp; omega) ?_); intro v5 w5 ho5 hg5; have HO5 := Lib.hid ho5; have HG5 := Lib.hid hg5; clear ho5 hg5)
      go_roundw
      case rel =>
        refine ⟨j + 1, by omega, by go_num, ?_, ?_⟩
        · show V.Own _ _ _ _ _ _
          rw [HSN.out]; exact HO5.out
        · exact ((hb.out.alloc hsz _).alloc (by simp; omega) _).trans (Ir.own_below ((ho.out.alloc _).alloc _) HG5.out (by simp; omega))
      case measure => simp [intOf]; omega
    · have hjk : j = kk := by omega
      have HJ : Hid (((nearF p S M).take kk).take j = (nearF p S M).take kk) := by show _ = _; rw [hjk, List.take_take, Nat.min_self]
      clear hjk
      go_wp2_with fail
      go_ret2
      refine ⟨_, rfl, ?_, HB4'.out.trans (hb.out.mono HB4'.out.size)⟩
      have o := ho.out
      rw [HJ.out, ← HNL.out] at o
      exact o.lower HB4'.out.size
end Go.Proofs.Ytknbpnkonhniiaa.Ne
