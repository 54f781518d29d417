/- Networks: neighbours and parts: the law walked. -/
import Derived.Test.YteihffnmgacfpaaNuT
import Derived.Test.YteihffnmgacfpaaNuS
import Derived.Test.YteihffnmgacfpaaNuR
import Derived.Test.YteihffnmgacfpaaNeZ
import Derived.Test.YteihffnmgacfpaaNeE
import Derived.Test.YteihffnmgacfpaaNsC
namespace Go.Proofs.Yteihffnmgacfpaa.Ne
open Go.RowKit Go.V Go.Proofs Go.Sort

theorem nearW_snoc (L : List Lnk) (s : Int) (i : Nat) : nearW L s (i + 1) = nearW L s i ++ (if wtE L s i = 0 then [] else [⟨s, i, wtE L s i⟩]) := by
  unfold nearW
  rw [List.range_succ, List.filterMap_append]
  congr 1
  by_cases h : wtE L s i = 0
  · simp [h]
  · simp [h]
theorem nearW_at {L : List Lnk} {s : Int} {i : Nat} : ∀ k, i < k → wtE L s i ≠ 0 → (nearW L s k)[(nearW L s i).length]? = some ⟨s, i, wtE L s i⟩
  | 0, h, _ => absurd h (by omega)
  | k + 1, h, hw => by
    by_cases e : i = k
    · subst e
      rw [nearW_snoc, if_neg hw, List.getElem?_append_right (Nat.le_refl _), Nat.sub_self]; rfl
    · have := nearW_at k (by omega) hw
      rw [nearW_snoc, List.getElem?_append_left (List.getElem?_eq_some_iff.1 this).1]; exact this
theorem nearW_len {L : List Lnk} {s : Int} {i : Nat} : (nearW L s (i + 1)).length = (nearW L s i).length + (if wtE L s i = 0 then 0 else 1) := by
  rw [nearW_snoc, List.length_append]
  split <;> rfl

def exQ : Net := ⟨1, [⟨0, 0⟩, ⟨0, 0⟩, ⟨0, 0⟩], [⟨0, 2, 1⟩]⟩
theorem exQ_ok : checkE exQ = 0 := by decide
theorem exQ_parts : lst (sprdN exQ.links id 3) 3 = [0, 1, 0] := by decide +kernel

set_option maxHeartbeats 2000000 in
set_option maxRecDepth 100000 in
theorem awake15_any (w : World) : Calls Try.prog 25 #[] w fun e w' => e = .returned (.bool true) ∧ Below w.heap.size w w' := by
  have hmk : ∀ w, (Instr.makeSlice 22 (.int .i64 3) (.int .i64 3)).run Try.prog w = .ok (.slice (some ⟨w.heap.size, 0, none⟩) 3 3) (w.alloc (.cells #[.int .i64 0, .int .i64 0, .int .i64 0, .int .i64 0, .int .i64 0, .int .i64 0] 99)) := fun w => by
    have h := make_stops 3 (by omega) w
    have e : madeCells #[.int .i64 0, .int .i64 0] (3 * 2) = #[.int .i64 0, .int .i64 0, .int .i64 0, .int .i64 0, .int .i64 0, .int .i64 0] := by kernel_rfl
    rw [e] at h
    exact h
  go_enter Try.func25, Try.ntmps25
  have HN : Hid (NetIn ((w.alloc (.cells #[.int .i64 0, .int .i64 0, .int .i64 0, .int .i64 0, .int .i64 0, .int .i64 0] 99)).alloc (.cells #[.int .i64 0, .int .i64 2, .int .i64 1] 49)) exQ ⟨some ⟨w.heap.size, 0, none⟩, 3, 3⟩ ⟨some ⟨w.heap.size + 1, 0, none⟩, 1, 1⟩) :=
    ⟨(sl_new (c := Stp.cod) w _ _ exQ.stops 3 rfl (by unfold maxLen; omega) rfl).below ((Below.refl _ _).alloc (Nat.le_refl _) _), by have := sl_new (c := lcod) (w.alloc (.cells #[.int .i64 0, .int .i64 0, .int .i64 0, .int .i64 0, .int .i64 0, .int .i64 0] 99)) #[.int .i64 0, .int .i64 2, .int .i64 1] 49 exQ.links 1 rfl (by unfold maxLen; omega) rfl; simpa using this⟩
  have HB0 : Hid (Below w.heap.size w ((w.alloc (.cells #[.int .i64 0, .int .i64 0, .int .i64 0, .int .i64 0, .int .i64 0, .int .i64 0] 99)).alloc (.cells #[.int .i64 0, .int .i64 2, .int .i64 1] 49))) := ((Below.refl _ _).alloc (Nat.le_refl _) _).alloc (by simp) _
  go_wp2_with (first
    | (go_at_call 26; go_loud (refine (parts_any exQ ⟨some ⟨w.heap.size, 0, none⟩, 3, 3⟩ ⟨some ⟨w.heap.size + 1, 0, none⟩, 1, 1⟩ _ ⟨by show 3 ≤ 1000000; omega, by show 1 ≤ 1000000; omega⟩ HN.out).mono ?_); rintro e w1 ⟨hb, -, hf⟩; obtain ⟨v, rfl, ho⟩ := hf exQ_ok; obtain ⟨va, vc, hv, hsl, -⟩ := ho.slice; subst hv; rw [lst_len] at hsl ⊢; have HB1 := Lib.hid (HB0.out.trans (hb.mono HB0.out.size)); have HSL : Hid (Sl icod w1 va 3 vc [0, 1, 0]) := (by have := hsl; rw [exQ_parts] at this; exact this); clear hb hf ho hsl)
    | (go_at_call 27; go_loud (refine (isame_any va 3 vc [0, 1, 0] _ _ _ [0, 1, 0] _ (HSL.out.below ((Below.refl _ _).alloc (Nat.le_refl _) _)) (sl_new (c := icod) _ #[.int .i64 0, .int .i64 1, .int .i64 0] 3 [0, 1, 0] 3 rfl (by unfold maxLen; omega) rfl)).mono ?_); rintro e w2 ⟨rfl, hb2⟩; have HB2 := Lib.hid ((HB1.out.alloc HB1.out.size (.cells #[.int .i64 0, .int .i64 1, .int .i64 0] 3)).trans (hb2.mono (by have := HB1.out.size; simp; omega))); clear hb2))
  go_ret
  exact ⟨rfl, HB2.out⟩

set_option maxHeartbeats 8000000 in
set_option maxRecDepth 100000 in
theorem gnear_any (n : Net) (hs hl : Hdr) (s : Int) (w : World) (h : NetIn w n hs hl) :
    Calls Try.prog 4 #[n.val hs hl, .int .i64 s] w fun e w' => e = .returned (.bool true) ∧ Below w.heap.size w w' := by
  have mixed : Try.prog.follows .mixedOrders = true := by kernel_rfl
  have HKN := Lib.hid h.s.hlen
  obtain ⟨sa, k, sc⟩ := hs
  obtain ⟨la, m, lc⟩ := hl
  have HH := Lib.hid h
  have HX0 := Lib.hid (box_new w (n.box ⟨sa, k, sc⟩ ⟨la, m, lc⟩))
  have HB0 : Hid (Below w.heap.size w (w.alloc (n.box ⟨sa, k, sc⟩ ⟨la, m, lc⟩))) := (Below.refl _ _).alloc (Nat.le_refl _) _
  obtain ⟨c0, c1, c2, -, -, -⟩ := box3_cells HX0.out
  clear h
  go_enter Try.func4, Try.ntmps4
  go_upto_region 3 with (go_at_call 25; refine (awake15_any _).mono ?_; rintro e w1 ⟨rfl, hb1⟩; have HB1 := Lib.hid (HB0.out.trans (hb1.mono HB0.out.size)); have HX1 := Lib.hid (box_below HX0.out hb1); clear hb1)
  clear c0 c1 c2 HX0 HB0
  obtain ⟨c0, c1, c2, -, -, -⟩ := box3_cells HX1.out
  obtain ⟨fb, hfb⟩ : ∃ fb, decide (k ≤ 60 ∧ m ≤ 120) = fb := ⟨_, rfl⟩
  have HFB := Lib.hid hfb
  clear hfb
  cases fb with
  | false =>
    go_wp2_with (go_at_call 16; refine (few_any n ⟨sa, k, sc⟩ ⟨la, m, lc⟩ _).mono ?_; rintro e w2 ⟨rfl, hb2⟩; rw [HFB.out]; have HB2 := Lib.hid (HB1.out.trans (hb2.mono HB1.out.size)); clear hb2)
    go_ret
    exact ⟨rfl, HB2.out⟩
  | true =>
  obtain ⟨k60, m120⟩ := of_decide_eq_true HFB.out
  have HM : Hid (k ≤ 1000000 ∧ m ≤ 1000000) := ⟨by omega, by omega⟩
  go_upto_region 5 with (go_at_call 16; refine (few_any n ⟨sa, k, sc⟩ ⟨la, m, lc⟩ _).mono ?_; rintro e w2 ⟨rfl, hb2⟩; rw [HFB.out]; have HB2 := Lib.hid (HB1.out.trans (hb2.mono HB1.out.size)); have HX2 := Lib.hid (box_below HX1.out hb2); clear hb2)
  clear c0 c1 c2 HX1 HB1
  obtain ⟨c0, c1, c2, -, -, -⟩ := box3_cells HX2.out
  obtain ⟨ce, hce⟩ : ∃ ce, checkE n = ce := ⟨_, rfl⟩
  have HCE := Lib.hid hce
  clear hce
  by_cases he : ce = 0
  case neg =>
    have e0 : (ce == 0) = false := by simpa using he
    have HNE : Hid (checkE n ≠ 0) := by show _ ≠ _; rw [HCE.out]; exact he
    go_wp2_with (first
      | (go_at_call 26; go_loud (refine (parts_any n ⟨sa, k, sc⟩ ⟨la, m, lc⟩ _ HM.out (HH.out.below HB2.out)).mono ?_); rintro e w3 ⟨hb3, hf, -⟩; have hf2 := hf HNE.out; subst hf2; rw [HCE.out]; have HB3 := Lib.hid (HB2.out.trans (hb3.mono HB2.out.size)); have HX3 := Lib.hid (box_below HX2.out hb3); obtain ⟨d0, d1, d2, -, -, -⟩ := box3_cells HX3.out; clear hb3 hf)
      | (go_at_call 18; go_loud (refine (rcheck_any n ⟨sa, k, sc⟩ ⟨la, m, lc⟩ _ HM.out (HH.out.below HB3.out)).mono ?_); rintro e w4 ⟨rfl, hb4⟩; rw [HCE.out]; have HB4 := Lib.hid (HB3.out.trans (hb4.mono HB3.out.size)); clear hb4))
    go_ret
    exact ⟨rfl, HB4.out⟩
  case pos =>
    subst he
    obtain ⟨kk1, kk2, -, -, kk5, kk6⟩ := check_ok HCE.out
    have HNR : Hid (nearL n.links s = nearW n.links s k) := by have e : k = n.stops.length := HKN.out; show _ = _; rw [e]; exact near_eq kk5 kk6 s
    clear kk1 kk2 kk5 kk6
    obtain ⟨P, hP⟩ : ∃ P, lst (sprdN n.links id k) k = P := ⟨_, rfl⟩
    have HP := Lib.hid hP
    have HPL : Hid (P.length = k) := by show _ = _; rw [← hP]; exact lst_len _ _
    clear hP
    go_upto_region 12 with (first
      | (go_at_call 26; go_loud (refine (parts_any n ⟨sa, k, sc⟩ ⟨la, m, lc⟩ _ HM.out (HH.out.below HB2.out)).mono ?_); rintro e w3 ⟨hb3, -, hf⟩; obtain ⟨v3, rfl, ho3⟩ := hf HCE.out; rw [HP.out] at ho3; obtain ⟨va, vc, hv3, hsl3, -⟩ := ho3.slice; subst hv3; rw [HPL.out] at hsl3 ⊢; have HS3 := Lib.hid hsl3; have HB3 := Lib.hid (HB2.out.trans (hb3.mono HB2.out.size)); have HX3 := Lib.hid (box_below HX2.out hb3); obtain ⟨d0, d1, d2, -, -, -⟩ := box3_cells HX3.out; clear hb3 hf ho3 hsl3)
      | (go_at_call 18; go_loud (refine (rcheck_any n ⟨sa, k, sc⟩ ⟨la, m, lc⟩ _ HM.out (HH.out.below HB3.out)).mono ?_); rintro e w4 ⟨rfl, hb4⟩; rw [HCE.out]; have HB4 := Lib.hid (HB3.out.trans (hb4.mono HB3.out.size)); have HS4 := Lib.hid (HS3.out.below hb4); have HX4 := Lib.hid (box_below HX3.out hb4); obtain ⟨e0, e1, e2, -, -, -⟩ := box3_cells HX4.out; clear hb4)
      | (go_at_call 28; go_loud (refine (rparts_any n ⟨sa, k, sc⟩ ⟨la, m, lc⟩ _ (HH.out.below HB4.out) HCE.out).mono ?_); rintro e w5 ⟨v5, rfl, ho5, hb5⟩; rw [HP.out] at ho5; obtain ⟨ua, uc, hv5, hsl5, -⟩ := ho5.slice; subst hv5; rw [HPL.out] at hsl5 ⊢; have HT5 := Lib.hid hsl5; have HS5 := Lib.hid (HS4.out.below hb5); have HB5 := Lib.hid (HB4.out.trans (hb5.mono HB4.out.size)); have HX5 := Lib.hid (box_below HX4.out hb5); clear hb5 ho5 hsl5)
      | (go_at_call 27; go_loud (refine (isame_any va k vc P ua k uc P _ HS5.out HT5.out).mono ?_); rintro e w6 ⟨rfl, hb6⟩; have HB6 := Lib.hid (HB5.out.trans (hb6.mono HB5.out.size)); have HX6 := Lib.hid (box_below HX5.out hb6); obtain ⟨f0, f1, f2, -, -, -⟩ := box3_cells HX6.out; clear hb6; rw [decide_eq_true (rfl : P = P)])
      | (go_at_call 29; go_loud (refine (near_any n ⟨sa, k, sc⟩ ⟨la, m, lc⟩ s _ HM.out.2 (HH.out.below HB6.out)).mono ?_); rintro e w7 ⟨v7, rfl, ho7, hb7⟩; rw [HNR.out] at ho7; obtain ⟨na, nc, hv7, hsl7, -⟩ := ho7.slice; subst hv7; have HN7 := Lib.hid hsl7; have HB7 := Lib.hid (HB6.out.trans (hb7.mono HB6.out.size)); have HX7 := Lib.hid (box_below HX6.out hb7); clear hb7 ho7 hsl7))
    clear c0 c1 c2 d0 d1 d2 e0 e1 e2 f0 f1 f2 HX2 HX3 HX4 HX5 HX6 HB2 HB3 HB4 HB5 HB6 HS3 HS4 HS5 HT5
    obtain ⟨q, hq⟩ : ∃ q, (nearW n.links s k).length = q := ⟨_, rfl⟩
    rw [hq] at HN7 ⊢
    have HQ := Lib.hid hq
    have hq9 : q ≤ 9223372036854775807 := by have h1 : q ≤ nc := HN7.out.hcap; have h2 : nc ≤ maxLen := HN7.out.hmax; unfold maxLen at h2; omega
    clear hq
    obtain ⟨c0, c1, c2, -, -, -⟩ := box3_cells HX7.out
    go_wp2_with fail
    clear c0 c1 c2
    go_loopw [9, 49] (fun kx i wr => ∃ (j t : Nat), kx = .int .i64 t ∧ i = .int .i64 j ∧ j ≤ k ∧ Hid ((nearW n.links s j).length = t) ∧ t ≤ q ∧ Hid (wr.heap[w.heap.size]? = some (n.box ⟨sa, k, sc⟩ ⟨la, m, lc⟩)) ∧ Hid (Below w.heap.size w wr) ∧ Hid (Sl lcod wr na q nc (nearW n.links s k))) (fun _ i _ => k - (intOf i).toNat)
    case atStart => exact ⟨0, 0, by go_num, by go_num, by omega, rfl, by omega, HX7.out, HB7.out, HN7.out⟩
    case round =>
      clear HX7 HB7 HN7
      obtain ⟨j, t, rfl, rfl, hj, HT, htq, HX, HB, HN⟩ := hrel
      obtain ⟨c0, c1, c2, -, -, -⟩ := box3_cells HX.out
      by_cases hlt : j < k
      · obtain ⟨x, hx⟩ : ∃ x, wtE n.links s j = x := ⟨_, rfl⟩
        have HXX := Lib.hid hx
        clear hx
        by_cases hx0 : x = 0
        · have hxb : (x == 0) = true := by simpa using hx0
          have HT2 : Hid ((nearW n.links s (j + 1)).length = t) := by show _ = _; rw [nearW_len, HXX.out, if_pos hx0, HT.out]; rfl
          go_wp2_with (go_at_call 30; refine (rwt_any n ⟨sa, k, sc⟩ ⟨la, m, lc⟩ s (j : Int) _ (HH.out.below HB.out)).mono ?_; rintro e w8 ⟨rfl, hb8⟩; rw [HXX.out]; have HB8 := Lib.hid (HB.out.trans (hb8.mono HB.out.size)); have HX8 := Lib.hid (box_below HX.out hb8); have HN8 := Lib.hid (HN.out.below hb8); clear hb8)
          go_roundw
          case rel => exact ⟨j + 1, t, by go_num, by go_num, by omega, HT2.out, htq, HX8.out, HB8.out, HN8.out⟩
          case measure => simp [intOf]; omega
        · have hxb : (x == 0) = false := by simpa using hx0
          have hne : wtE n.links s j ≠ 0 := by rw [HXX.out]; exact hx0
          have hat := nearW_at k hlt hne
          rw [HT.out, HXX.out] at hat
          have htl : t < q := by have := (List.getElem?_eq_some_iff.1 hat).1; rw [HQ.out] at this; exact this
          have HT2 : Hid ((nearW n.links s (j + 1)).length = t + 1) := by show _ = _; rw [nearW_len, HXX.out, if_neg hx0, HT.out]
          obtain ⟨b', off, l, hna, hbl, hr, p0, p1, p2⟩ := lnk_at HN.out htl
          have hll := Option.some.inj (hr.symm.trans hat)
          subst hll
          have hna : na = _ := hna
          subst hna
          have HATN := Lib.hid (⟨hbl, p0, p1, p2⟩ : b' < wr.heap.size ∧ wr.cell? _ = _ ∧ wr.cell? _ = _ ∧ wr.cell? _ = _)
          have htqi : (t : Int) < (q : Int) := by omega
          clear hr hat p0 p1 p2 hne
          go_wp2_with (go_at_call 30; refine (rwt_any n ⟨sa, k, sc⟩ ⟨la, m, lc⟩ s (j : Int) _ (HH.out.below HB.out)).mono ?_; rintro e w8 ⟨rfl, hb8⟩; rw [HXX.out]; have HB8 := Lib.hid (HB.out.trans (hb8.mono HB.out.size)); have HX8 := Lib.hid (box_below HX.out hb8); have HN8 := Lib.hid (HN.out.below hb8); have z0 := (hb8.cell (p := ⟨b', off + t * 3, none⟩) hbl).trans HATN.out.2.1; have z1 := (hb8.cell (p := ⟨b', off + t * 3 + 1, none⟩) hbl).trans HATN.out.2.2.1; have z2 := (hb8.cell (p := ⟨b', off + t * 3 + 2, none⟩) hbl).trans HATN.out.2.2.2; clear hb8)
          go_roundw
          case rel => exact ⟨j + 1, t + 1, by go_num, by go_num, by omega, HT2.out, htl, HX8.out, HB8.out, HN8.out⟩
          case measure => simp [intOf]; omega
      · have hjk : k = j := by omega
        subst hjk
        have hqt : q = t := by rw [← HQ.out, HT.out]
        subst hqt
        go_wp2_with fail
        go_ret
        exact ⟨by simp, HB.out⟩
end Go.Proofs.Yteihffnmgacfpaa.Ne
