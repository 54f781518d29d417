/- Networks: distances fit one another: the example and the law walked. -/
import Derived.Test.YteihffnmgacfpaaNsD
import Derived.Test.YteihffnmgacfpaaNeZ
import Derived.Test.YteihffnmgacfpaaNeE
import Derived.Test.YteihffnmgacfpaaNuS
import Derived.Deep.RegionHeld3
namespace Go.Proofs.Yteihffnmgacfpaa.Ne
open Go.RowKit Go.V Go.Proofs Go.Sort

def exW : Net := ⟨1, [⟨0, 0⟩, ⟨0, 0⟩, ⟨0, 0⟩], [⟨0, 1, 4⟩, ⟨1, 2, 6⟩]⟩
theorem exW_ok : wayErr exW 3 0 2 = 0 ∧ wayFar exW 3 0 2 = 10 := by decide +kernel
theorem exW_way : wayL exW.links 3 0 2 = [0, 1, 2] := by decide +kernel

set_option maxHeartbeats 2000000 in
set_option maxRecDepth 100000 in
theorem awake17_any (w : World) : Calls Try.prog 43 #[] w fun e w' => e = .returned (.bool true) ∧ Below w.heap.size w w' := by
  have hmk : ∀ w, (Instr.makeSlice 22 (.int .i64 3) (.int .i64 3)).run Try.prog w = .ok (.slice (some ⟨w.heap.size, 0, none⟩) 3 3) (w.alloc (.cells #[.int .i64 0, .int .i64 0, .int .i64 0, .int .i64 0, .int .i64 0, .int .i64 0] 99)) := fun w => by
    have h := make_stops 3 (by omega) w
    have e : madeCells #[.int .i64 0, .int .i64 0] (3 * 2) = #[.int .i64 0, .int .i64 0, .int .i64 0, .int .i64 0, .int .i64 0, .int .i64 0] := by kernel_rfl
    rw [e] at h
    exact h
  go_enter Try.func43, Try.ntmps43
  have HN : Hid (NetIn ((w.alloc (.cells #[.int .i64 0, .int .i64 0, .int .i64 0, .int .i64 0, .int .i64 0, .int .i64 0] 99)).alloc (.cells #[.int .i64 0, .int .i64 1, .int .i64 4, .int .i64 1, .int .i64 2, .int .i64 6] 49)) exW ⟨some ⟨w.heap.size, 0, none⟩, 3, 3⟩ ⟨some ⟨w.heap.size + 1, 0, none⟩, 2, 2⟩) :=
    ⟨(sl_new (c := Stp.cod) w _ _ exW.stops 3 rfl (by unfold maxLen; omega) rfl).below ((Below.refl _ _).alloc (Nat.le_refl _) _), by have := sl_new (c := lcod) (w.alloc (.cells #[.int .i64 0, .int .i64 0, .int .i64 0, .int .i64 0, .int .i64 0, .int .i64 0] 99)) #[.int .i64 0, .int .i64 1, .int .i64 4, .int .i64 1, .int .i64 2, .int .i64 6] 49 exW.links 2 rfl (by unfold maxLen; omega) rfl; simpa using this⟩
  have HB0 : Hid (Below w.heap.size w ((w.alloc (.cells #[.int .i64 0, .int .i64 0, .int .i64 0, .int .i64 0, .int .i64 0, .int .i64 0] 99)).alloc (.cells #[.int .i64 0, .int .i64 1, .int .i64 4, .int .i64 1, .int .i64 2, .int .i64 6] 49))) := ((Below.refl _ _).alloc (Nat.le_refl _) _).alloc (by simp) _
  go_wp2_with (first
    | (go_at_call 45; go_loud (refine (pway_any exW ⟨some ⟨w.heap.size, 0, none⟩, 3, 3⟩ ⟨some ⟨w.heap.size + 1, 0, none⟩, 2, 2⟩ 0 2 _ (by show 3 ≤ 60; omega) (by show 2 ≤ 120; omega) (HN.out.below ((Below.refl _ _).alloc (Nat.le_refl _) _))).mono ?_); rintro e w1 ⟨v, rfl, ho, hb⟩; have ho2 := ho.yes exW_ok.1; rw [exW_way] at ho2; obtain ⟨va, vc, hv, hsl, -⟩ := ho2.slice; subst hv; rw [exW_ok.1, exW_ok.2]; have HB1 := Lib.hid ((HB0.out.alloc HB0.out.size _).trans (hb.mono (by simp; omega))); have HSL : Hid (Sl icod w1 va 3 vc [0, 1, 2]) := hsl; clear hb ho ho2 hsl)
    | (go_at_call 27; go_loud (refine (isame_any va 3 vc [0, 1, 2] _ _ _ [0, 1, 2] _ (HSL.out.below ((Below.refl _ _).alloc (Nat.le_refl _) _)) (sl_new (c := icod) _ #[.int .i64 0, .int .i64 1, .int .i64 2] 3 [0, 1, 2] 3 rfl (by unfold maxLen; omega) rfl)).mono ?_); rintro e w2 ⟨rfl, hb2⟩; have HB2 := Lib.hid ((HB1.out.alloc HB1.out.size (.cells #[.int .i64 0, .int .i64 1, .int .i64 2] 3)).trans (hb2.mono (by have := HB1.out.size; simp; omega))); clear hb2))
  go_ret
  exact ⟨rfl, HB2.out⟩

theorem far_lim {L : List Lnk} {k : Nat} (hL : LinksOk L k) {a : Int} (ha : 0 ≤ a ∧ a < k) (h60 : k ≤ 60) (h120 : L.length ≤ 120) (v : Int) : -1 ≤ far L k a v ∧ far L k a v ≤ 20000000000 := by
  have hf := far_is hL ha
  by_cases hv : 0 ≤ v ∧ v < k
  · obtain ⟨x, rfl⟩ : ∃ x : Nat, v = x := ⟨v.toNat, (Int.toNat_of_nonneg hv.1).symm⟩
    have hs : Sound L k a (bf L k a) _ := (bf_sound ha).turns hL k
    have := hs.one x _ (bf_at hL ha (by omega))
    have e3 : (k : Int) * ((L.length : Int) * 2097150) ≤ 60 * (120 * 2097150) :=
      Int.mul_le_mul (by omega) (by omega) (by omega) (by omega)
    omega
  · rw [hf.out hL ha hv]; omega
theorem bf_cell {L : List Lnk} {k : Nat} (hL : LinksOk L k) {a : Int} (ha : 0 ≤ a ∧ a < k) {w : World} {base o cap : Nat} (h : V.Own 3 icod base w (.slice (some ⟨o, 0, none⟩) k cap) (bf L k a)) {i : Nat} (hi : i < k) : w.cell? ⟨o, i, none⟩ = some (.int .i64 (far L k a i)) := by
  obtain ⟨d, hd, p0, -, -⟩ := icells h bf_len.symm hi
  rw [bf_at hL ha hi] at hd
  cases hd
  exact p0

set_option maxHeartbeats 8000000 in
set_option maxRecDepth 100000 in
theorem pfits_any (n : Net) (hs hl : Hdr) (xa xb xc : Nat) (w : World) (h : NetIn w n hs hl) (ka : xa < 256) (kb : xb < 256) (kc : xc < 256) :
    Calls Try.prog 8 #[n.val hs hl, .agg #[.int .u8 xa, .int .u8 xb, .int .u8 xc]] w fun e w' => e = .returned (.bool true) ∧ Below w.heap.size w w' := by
  have mixed : Try.prog.follows .mixedOrders = true := by kernel_rfl
  obtain ⟨sa, k, sc⟩ := hs
  obtain ⟨la, m, lc⟩ := hl
  have HH := Lib.hid h
  have HKN : Hid (k = n.stops.length) := h.s.hlen
  have HLN : Hid (m = n.links.length) := h.l.hlen
  have HX0 := Lib.hid (box_alloc (o := .cells #[.int .u8 xa, .int .u8 xb, .int .u8 xc] 68) (box_new w (n.box ⟨sa, k, sc⟩ ⟨la, m, lc⟩)))
  have HY0 : Hid (((w.alloc (n.box ⟨sa, k, sc⟩ ⟨la, m, lc⟩)).alloc (.cells #[.int .u8 xa, .int .u8 xb, .int .u8 xc] 68)).heap[w.heap.size + 1]? = some (.cells #[.int .u8 xa, .int .u8 xb, .int .u8 xc] 68 (0, 0))) := by
    show _ = _
    rw [show w.heap.size + 1 = (w.alloc (n.box ⟨sa, k, sc⟩ ⟨la, m, lc⟩)).heap.size by simp]
    exact box_new _ _
  have HB0 : Hid (Below w.heap.size w ((w.alloc (n.box ⟨sa, k, sc⟩ ⟨la, m, lc⟩)).alloc (.cells #[.int .u8 xa, .int .u8 xb, .int .u8 xc] 68))) := ((Below.refl _ _).alloc (Nat.le_refl _) _).alloc (by simp) _
  obtain ⟨c0, c1, c2, -, -, -⟩ := box3_cells HX0.out
  clear h
  go_enter Try.func8, Try.ntmps8
  go_upto_region 3 with (go_at_call 43; refine (awake17_any _).mono ?_; rintro e w1 ⟨rfl, hb1⟩; have HB1 := Lib.hid (HB0.out.trans (hb1.mono HB0.out.size)); have HX1 := Lib.hid (box_below HX0.out hb1); have HY1 := Lib.hid (box_below HY0.out hb1); clear hb1)
  clear c0 c1 c2 HX0 HB0 HY0
  obtain ⟨c0, c1, c2, -, -, -⟩ := box3_cells HX1.out
  obtain ⟨fb, hfb⟩ : ∃ fb, decide (k ≤ 60 ∧ m ≤ 120) = fb := ⟨_, rfl⟩
  have HFB := Lib.hid hfb
  clear hfb
  cases fb with
  | false =>
    go_wp2_with (go_at_call 16; refine (few_any n ⟨sa, k, sc⟩ ⟨la, m, lc⟩ _).mono ?_; rintro e w2 ⟨rfl, hb2⟩; rw [HFB.out]; have HB2 := Lib.hid (HB1.out.trans (hb2.mono HB1.out.size)); clear hb2)
    go_ret
    exact ⟨rfl, HB2.out⟩
  | true =>
  obtain ⟨k60, m120⟩ := of_decide_eq_true HFB.out
  have HM : Hid (k ≤ 1000000 ∧ m ≤ 1000000) := ⟨by omega, by omega⟩
  by_cases hk0 : k = 0
  · subst hk0
    go_wp2_with (go_at_call 16; refine (few_any n ⟨sa, 0, sc⟩ ⟨la, m, lc⟩ _).mono ?_; rintro e w2 ⟨rfl, hb2⟩; rw [HFB.out]; have HB2 := Lib.hid (HB1.out.trans (hb2.mono HB1.out.size)); have HX2 := Lib.hid (box_below HX1.out hb2); obtain ⟨d0, d1, d2, -, -, -⟩ := box3_cells HX2.out; clear hb2)
    go_ret
    exact ⟨rfl, HB2.out⟩
  have hkb : ((k : Int) == 0) = false := by simpa using hk0
  obtain ⟨ce, hce⟩ : ∃ ce, checkE n = ce := ⟨_, rfl⟩
  have HCE := Lib.hid hce
  clear hce
  by_cases he : ce = 0
  case neg =>
    have e0 : (ce == 0) = false := by simpa using he
    go_wp2_with (first
      | (go_at_call 16; refine (few_any n ⟨sa, k, sc⟩ ⟨la, m, lc⟩ _).mono ?_; rintro e w2 ⟨rfl, hb2⟩; rw [HFB.out]; have HB2 := Lib.hid (HB1.out.trans (hb2.mono HB1.out.size)); have HX2 := Lib.hid (box_below HX1.out hb2); obtain ⟨d0, d1, d2, -, -, -⟩ := box3_cells HX2.out; clear hb2)
      | (go_at_call 18; go_loud (refine (rcheck_any n ⟨sa, k, sc⟩ ⟨la, m, lc⟩ _ HM.out (HH.out.below HB2.out)).mono ?_); rintro e w3 ⟨rfl, hb3⟩; rw [HCE.out]; have HB3 := Lib.hid (HB2.out.trans (hb3.mono HB2.out.size)); clear hb3))
    go_ret
    exact ⟨rfl, HB3.out⟩
  case pos =>
  subst he
  go_upto_region 6 with (first
    | (go_at_call 16; refine (few_any n ⟨sa, k, sc⟩ ⟨la, m, lc⟩ _).mono ?_; rintro e w2 ⟨rfl, hb2⟩; rw [HFB.out]; have HB2 := Lib.hid (HB1.out.trans (hb2.mono HB1.out.size)); have HX2 := Lib.hid (box_below HX1.out hb2); have HY2 := Lib.hid (box_below HY1.out hb2); obtain ⟨d0, d1, d2, -, -, -⟩ := box3_cells HX2.out; clear hb2)
    | (go_at_call 18; go_loud (refine (rcheck_any n ⟨sa, k, sc⟩ ⟨la, m, lc⟩ _ HM.out (HH.out.below HB2.out)).mono ?_); rintro e w3 ⟨rfl, hb3⟩; rw [HCE.out]; have HB3 := Lib.hid (HB2.out.trans (hb3.mono HB2.out.size)); have HX3 := Lib.hid (box_below HX2.out hb3); have HY3 := Lib.hid (box_below HY2.out hb3); obtain ⟨e0, e1, e2, -, -, -⟩ := box3_cells HX3.out; clear hb3))
  clear c0 c1 c2 d0 d1 d2 e0 e1 e2 HX1 HX2 HY1 HY2 HB1 HB2
  obtain ⟨y0, y1, y2, -, -, -⟩ := box3_cells HY3.out
  obtain ⟨A, hA⟩ : ∃ A : Nat, (xa : Int).tmod (k : Int) = (A : Int) := ⟨xa % k, by rw [Int.tmod_eq_emod_of_nonneg (by omega)]; exact Int.natCast_emod _ _ |>.symm⟩
  obtain ⟨B, hB⟩ : ∃ B : Nat, (xb : Int).tmod (k : Int) = (B : Int) := ⟨xb % k, by rw [Int.tmod_eq_emod_of_nonneg (by omega)]; exact Int.natCast_emod _ _ |>.symm⟩
  obtain ⟨C, hC⟩ : ∃ C : Nat, (xc : Int).tmod (k : Int) = (C : Int) := ⟨xc % k, by rw [Int.tmod_eq_emod_of_nonneg (by omega)]; exact Int.natCast_emod _ _ |>.symm⟩
  have hAk : A < k := by have := Int.tmod_lt_of_pos (xa : Int) (b := (k : Int)) (by omega); omega
  have hBk : B < k := by have := Int.tmod_lt_of_pos (xb : Int) (b := (k : Int)) (by omega); omega
  have hCk : C < k := by have := Int.tmod_lt_of_pos (xc : Int) (b := (k : Int)) (by omega); omega
  have wa : IntKind.i64.wrap (xa : Int) = xa := by rw [IntKind.wrap_i64]; omega
  have wb : IntKind.i64.wrap (xb : Int) = xb := by rw [IntKind.wrap_i64]; omega
  have wc : IntKind.i64.wrap (xc : Int) = xc := by rw [IntKind.wrap_i64]; omega
  go_region_held3 (fun w' => w'.cell? ⟨w.heap.size + 1, 0, none⟩ = some (.int .u8 xa) ∧ w'.cell? ⟨w.heap.size + 1, 1, none⟩ = some (.int .u8 xb) ∧ w'.cell? ⟨w.heap.size + 1, 2, none⟩ = some (.int .u8 xc)) (go_keep) (fail)
  have HB4 : Hid (Below w.heap.size w w3.drew) := HB3.out.trans (Below.drew (Below.refl _ _))
  have HX4 : Hid (w3.drew.heap[w.heap.size]? = some (n.box ⟨sa, k, sc⟩ ⟨la, m, lc⟩)) := HX3.out
  obtain ⟨X, hX⟩ : ∃ X, w3.drew = X := ⟨_, rfl⟩
  rw [hX] at HB4 HX4 ⊢
  clear hX y0 y1 y2 HX3 HY3 HB3 wa wb wc hA hB hC
  obtain ⟨c0, c1, c2, -, -, -⟩ := box3_cells HX4.out
  have HLO : Hid (LinksOk n.links k) := by have e : k = n.stops.length := HKN.out; show LinksOk _ _; rw [e]; exact (check_ok HCE.out).2.2.2.2.1
  have HFA : Hid (fromE n (A : Int) = 0) := by show _ = _; unfold fromE; rw [HCE.out, if_pos rfl, if_pos ⟨by omega, by rw [← HKN.out]; omega⟩]
  have HFB : Hid (fromE n (B : Int) = 0) := by show _ = _; unfold fromE; rw [HCE.out, if_pos rfl, if_pos ⟨by omega, by rw [← HKN.out]; omega⟩]
  have HIA : Hid (0 ≤ (A : Int) ∧ (A : Int) < k) := ⟨by omega, by omega⟩
  have HIB : Hid (0 ≤ (B : Int) ∧ (B : Int) < k) := ⟨by omega, by omega⟩
  go_upto_region 9 with (first
    | (go_at_call 44; go_fit (pfrom_any n ⟨sa, k, sc⟩ ⟨la, m, lc⟩ (A : Int) X HM.out (HH.out.below HB4.out)); rintro e w5 ⟨hb5, -, hf5⟩; obtain ⟨o1, cap1, rfl, ho5⟩ := hf5 HFA.out; rw [← HKN.out] at ho5; have HO5 := Lib.hid ho5; have HB5 := Lib.hid (HB4.out.trans (hb5.mono HB4.out.size)); have HX5 := Lib.hid (box_below HX4.out hb5); obtain ⟨d0, d1, d2, -, -, -⟩ := box3_cells HX5.out; clear hb5 hf5 ho5)
    | (go_at_call 44; go_fit (pfrom_any n ⟨sa, k, sc⟩ ⟨la, m, lc⟩ (B : Int) w5 HM.out (HH.out.below HB5.out)); rintro e w6 ⟨hb6, -, hf6⟩; obtain ⟨o2, cap2, rfl, ho6⟩ := hf6 HFB.out; rw [← HKN.out] at ho6; have HO6 := Lib.hid ho6; have HQ6 := Lib.hid (HO5.out.below hb6); have HB6 := Lib.hid (HB5.out.trans (hb6.mono HB5.out.size)); have HX6 := Lib.hid (box_below HX5.out hb6); clear hb6 hf6 ho6))
  clear c0 c1 c2 d0 d1 d2 HX4 HX5 HB4 HB5 HO5
  obtain ⟨c0, c1, c2, -, -, -⟩ := box3_cells HX6.out
  have p0 := bf_cell HLO.out HIA.out HQ6.out hAk
  have p1 := bf_cell HLO.out HIA.out HQ6.out hBk
  have p2 := bf_cell HLO.out HIA.out HQ6.out hCk
  have p3 := bf_cell HLO.out HIB.out HO6.out hAk
  have p4 := bf_cell HLO.out HIB.out HO6.out hCk
  rw [(far_is HLO.out HIA.out).self] at p0
  rw [(far_is HLO.out HIA.out).symm (far_is HLO.out HIB.out)] at p3
  have l1 := far_lim HLO.out HIA.out k60 (by rw [← HLN.out]; exact m120) (B : Int)
  have l2 := far_lim HLO.out HIA.out k60 (by rw [← HLN.out]; exact m120) (C : Int)
  have l3 := far_lim HLO.out HIB.out k60 (by rw [← HLN.out]; exact m120) (C : Int)
  have ltri := (far_is HLO.out HIA.out).tri (far_is HLO.out HIB.out) (c := (C : Int))
  obtain ⟨dab, hdab⟩ : ∃ d, far n.links k A B = d := ⟨_, rfl⟩
  obtain ⟨dac, hdac⟩ : ∃ d, far n.links k A C = d := ⟨_, rfl⟩
  obtain ⟨dbc, hdbc⟩ : ∃ d, far n.links k B C = d := ⟨_, rfl⟩
  rw [hdab] at p1 p3 l1 ltri
  rw [hdac] at p2 l2 ltri
  rw [hdbc] at p4 l3 ltri
  clear hdab hdac hdbc
  have hAi : (A : Int) < (k : Int) := by omega
  have hBi : (B : Int) < (k : Int) := by omega
  have hCi : (C : Int) < (k : Int) := by omega
  have hkk : ((k : Int) != (k : Int)) = false := by simp
  have hdd : ((dab : Int) != dab) = false := by simp
  go_quiet (fail)
  have hcase : (dab < 0 ∧ decide (0 ≤ dab) = false) ∨ (0 ≤ dab ∧ decide (0 ≤ dab) = true ∧ dbc < 0 ∧ decide (0 ≤ dbc) = false) ∨ (0 ≤ dab ∧ decide (0 ≤ dab) = true ∧ 0 ≤ dbc ∧ decide (0 ≤ dbc) = true ∧ decide (dac < 0) = false ∧ decide (dab + dbc < dac) = false ∧ IntKind.i64.wrap (dab + dbc) = dab + dbc) := by
    by_cases h1 : dab < 0
    · exact .inl ⟨h1, decide_eq_false (by omega)⟩
    · by_cases h2 : dbc < 0
      · exact .inr (.inl ⟨by omega, decide_eq_true (by omega), h2, decide_eq_false (by omega)⟩)
      · have h3 := ltri (by omega) (by omega)
        exact .inr (.inr ⟨by omega, decide_eq_true (by omega), by omega, decide_eq_true (by omega), decide_eq_false (by omega), decide_eq_false (by omega), by rw [IntKind.wrap_i64]; omega⟩)
  clear ltri
  rcases hcase with ⟨q0, q1⟩ | ⟨q0, q1, q2, q3⟩ | ⟨q0, q1, q2, q3, q4, q5, q6⟩
  all_goals
    go_wp2_with fail
    go_quiet (fail)
    go_wp2_with fail
    clear c0 c1 c2 p0 p1 p2 p3 p4
    go_loopw [135] (fun i wr => ∃ j : Nat, i = .int .i64 j ∧ j ≤ m ∧ Hid (wr.heap[w.heap.size]? = some (n.box ⟨sa, k, sc⟩ ⟨la, m, lc⟩)) ∧ Hid (Below w.heap.size w wr) ∧ (∃ b0, Hid (V.Own 3 icod b0 wr (.slice (some ⟨o1, 0, none⟩) k cap1) (bf n.links k A)))) (fun i _ => m - (intOf i).toNat)
    case atStart => exact ⟨0, by go_num, by omega, box_below HX6.out (below_drewN (Below.refl _ _) _), below_drewN HB6.out _, _, HQ6.out.below (below_drewN (Below.refl _ _) _)⟩
    case round =>
      obtain ⟨j, rfl, hj, HX, HB, b0, HO⟩ := hrel
      by_cases hlt : j < m
      · obtain ⟨bl, off, l, e1, hbl, hlj, l0, l1, l2⟩ := lnk_at (HH.out.l.below HB.out) hlt
        have e1 : la = _ := e1
        subst e1
        obtain ⟨r1, r2, r3, r4, r5⟩ := HLO.out l (List.mem_of_getElem? hlj)
        have hed : V.Edge n.links l.a l.b l.w := ⟨l, List.mem_of_getElem? hlj, .inl ⟨rfl, rfl⟩, rfl⟩
        obtain ⟨P, Q, x⟩ := l
        obtain ⟨P, rfl⟩ : ∃ P' : Nat, P = P' := ⟨P.toNat, by simp at r1; omega⟩
        obtain ⟨Q, rfl⟩ : ∃ Q' : Nat, Q = Q' := ⟨Q.toNat, by simp at r1 r2; omega⟩
        have hPk : P < k := by simp at r2 r3; omega
        have hQk : Q < k := by simp at r3; omega
        have hPi : (P : Int) < (k : Int) := by omega
        have hQi : (Q : Int) < (k : Int) := by omega
        have hf := far_is HLO.out HIA.out
        have f1 := hf.edge hed
        have f2 := hf.edge hed.symm
        have f3 := far_lim HLO.out HIA.out k60 (by rw [← HLN.out]; exact m120) (P : Int)
        have f4 := far_lim HLO.out HIA.out k60 (by rw [← HLN.out]; exact m120) (Q : Int)
        have p0 := bf_cell HLO.out HIA.out HO.out hPk
        have p1 := bf_cell HLO.out HIA.out HO.out hQk
        simp only [] at r4 r5 f1 f2
        obtain ⟨dp, hdp⟩ : ∃ d, far n.links k A P = d := ⟨_, rfl⟩
        obtain ⟨dq, hdq⟩ : ∃ d, far n.links k A Q = d := ⟨_, rfl⟩
        rw [hdp] at p0 f1 f2 f3
        rw [hdq] at p1 f1 f2 f4
        have HOa := Lib.hid (HO.out.alloc (.cells #[.int .i64 P, .int .i64 Q, .int .i64 x] 49))
        have HXa := Lib.hid (box_alloc (o := .cells #[.int .i64 P, .int .i64 Q, .int .i64 x] 49) HX.out)
        have HBa := Lib.hid (HB.out.alloc HB.out.size (.cells #[.int .i64 P, .int .i64 Q, .int .i64 x] 49))
        have ho1 : o1 < wr.heap.size := (World.ownsRow.lt HO.out o1 rfl).2
        have hc2 : (dp < 0 ∧ dq < 0 ∧ decide (dp < 0) = true ∧ decide (dq < 0) = true ∧ decide (dq + x < dp) = false ∧ decide (dp + x < dq) = false) ∨ (0 ≤ dp ∧ 0 ≤ dq ∧ decide (dp < 0) = false ∧ decide (dq < 0) = false ∧ decide (dq + x < dp) = false ∧ decide (dp + x < dq) = false) := by
          by_cases g : dp < 0
          · have g2 : dq < 0 := by
              apply Classical.byContradiction
              intro g2
              have := f2 (by omega); omega
            exact .inl ⟨g, g2, decide_eq_true g, decide_eq_true g2, decide_eq_false (by omega), decide_eq_false (by omega)⟩
          · have g1 := f1 (by omega)
            have g2 := f2 (by omega)
            exact .inr ⟨by omega, by omega, decide_eq_false (by omega), decide_eq_false (by omega), decide_eq_false (by omega), decide_eq_false (by omega)⟩
        have z1 : IntKind.i64.wrap (dq + x) = dq + x := by rw [IntKind.wrap_i64]; omega
        have z2 : IntKind.i64.wrap (dp + x) = dp + x := by rw [IntKind.wrap_i64]; omega
        have zt : ((true : Bool) != true) = false := rfl
        have zf : ((false : Bool) != false) = false := rfl
        clear f1 f2 hed hf hdp hdq hlj r1 r2 r3
        rcases hc2 with ⟨g1, g2, g3, g4, g5, g6⟩ | ⟨g1, g2, g3, g4, g5, g6⟩
        all_goals
          go_wp2_with fail
          go_quiet (fail)
          go_wp2_with fail
          go_roundw
          case rel => exact ⟨j + 1, by go_num, by omega, box_below HXa.out (below_drewN (Below.refl _ _) _), below_drewN HBa.out _, _, HOa.out.below (below_drewN (Below.refl _ _) _)⟩
          case measure => simp [intOf]; omega
      · have hjm : m = j := by omega
        subst hjm
        go_wp2_with fail
        go_ret
        exact ⟨rfl, HB.out⟩
end Go.Proofs.Yteihffnmgacfpaa.Ne
