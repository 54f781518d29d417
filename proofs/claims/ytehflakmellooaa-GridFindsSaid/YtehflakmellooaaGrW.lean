/- Grids: the law GridFinds: walked. -/
import Derived.Test.YtehflakmellooaaGrV
namespace Go.Proofs.Ytehflakmellooaa.Ne
open Go.RowKit Go.V Go.Proofs

abbrev n4V (n0 n1 n2 n3 : Int) : Value := .agg #[.int .i64 n0, .int .i64 n1, .int .i64 n2, .int .i64 n3]
theorem near_all {p : Stp} {S : List Stp} (i : Nat) : (fnd p S (i : Int)).sq ≤ 134217728 * 134217728 := by
  have := (sqE_in p (S.getD (i : Int).toNat default)).2
  show sqE p (S.getD (i : Int).toNat default) ≤ _
  omega
theorem near_nil {p : Stp} {m : Int} {k : Nat} : nearL p [] m k = [] := by
  unfold nearL
  have h := near_len p [] m
  have e : nearF p [] m = [] := List.eq_nil_of_length_eq_zero (by simpa using h)
  rw [e]
  simp
theorem isame_true (a1 : Option Addr) (n1 cap1 : Nat) (xs : List Int) (a2 : Option Addr) (n2 cap2 : Nat) (w : World) (h1 : Sl icod w a1 n1 cap1 xs) (h2 : Sl icod w a2 n2 cap2 xs) :
    Calls Try.prog 10 #[.slice a1 n1 cap1, .slice a2 n2 cap2] w fun e w' => e = .returned (.bool true) ∧ Below w.heap.size w w' :=
  (isame_any a1 n1 cap1 xs a2 n2 cap2 xs w h1 h2).mono fun e w' ⟨k1, k2⟩ => ⟨by rw [k1, decide_eq_true rfl], k2⟩
theorem box4_cells {w : World} {g : Nat} {e : TypeId} {u0 u1 u2 u3 : Value} (h : w.heap[g]? = some (.cells #[u0, u1, u2, u3] e (0, 0))) : w.cell? ⟨g, 0, none⟩ = some u0 ∧ w.cell? ⟨g, 1, none⟩ = some u1 ∧ w.cell? ⟨g, 2, none⟩ = some u2 ∧ w.cell? ⟨g, 3, none⟩ = some u3 :=
  ⟨(box_cell h 0).1, (box_cell h 1).1, (box_cell h 2).1, (box_cell h 3).1⟩

set_option maxHeartbeats 8000000 in
set_option maxRecDepth 100000 in
theorem gfinds_any (a : Option Addr) (n cap : Nat) (S : List Stp) (z n0 n1 n2 n3 : Int) (w : World) (h : Sl Stp.cod w a n cap S) (w0 : Iok n0) (w1 : Iok n1) :
    Calls Try.prog 4 #[.slice a n cap, .int .i64 z, n4V n0 n1 n2 n3] w fun e w' => e = .returned (.bool true) ∧ Below w.heap.size w w' := by
  have HN := Lib.hid h.hlen
  have hmx : n ≤ 9223372036854775807 := by have := h.hcap; have := h.hmax; unfold maxLen at this; omega
  have HS := Lib.hid h
  have HX0 : Hid ((w.alloc (.cells #[.int .i64 n0, .int .i64 n1, .int .i64 n2, .int .i64 n3] 40)).heap[w.heap.size]? = some (.cells #[.int .i64 n0, .int .i64 n1, .int .i64 n2, .int .i64 n3] 40 (0, 0))) := box_new _ _
  have HB0 : Hid (Below w.heap.size w (w.alloc (.cells #[.int .i64 n0, .int .i64 n1, .int .i64 n2, .int .i64 n3] 40))) := (Below.refl _ _).alloc (Nat.le_refl _) _
  have HW : Hid (Iok n0 ∧ Iok n1) := ⟨w0, w1⟩
  clear h w0 w1
  by_cases hbig : 200 < n
  · go_enter Try.func4, Try.ntmps4
    go_wp2_with (go_at_call 5; go_fit (awake14_any _); rintro e w2 ⟨rfl, hb2⟩; have HB2 := Lib.hid (HB0.out.trans (hb2.mono HB0.out.size)); clear hb2)
    go_ret
    exact ⟨rfl, HB2.out⟩
  have hn : n ≤ 200 := by omega
  clear hbig
  rcases rightE_cases S z with h0 | h0
  · have HR := Lib.hid h0
    have HOK := Lib.hid (right_ok h0)
    have HSN : Hid (S.length ≤ 200) := by show _ ≤ _; rw [← HN.out]; exact hn
    clear h0
    go_enter Try.func4, Try.ntmps4
    go_upto_region 11 with (first
      | (go_at_call 5; go_fit (awake14_any _); rintro e w2 ⟨rfl, hb2⟩; have HX2 := Lib.hid (box_below HX0.out hb2); have HB2 := Lib.hid (HB0.out.trans (hb2.mono HB0.out.size)); clear hb2)
      | (go_at_call 9; go_fit (grnew_ok a n cap S z _ (by omega) (HS.out.below HB2.out) HR.out); rintro e w3 ⟨g, hs, b, rfl, hg, hsl, hm, hb3⟩; have HX3 := Lib.hid (box_below HX2.out hb3); have HG3 := Lib.hid hg; have HS3 := Lib.hid hsl; have HM3 := Lib.hid hm; have HB3 := Lib.hid (HB2.out.trans (hb3.mono HB2.out.size)); clear hg hsl hm hb3)
      | (go_at_call 11; go_fit (right14_any a n cap S z _ (by omega) (HS.out.below HB3.out)); rintro e w4 ⟨rfl, hb4⟩; rw [HR.out]; have HX4 := Lib.hid (box_below HX3.out hb4); have HG4 := Lib.hid (HG3.out.below hb4); have HS4 := Lib.hid (HS3.out.below hb4); have HM4 := Lib.hid (HM3.out.below hb4); have HB4 := Lib.hid (HB3.out.trans (hb4.mono HB3.out.size)); clear hb4)
      | (go_at_call 7; go_fit (grlen_any g hs z b _ HG4.out); rintro e w5 ⟨rfl, rfl⟩; rw [show hs.n = n from by rw [HS4.out.hlen, ← HN.out]]))
    obtain ⟨x0, x1, x2, x3⟩ := box4_cells HX4.out
    have HB5 : Hid (Below w4.heap.size w4 (w4.alloc (.cells #[.int .i64 n0, .int .i64 n1] 34))) := (Below.refl _ _).alloc (Nat.le_refl _) _
    have HZ5 := Lib.hid (box_new w4 (.cells #[.int .i64 n0, .int .i64 n1] 34))
    have hs4 : w.heap.size ≤ w4.heap.size := HB4.out.size
    have HIL : Hid ((idxs S z n0 n1).length ≤ 1000000) := by have := idxs_len S z n0 n1; have := HSN.out; show _ ≤ _; omega
    go_upto_region 12 with fail
    obtain ⟨z0, z1, -, -⟩ := box2_cells HZ5.out
    have HK : Hid (∀ w', Below (w4.alloc (.cells #[.int .i64 n0, .int .i64 n1] 34)).heap.size (w4.alloc (.cells #[.int .i64 n0, .int .i64 n1] 34)) w' → w'.cell? ⟨w4.heap.size, 0, none⟩ = some (.int .i64 n0) ∧ w'.cell? ⟨w4.heap.size, 1, none⟩ = some (.int .i64 n1)) := fun w' hb => ⟨(box2_cells (box_below HZ5.out hb)).1, (box2_cells (box_below HZ5.out hb)).2.1⟩
    have HD5 : Hid (Below (w4.alloc (.cells #[.int .i64 n0, .int .i64 n1] 34)).heap.size (w4.alloc (.cells #[.int .i64 n0, .int .i64 n1] 34)) (w4.alloc (.cells #[.int .i64 n0, .int .i64 n1] 34)).drew) := Below.drew (Below.refl _ _)
    have HD4 : Hid (Below w4.heap.size w4 (w4.alloc (.cells #[.int .i64 n0, .int .i64 n1] 34)).drew) := Below.drew HB5.out
    go_region_held3 (fun w' => w'.cell? ⟨w4.heap.size, 0, none⟩ = some (.int .i64 n0) ∧ w'.cell? ⟨w4.heap.size, 1, none⟩ = some (.int .i64 n1)) (first | exact HK.out _ (Below.refl _ _) | exact HK.out _ HD5.out | exact HK.out _ HC6.out | exact HK.out _ HC7.out | exact HK.out _ HC8.out) (first
      | (go_at_call 8; go_fit (grcell_any g hs z b (idxs S z) n0 n1 _ (HG4.out.below HD4.out) (HM4.out.below HD4.out) HW.out.1 HW.out.2 HIL.out); rintro e w6 ⟨v6, rfl, ho6, hb6⟩; obtain ⟨a6, c6, rfl, s6, -⟩ := ho6.slice; have HV6 := Lib.hid s6; have HC6 := Lib.hid (HD5.out.trans hb6); have HE6 := Lib.hid (HD4.out.trans (hb6.mono HD4.out.size)); clear ho6 s6 hb6)
      | (go_at_call 12; go_fit (rcell14_any a n cap S z n0 n1 _ hn HOK.out.1.1 HOK.out.2 (HS.out.below (HB4.out.trans (HE6.out.mono hs4)))); rintro e w7 ⟨v7, rfl, ho7, hb7⟩; obtain ⟨a7, c7, rfl, s7, -⟩ := ho7.slice; have HV7 := Lib.hid s7; have HV6b := Lib.hid (HV6.out.below hb7); have HC7 := Lib.hid (HC6.out.trans (hb7.mono HC6.out.size)); have HE7 := Lib.hid (HE6.out.trans (hb7.mono HE6.out.size)); clear ho7 s7 hb7)
      | (go_at_call 10; go_fit (isame_true a6 _ c6 (idxs S z n0 n1) a7 _ c7 _ HV6b.out HV7.out); rintro e w8 ⟨rfl, hb8⟩; have HC8 := Lib.hid (HC7.out.trans (hb8.mono HC7.out.size)); have HE8 := Lib.hid (HE7.out.trans (hb8.mono HE7.out.size)); clear hb8))
    all_goals
      have HB8 : Hid (Below w.heap.size w w8) := HB4.out.trans (HE8.out.mono hs4)
      have HX8 := Lib.hid (box_below HX4.out HE8.out)
      have HG8 := Lib.hid (HG4.out.below HE8.out)
      have HS8 := Lib.hid (HS4.out.below HE8.out)
      have HM8 := Lib.hid (HM4.out.below HE8.out)
      clear x0 x1 x2 x3 z0 z1
      obtain ⟨x0, x1, x2, x3⟩ := box4_cells HX8.out
      obtain ⟨bm, hbm⟩ : ∃ bm, mayB n0 n1 = bm := ⟨_, rfl⟩
      have HBM := Lib.hid hbm
      cases bm with
      | false =>
        have HNB : Hid (nearB n0 n1 n2 n3 = false) := by show _ = _; unfold nearB; rw [hbm]; rfl
        have HWHY : Hid (mayB n0 n1 = false ∨ hs.n = 0) := .inl hbm
        clear hbm
        go_wp2_with (first
          | (go_at_call 6; go_fit (grnear_bad g hs z b n0 n1 n2 n3 _ HG8.out HNB.out); rintro e w9 ⟨rfl, hb9⟩; have HX9 := Lib.hid (box_below HX8.out hb9); obtain ⟨x0, x1, x2, x3⟩ := box4_cells HX9.out; have HG9 := Lib.hid (HG8.out.below hb9); have HS9 := Lib.hid (HS8.out.below hb9); have HB9 := Lib.hid (HB8.out.trans (hb9.mono HB8.out.size)); clear hb9)
          | (go_at_call 13; go_fit (nearest_none g hs z b n0 n1 _ HG9.out HWHY.out); rintro e w10 ⟨rfl, hb10⟩; have HX10 := Lib.hid (box_below HX9.out hb10); obtain ⟨x0, x1, x2, x3⟩ := box4_cells HX10.out; have HB10 := Lib.hid (HB9.out.trans (hb10.mono HB9.out.size)); clear hb10)
          | (go_at_call 14; go_fit (rmay_any n0 n1 _); rintro e wm ⟨rfl, rfl⟩; rw [HBM.out]))
        go_ret
        exact ⟨rfl, HB10.out⟩
      | true =>
        obtain ⟨bn, hbn⟩ : ∃ bn, nearB n0 n1 n2 n3 = bn := ⟨_, rfl⟩
        have HNB := Lib.hid hbn
        unfold nearB at hbn
        rw [hbm, Bool.true_and] at hbn
        clear hbm
        by_cases hpos : 0 < S.length
        · have HPOS := Lib.hid hpos
          have hnz : (0 : Int) < (n : Int) := by rw [HN.out]; omega
          clear hpos
          cases bn with
          | false =>
            have hno := of_decide_eq_false hbn
            have hcs : n2 < 0 ∨ (0 ≤ n2 ∧ 1048576 < n2) ∨ (0 ≤ n2 ∧ n2 ≤ 1048576 ∧ n3 < 0) := by omega
            clear hbn hno
            rcases hcs with c1 | ⟨c1, c2⟩ | ⟨c1, c2, c3⟩
            all_goals
              go_wp2_with (first
                | (go_at_call 6; go_fit (grnear_bad g hs z b n0 n1 n2 n3 _ HG8.out HNB.out); rintro e w9 ⟨rfl, hb9⟩; have HX9 := Lib.hid (box_below HX8.out hb9); obtain ⟨x0, x1, x2, x3⟩ := box4_cells HX9.out; have HG9 := Lib.hid (HG8.out.below hb9); have HS9 := Lib.hid (HS8.out.below hb9); have HB9 := Lib.hid (HB8.out.trans (hb9.mono HB8.out.size)); clear hb9)
                | (go_at_call 13; go_fit (nearest_any g hs z b S ⟨n0, n1⟩ _ HSN.out HPOS.out HBM.out HG9.out HS9.out); rintro e w10 ⟨r, rfl, hbest, hb10⟩; have HBT := Lib.hid (best_head hbest (m := 134217728 * 134217728) (fun i _ => near_all i)); have HX10 := Lib.hid (box_below HX9.out hb10); obtain ⟨x0, x1, x2, x3⟩ := box4_cells HX10.out; have HB10 := Lib.hid (HB9.out.trans (hb10.mono HB9.out.size)); clear hbest hb10)
                | (go_at_call 14; go_fit (rmay_any n0 n1 _); rintro e wm ⟨rfl, rfl⟩; rw [HBM.out])
                | (go_at_call 15; go_fit (rnear_any a _ cap S ⟨n0, n1⟩ 134217728 1 _ hn (by decide) (HS.out.below HB10.out)); rintro e w11 ⟨v11, rfl, ho11, hb11⟩; rw [HBT.out] at ho11; obtain ⟨a11, c11, rfl, s11, -⟩ := ho11.slice; obtain ⟨b11, o11, r11, rfl, -, hr11, q0⟩ := int_at s11 (i := 0) (by simp); (have hr11 : r.stop = r11 := Option.some.inj hr11); subst hr11; rw [Nat.add_zero] at q0; have HX11 := Lib.hid (box_below HX10.out hb11); obtain ⟨x0, x1, x2, x3⟩ := box4_cells HX11.out; have HB11 := Lib.hid (HB10.out.trans (hb11.mono HB10.out.size)); clear ho11 s11 hb11))
              go_ret
              exact ⟨rfl, HB11.out⟩
          | true =>
            obtain ⟨c1, c2, c3⟩ := of_decide_eq_true hbn
            clear hbn
            obtain ⟨m3, hm3⟩ : ∃ m3 : Nat, n3 = m3 := ⟨n3.toNat, by omega⟩
            subst hm3
            have HN2 : Hid (0 ≤ n2 ∧ n2 ≤ 134217728) := ⟨c1, by omega⟩
            go_wp2_with (first
              | (go_at_call 6; go_fit (grnear_any g hs z b S ⟨n0, n1⟩ n2 (m3 : Int) _ HSN.out HOK.out.1 HNB.out HOK.out.2 HG8.out HS8.out HM8.out); rintro e w9 ⟨v9, rfl, ho9, hb9⟩; rw [Int.toNat_natCast] at ho9; obtain ⟨a9, c9, rfl, s9, -⟩ := ho9.slice; have HV9 := Lib.hid s9; have HX9 := Lib.hid (box_below HX8.out hb9); obtain ⟨x0, x1, x2, x3⟩ := box4_cells HX9.out; have HG9 := Lib.hid (HG8.out.below hb9); have HS9 := Lib.hid (HS8.out.below hb9); have HB9 := Lib.hid (HB8.out.trans (hb9.mono HB8.out.size)); clear ho9 s9 hb9)
              | (go_at_call 13; go_fit (nearest_any g hs z b S ⟨n0, n1⟩ _ HSN.out HPOS.out HBM.out HG9.out HS9.out); rintro e w10 ⟨r, rfl, hbest, hb10⟩; have HBT := Lib.hid (best_head hbest (m := 134217728 * 134217728) (fun i _ => near_all i)); have HX10 := Lib.hid (box_below HX9.out hb10); obtain ⟨x0, x1, x2, x3⟩ := box4_cells HX10.out; have HB10 := Lib.hid (HB9.out.trans (hb10.mono HB9.out.size)); have HV10 := Lib.hid (HV9.out.below hb10); clear hbest hb10)
              | (go_at_call 14; go_fit (rmay_any n0 n1 _); rintro e wm ⟨rfl, rfl⟩; rw [HBM.out])
              | (go_at_call 15; go_fit (rnear_any a _ cap S ⟨n0, n1⟩ 134217728 1 _ hn (by decide) (HS.out.below HB10.out)); rintro e w11 ⟨v11, rfl, ho11, hb11⟩; rw [HBT.out] at ho11; obtain ⟨a11, c11, rfl, s11, -⟩ := ho11.slice; obtain ⟨b11, o11, r11, rfl, -, hr11, q0⟩ := int_at s11 (i := 0) (by simp); (have hr11 : r.stop = r11 := Option.some.inj hr11); subst hr11; rw [Nat.add_zero] at q0; have HX11 := Lib.hid (box_below HX10.out hb11); obtain ⟨x0, x1, x2, x3⟩ := box4_cells HX11.out; have HB11 := Lib.hid (HB10.out.trans (hb11.mono HB10.out.size)); have HV11 := Lib.hid (HV10.out.below hb11); clear ho11 s11 hb11)
              | (go_at_call 15; go_fit (rnear_any a _ cap S ⟨n0, n1⟩ n2 m3 _ hn HN2.out (HS.out.below HB11.out)); rintro e w12 ⟨v12, rfl, ho12, hb12⟩; obtain ⟨a12, c12, rfl, s12, -⟩ := ho12.slice; have HV12 := Lib.hid s12; have HV9b := Lib.hid (HV11.out.below hb12); have HB12 := Lib.hid (HB11.out.trans (hb12.mono HB11.out.size)); clear ho12 s12 hb12)
              | (go_at_call 10; go_fit (isame_true a9 _ c9 _ a12 _ c12 _ HV9b.out HV12.out); rintro e w13 ⟨rfl, hb13⟩; have HB13 := Lib.hid (HB12.out.trans (hb13.mono HB12.out.size)); clear hb13))
            go_ret
            exact ⟨rfl, HB13.out⟩
        · have hn0 : n = 0 := by rw [HN.out]; omega
          subst hn0
          have HWHY : Hid (mayB n0 n1 = false ∨ hs.n = 0) := .inr (by rw [HS8.out.hlen, ← HN.out])
          clear hpos
          cases bn with
          | false =>
            have hno := of_decide_eq_false hbn
            have hcs : n2 < 0 ∨ (0 ≤ n2 ∧ 1048576 < n2) ∨ (0 ≤ n2 ∧ n2 ≤ 1048576 ∧ n3 < 0) := by omega
            clear hbn hno
            rcases hcs with c1 | ⟨c1, c2⟩ | ⟨c1, c2, c3⟩
            all_goals
              go_wp2_with (first
                | (go_at_call 6; go_fit (grnear_bad g hs z b n0 n1 n2 n3 _ HG8.out HNB.out); rintro e w9 ⟨rfl, hb9⟩; have HX9 := Lib.hid (box_below HX8.out hb9); obtain ⟨x0, x1, x2, x3⟩ := box4_cells HX9.out; have HG9 := Lib.hid (HG8.out.below hb9); have HS9 := Lib.hid (HS8.out.below hb9); have HB9 := Lib.hid (HB8.out.trans (hb9.mono HB8.out.size)); clear hb9)
                | (go_at_call 13; go_fit (nearest_none g hs z b n0 n1 _ HG9.out HWHY.out); rintro e w10 ⟨rfl, hb10⟩; have HX10 := Lib.hid (box_below HX9.out hb10); obtain ⟨x0, x1, x2, x3⟩ := box4_cells HX10.out; have HB10 := Lib.hid (HB9.out.trans (hb10.mono HB9.out.size)); clear hb10)
                | (go_at_call 14; go_fit (rmay_any n0 n1 _); rintro e wm ⟨rfl, rfl⟩; rw [HBM.out])
                | (go_at_call 15; go_fit (rnear_any a _ cap S ⟨n0, n1⟩ 134217728 1 _ hn (by decide) (HS.out.below HB10.out)); rintro e w11 ⟨v11, rfl, ho11, hb11⟩; obtain ⟨a11, c11, rfl, s11, -⟩ := ho11.slice; have HX11 := Lib.hid (box_below HX10.out hb11); obtain ⟨x0, x1, x2, x3⟩ := box4_cells HX11.out; have HB11 := Lib.hid (HB10.out.trans (hb11.mono HB10.out.size)); clear ho11 s11 hb11))
              go_ret
              exact ⟨rfl, HB11.out⟩
          | true =>
            obtain ⟨c1, c2, c3⟩ := of_decide_eq_true hbn
            clear hbn
            obtain ⟨m3, hm3⟩ : ∃ m3 : Nat, n3 = m3 := ⟨n3.toNat, by omega⟩
            subst hm3
            have HN2 : Hid (0 ≤ n2 ∧ n2 ≤ 134217728) := ⟨c1, by omega⟩
            go_wp2_with (first
              | (go_at_call 6; go_fit (grnear_any g hs z b S ⟨n0, n1⟩ n2 (m3 : Int) _ HSN.out HOK.out.1 HNB.out HOK.out.2 HG8.out HS8.out HM8.out); rintro e w9 ⟨v9, rfl, ho9, hb9⟩; rw [Int.toNat_natCast] at ho9; obtain ⟨a9, c9, rfl, s9, -⟩ := ho9.slice; have HV9 := Lib.hid s9; have HX9 := Lib.hid (box_below HX8.out hb9); obtain ⟨x0, x1, x2, x3⟩ := box4_cells HX9.out; have HG9 := Lib.hid (HG8.out.below hb9); have HS9 := Lib.hid (HS8.out.below hb9); have HB9 := Lib.hid (HB8.out.trans (hb9.mono HB8.out.size)); clear ho9 s9 hb9)
              | (go_at_call 13; go_fit (nearest_none g hs z b n0 n1 _ HG9.out HWHY.out); rintro e w10 ⟨rfl, hb10⟩; have HX10 := Lib.hid (box_below HX9.out hb10); obtain ⟨x0, x1, x2, x3⟩ := box4_cells HX10.out; have HB10 := Lib.hid (HB9.out.trans (hb10.mono HB9.out.size)); have HV10 := Lib.hid (HV9.out.below hb10); clear hb10)
              | (go_at_call 14; go_fit (rmay_any n0 n1 _); rintro e wm ⟨rfl, rfl⟩; rw [HBM.out])
              | (go_at_call 15; go_fit (rnear_any a _ cap S ⟨n0, n1⟩ 134217728 1 _ hn (by decide) (HS.out.below HB10.out)); rintro e w11 ⟨v11, rfl, ho11, hb11⟩; obtain ⟨a11, c11, rfl, s11, -⟩ := ho11.slice; have HX11 := Lib.hid (box_below HX10.out hb11); obtain ⟨x0, x1, x2, x3⟩ := box4_cells HX11.out; have HB11 := Lib.hid (HB10.out.trans (hb11.mono HB10.out.size)); have HV11 := Lib.hid (HV10.out.below hb11); clear ho11 s11 hb11)
              | (go_at_call 15; go_fit (rnear_any a _ cap S ⟨n0, n1⟩ n2 m3 _ hn HN2.out (HS.out.below HB11.out)); rintro e w12 ⟨v12, rfl, ho12, hb12⟩; obtain ⟨a12, c12, rfl, s12, -⟩ := ho12.slice; have HV12 := Lib.hid s12; have HV9b := Lib.hid (HV11.out.below hb12); have HB12 := Lib.hid (HB11.out.trans (hb12.mono HB11.out.size)); clear ho12 s12 hb12)
              | (go_at_call 10; go_fit (isame_true a9 _ c9 _ a12 _ c12 _ HV9b.out HV12.out); rintro e w13 ⟨rfl, hb13⟩; have HB13 := Lib.hid (HB12.out.trans (hb13.mono HB12.out.size)); clear hb13))
            go_ret
            exact ⟨rfl, HB13.out⟩
  · have HR := Lib.hid h0
    clear h0
    go_enter Try.func4, Try.ntmps4
    go_wp2_with (first
      | (go_at_call 5; go_fit (awake14_any _); rintro e w2 ⟨rfl, hb2⟩; have HB2 := Lib.hid (HB0.out.trans (hb2.mono HB0.out.size)); clear hb2)
      | (go_at_call 9; go_fit (grnew_bad a n cap S z _ (by omega) (HS.out.below HB2.out) HR.out); rintro e w3 ⟨rfl, hb3⟩; have HB3 := Lib.hid (HB2.out.trans (hb3.mono HB2.out.size)); clear hb3)
      | (go_at_call 11; go_fit (right14_any a n cap S z _ (by omega) (HS.out.below HB3.out)); rintro e w4 ⟨rfl, hb4⟩; rw [HR.out]; have HB4 := Lib.hid (HB3.out.trans (hb4.mono HB3.out.size)); clear hb4))
    go_ret
    exact ⟨rfl, HB4.out⟩
end Go.Proofs.Ytehflakmellooaa.Ne
