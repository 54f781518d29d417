/- Grids: the law GridFits: walked. -/
import Derived.Test.YtehflakmellooaaGrY
namespace Go.Proofs.Ytehflakmellooaa.Ne
open Go.RowKit Go.V Go.Proofs

abbrev n2V (a b : Int) : Value := .agg #[.int .i64 a, .int .i64 b]
abbrev n3V (a b c : Int) : Value := .agg #[.int .i64 a, .int .i64 b, .int .i64 c]

set_option maxHeartbeats 8000000 in
set_option maxRecDepth 100000 in
theorem gfits_any (a : Option Addr) (n cap : Nat) (S : List Stp) (s0 s1 x y rr : Int) (w : World) (h : Sl Stp.cod w a n cap S) :
    Calls Try.prog 3 #[.slice a n cap, n2V s0 s1, n3V x y rr] w fun e w' => e = .returned (.bool true) ∧ Below w.heap.size w w' := by
  have HN := Lib.hid h.hlen
  have hmx : n ≤ 9223372036854775807 := by have := h.hcap; have := h.hmax; unfold maxLen at this; omega
  have HS := Lib.hid h
  have HX0 := Lib.hid (box_alloc (o := .cells #[.int .i64 x, .int .i64 y, .int .i64 rr] 24) (box_new w (.cells #[.int .i64 s0, .int .i64 s1] 23)))
  have HY0 := Lib.hid (box_new (w.alloc (.cells #[.int .i64 s0, .int .i64 s1] 23)) (.cells #[.int .i64 x, .int .i64 y, .int .i64 rr] 24))
  rw [World.size_alloc] at HY0
  have HB0 : Hid (Below w.heap.size w ((w.alloc (.cells #[.int .i64 s0, .int .i64 s1] 23)).alloc (.cells #[.int .i64 x, .int .i64 y, .int .i64 rr] 24))) := ((Below.refl _ _).alloc (Nat.le_refl _) _).alloc (by simp) _
  clear h
  by_cases hbig : 200 < n
  · go_enter Try.func3, Try.ntmps3
    go_wp2_with (go_at_call 5; go_fit (awake14_any _); rintro e w2 ⟨rfl, hb2⟩; have HB2 := Lib.hid (HB0.out.trans (hb2.mono HB0.out.size)); clear hb2)
    go_ret
    exact ⟨rfl, HB2.out⟩
  have hn : n ≤ 200 := by omega
  clear hbig
  rcases rightE_cases S s0 with h0 | h0
  · have HR0 := Lib.hid h0
    have HOK0 := Lib.hid (right_ok h0)
    clear h0
    rcases rightE_cases S s1 with h1 | h1
    · have HR1 := Lib.hid h1
      have HOK1 := Lib.hid (right_ok h1)
      clear h1
      have HSN : Hid (S.length ≤ 200) := by show _ ≤ _; rw [← HN.out]; exact hn
      go_enter Try.func3, Try.ntmps3
      go_upto_region 13 with (first
        | (go_at_call 5; go_fit (awake14_any _); rintro e w2 ⟨rfl, hb2⟩; have HX2 := Lib.hid (box_below HX0.out hb2); have HY2 := Lib.hid (box_below HY0.out hb2); obtain ⟨x0, x1, -, -⟩ := box2_cells HX2.out; have HB2 := Lib.hid (HB0.out.trans (hb2.mono HB0.out.size)); clear hb2)
        | (go_at_call 6; go_fit (grnear_nil 0 0 1 1 _); rintro e w3 ⟨rfl, hb3⟩; have HX3 := Lib.hid (box_below HX2.out hb3); have HY3 := Lib.hid (box_below HY2.out hb3); have HB3 := Lib.hid (HB2.out.trans (hb3.mono HB2.out.size)); clear hb3)
        | (go_at_call 7; go_fit (grlenn_any _); rintro e w4 ⟨rfl, rfl⟩)
        | (go_at_call 8; go_fit (grcelln_any 0 0 _); rintro e w5 ⟨rfl, hb5⟩; have HX5 := Lib.hid (box_below HX3.out hb5); have HY5 := Lib.hid (box_below HY3.out hb5); obtain ⟨x0, x1, -, -⟩ := box2_cells HX5.out; have HB5 := Lib.hid (HB3.out.trans (hb5.mono HB3.out.size)); clear hb5)
        | (go_at_call 9; have _t := HB6; go_fit (gnew_ok a n cap S s1 _ hn (HS.out.below HB6.out) HR1.out); rintro e w7 ⟨g2, hs2, b2, rfl, ho7, hb7⟩; have HH7 := Lib.hid ho7; have HG7 := Lib.hid (HG6.out.below hb7); have HY7 := Lib.hid (box_below HY6.out hb7); have HB7 := Lib.hid (HB6.out.trans (hb7.mono HB6.out.size)); obtain ⟨u0, u1, u2, -, -, -⟩ := box3_cells HY7.out; clear ho7 hb7)
        | (go_at_call 9; go_fit (gnew_ok a n cap S s0 _ hn (HS.out.below HB5.out) HR0.out); rintro e w6 ⟨g1, hs1, b1, rfl, ho6, hb6⟩; have HG6 := Lib.hid ho6; have HX6 := Lib.hid (box_below HX5.out hb6); have HY6 := Lib.hid (box_below HY5.out hb6); obtain ⟨x0, x1, -, -⟩ := box2_cells HX6.out; have HB6 := Lib.hid (HB5.out.trans (hb6.mono HB5.out.size)); clear ho6 hb6))
      obtain ⟨bn, hbn⟩ : ∃ bn, nearB x y rr 1048576 = bn := ⟨_, rfl⟩
      have HNB := Lib.hid hbn
      cases bn with
      | false =>
        clear hbn
        go_wp2_with (first
          | (go_at_call 6; have _t := HB8; go_fit (grnear_bad g2 hs2 s1 b2 x y rr 1048576 _ HH8.out.box HNB.out); rintro e w9 ⟨rfl, hb9⟩; have HB9 := Lib.hid (HB8.out.trans (hb9.mono HB8.out.size)); clear hb9)
          | (go_at_call 6; go_fit (grnear_bad g1 hs1 s0 b1 x y rr 1048576 _ HG7.out.box HNB.out); rintro e w8 ⟨rfl, hb8⟩; have HH8 := Lib.hid (HH7.out.below hb8); have HY8 := Lib.hid (box_below HY7.out hb8); obtain ⟨u0, u1, u2, -, -, -⟩ := box3_cells HY8.out; have HB8 := Lib.hid (HB7.out.trans (hb8.mono HB7.out.size)); clear hb8))
        go_ret
        exact ⟨rfl, HB9.out⟩
      | true =>
        unfold nearB at hbn
        rw [Bool.and_eq_true] at hbn
        obtain ⟨hmay, hrr⟩ := hbn
        obtain ⟨r0, r1, -⟩ := of_decide_eq_true hrr
        clear hrr
        have hw1 : IntKind.i64.wrap (2 * rr) = 2 * rr := by rw [IntKind.wrap_i64]; omega
        have hw2 : IntKind.i64.wrap (2 * rr + 1) = 2 * rr + 1 := by rw [IntKind.wrap_i64]; omega
        have hm2 : rr ≤ min (2 * rr + 1) 1048576 ∧ min (2 * rr + 1) 1048576 ≤ 1048576 := by omega
        have hNB2 : nearB x y (min (2 * rr + 1) 1048576) 1048576 = true := by
          unfold nearB
          rw [hmay, Bool.true_and]
          exact decide_eq_true (by omega)
        have hpf := near_prefix (p := ⟨x, y⟩) (S := S) (m := rr * rr) (m' := min (2 * rr + 1) 1048576 * min (2 * rr + 1) 1048576) (k := 1048576) (by have := HSN.out; omega) (Int.mul_le_mul hm2.1 hm2.1 r0 (by omega))
        have hng := fun w' (hgo : GO w' g1 hs1 s0 b1 S) => gnear_ok g1 hs1 s0 b1 S ⟨x, y⟩ rr w' HSN.out HOK0.out.1 HNB.out HOK0.out.2 hgo
        have hnh := fun w' (hgo : GO w' g2 hs2 s1 b2 S) => gnear_ok g2 hs2 s1 b2 S ⟨x, y⟩ rr w' HSN.out HOK1.out.1 HNB.out HOK1.out.2 hgo
        have hnc := fun w' (hgo : GO w' g2 hs2 s1 b2 S) => gnear_ok g2 hs2 s1 b2 S ⟨x, y⟩ (min (2 * rr + 1) 1048576) w' HSN.out HOK1.out.1 hNB2 HOK1.out.2 hgo
        obtain ⟨LA, hLA⟩ : ∃ L, nearL ⟨x, y⟩ S (rr * rr) 1048576 = L := ⟨_, rfl⟩
        obtain ⟨LC, hLC⟩ : ∃ L, nearL ⟨x, y⟩ S (min (2 * rr + 1) 1048576 * min (2 * rr + 1) 1048576) 1048576 = L := ⟨_, rfl⟩
        rw [hLA, hLC] at hpf
        rw [hLA] at hng hnh
        rw [hLC] at hnc
        obtain ⟨ln, hln⟩ : ∃ k, LA.length = k := ⟨_, rfl⟩
        obtain ⟨lc, hlc⟩ : ∃ k, LC.length = k := ⟨_, rfl⟩
        rw [hln, hlc] at hpf
        rw [hln] at hng hnh
        rw [hlc] at hnc
        have HPF := Lib.hid hpf
        have HNG := Lib.hid hng
        have HNH := Lib.hid hnh
        have HNC := Lib.hid hnc
        have hpl : ¬ (lc : Int) < (ln : Int) := by have := hpf.1; omega
        have hplb : decide (lc < ln) = false := decide_eq_false (by have := hpf.1; omega)
        clear hNB2 hm2 hpf hng hnh hnc hln hlc hLA hLC hmay
        go_upto_region 20 with (first
          | (go_at_call 10; have _t := HB11; go_fit (isame_self vx ln vy LA va ln vc _ (by have q := HC11.out.upto HPF.out.1; rw [HPF.out.2] at q; exact q) HA11.out); rintro e w12 ⟨rfl, hb12⟩; have HG12 := Lib.hid (HG11.out.below hb12); have HH12 := Lib.hid (HH11.out.below hb12); have HY12 := Lib.hid (box_below HY11.out hb12); obtain ⟨u0, u1, u2, -, -, -⟩ := box3_cells HY12.out; have HB12 := Lib.hid (HB11.out.trans (hb12.mono HB11.out.size)); clear hb12)
          | (go_at_call 10; go_fit (isame_self va ln vc LA vb ln vd _ HA10.out HD10.out); rintro e w11 ⟨rfl, hb11⟩; have HA11 := Lib.hid (HA10.out.below hb11); have HC11 := Lib.hid (HC10.out.below hb11); have HG11 := Lib.hid (HG10.out.below hb11); have HH11 := Lib.hid (HH10.out.below hb11); have HY11 := Lib.hid (box_below HY10.out hb11); obtain ⟨u0, u1, u2, -, -, -⟩ := box3_cells HY11.out; have HB11 := Lib.hid (HB10.out.trans (hb11.mono HB10.out.size)); clear hb11)
          | (go_at_call 6; have _t := HB9; go_fit (HNC.out _ HH9.out); rintro e w10 ⟨vx, vy, rfl, hv10, hvd, hb10⟩; have HC10 := Lib.hid hv10; have hcs := ints_upto hv10 hvd HPF.out.1; have HA10 := Lib.hid (HA9.out.below hb10); have HD10 := Lib.hid (HD9.out.below hb10); have HG10 := Lib.hid (HG9.out.below hb10); have HH10 := Lib.hid (HH9.out.below hb10); have HY10 := Lib.hid (box_below HY9.out hb10); obtain ⟨u0, u1, u2, -, -, -⟩ := box3_cells HY10.out; have HB10 := Lib.hid (HB9.out.trans (hb10.mono HB9.out.size)); clear hv10 hvd hb10)
          | (go_at_call 6; have _t := HB8; go_fit (HNH.out _ HH8.out); rintro e w9 ⟨vb, vd, rfl, hv9, -, hb9⟩; have HD9 := Lib.hid hv9; have HA9 := Lib.hid (HA8.out.below hb9); have HG9 := Lib.hid (HG8.out.below hb9); have HH9 := Lib.hid (HH8.out.below hb9); have HY9 := Lib.hid (box_below HY8.out hb9); obtain ⟨u0, u1, u2, -, -, -⟩ := box3_cells HY9.out; have HB9 := Lib.hid (HB8.out.trans (hb9.mono HB8.out.size)); clear hv9 hb9)
          | (go_at_call 6; go_fit (HNG.out _ HG7.out); rintro e w8 ⟨va, vc, rfl, hv8, -, hb8⟩; have HA8 := Lib.hid hv8; have HG8 := Lib.hid (HG7.out.below hb8); have HH8 := Lib.hid (HH7.out.below hb8); have HY8 := Lib.hid (box_below HY7.out hb8); obtain ⟨u0, u1, u2, -, -, -⟩ := box3_cells HY8.out; have HB8 := Lib.hid (HB7.out.trans (hb8.mono HB7.out.size)); clear hv8 hb8))
        clear u0 u1 u2 hpl hw1 hw2
        go_wp2_with fail
        go_loopw [158] (fun i wr => ∃ (k : Nat), k ≤ n ∧ i = .int .i64 k ∧ Hid (GO wr g1 hs1 s0 b1 S) ∧ Hid (Below w.heap.size w wr)) (fun i _ => n - (intOf i).toNat)
        case atStart => exact ⟨0, by omega, rfl, HG12.out, HB12.out⟩
        case round =>
          obtain ⟨k, hk, rfl, hgo, hb⟩ := hrel
          by_cases hlt : k < n
          · have hltz : (k : Int) < (n : Int) := by omega
            obtain ⟨bs, off, r, rfl, hbs, hrk, c0, c1⟩ := stp_at (HS.out.below hb.out) hlt
            obtain ⟨wo, hwo⟩ : ∃ wo, wo = wr := ⟨_, rfl⟩
            subst hwo
            have HRK := Lib.hid hrk
            have hh := near_here hrk HOK0.out.2 (K := 1048576) (by have := HSN.out; omega)
            have HHK := Lib.hid hh.1
            have HHA := Lib.hid hh.2
            have hnb : nearB r.x r.y 0 1048576 = true := by
              unfold nearB
              rw [show mayB r.x r.y = true from HOK0.out.2 r (List.mem_of_getElem? hrk)]
              rfl
            have hnr := fun w' (hgo : GO w' g1 hs1 s0 b1 S) => gnear_ok g1 hs1 s0 b1 S r 0 w' HSN.out HOK0.out.1 hnb HOK0.out.2 hgo
            rw [show ((0 : Int) * 0) = 0 from rfl] at hnr
            obtain ⟨L, hL⟩ : ∃ L, nearL r S 0 1048576 = L := ⟨_, rfl⟩
            rw [hL] at hnr HHK HHA
            obtain ⟨ll, hll⟩ : ∃ k, L.length = k := ⟨_, rfl⟩
            have HLL := Lib.hid hll
            rw [hll] at hnr
            have HNR := Lib.hid hnr
            have hl200 : ll ≤ 200 := by rw [← hll, ← hL]; have := near_nums (p := r) (S := S) (m := 0) (K := 1048576); have := HSN.out; omega
            have hszo : w.heap.size ≤ wo.heap.size := hb.out.size
            have HXB := Lib.hid (box_new wo (.cells #[.int .i64 r.x, .int .i64 r.y] 38))
            have HGB := Lib.hid (hgo.out.below ((Below.refl _ _).alloc (Nat.le_refl _) (.cells #[.int .i64 r.x, .int .i64 r.y] 38)))
            have HBB : Hid (Below w.heap.size w (wo.alloc (.cells #[.int .i64 r.x, .int .i64 r.y] 38))) := hb.out.alloc hszo _
            clear hh hnb hnr hL hll hrk
            go_upto_block 2 with (go_at_call 6; go_fit (HNR.out _ HGB.out); rintro e w13 ⟨va3, vc3, rfl, hv13, -, hb13⟩; have HV13 := Lib.hid hv13; have HX13 := Lib.hid (box_below HXB.out hb13); have HG13 := Lib.hid (HGB.out.below hb13); have HB13 := Lib.hid (HBB.out.trans (hb13.mono HBB.out.size)); clear hv13 hb13)
            go_wp2_with fail
            go_loopw [24, 174] (fun fv i wr => ∃ (j : Nat), j ≤ ll ∧ i = .int .i64 j ∧ fv = .bool (decide ((k : Int) ∈ L.take j)) ∧ Hid (Below w13.heap.size w13 wr)) (fun _ i _ => ll - (intOf i).toNat)
            case atStart => exact ⟨0, by omega, rfl, by simp, Below.refl _ _⟩
            case round =>
              obtain ⟨j, hj, rfl, rfl, hb2⟩ := hrel
              by_cases hjl : j < ll
              · have hjz : (j : Int) < (ll : Int) := by omega
                obtain ⟨bv, ov, mv, rfl, hbv, hmv, e0⟩ := int_at (HV13.out.below hb2.out) hjl
                obtain ⟨m, rfl, hms⟩ := HHA.out mv (List.mem_of_getElem? hmv)
                have HBw : Hid (Below w.heap.size w wr) := HB13.out.trans (hb2.out.mono HB13.out.size)
                have hmS : m < S.length := (List.getElem?_eq_some_iff.1 hms).1
                have hmn : m < n := by rw [HN.out]; exact hmS
                have hmz : (m : Int) < (n : Int) := by omega
                obtain ⟨bs', off', r', hba, hbs', hrm, d0, d1⟩ := stp_at (HS.out.below HBw.out) hmn
                cases hba
                rw [hms] at hrm
                cases hrm
                have HXw := Lib.hid (box_below HX13.out hb2.out)
                obtain ⟨y0, y1, -, -⟩ := box2_cells HXw.out
                have hxl := box_lt HXw.out
                have HTN : Hid ((decide ((k : Int) ∈ L.take j) || ((m : Int) == (k : Int))) = decide ((k : Int) ∈ L.take (j + 1))) := by
                  show _ = _
                  rw [take_at hmv, Bool.eq_iff_iff]
                  simp only [Bool.or_eq_true, decide_eq_true_eq, beq_iff_eq, List.mem_append, List.mem_singleton]
                  constructor
                  · rintro (h | h)
                    · exact .inl h
                    · exact .inr h.symm
                  · rintro (h | h)
                    · exact .inl h
                    · exact .inr h.symm
                obtain ⟨fj, hfj⟩ : ∃ f, decide ((k : Int) ∈ L.take j) = f := ⟨_, rfl⟩
                rw [hfj] at HTN ⊢
                clear hmv hms hfj
                cases fj with
                | true =>
                  go_upto_region 29 with fail
                  go_region_held3 (fun w' => w'.cell? ⟨bs, off + m * 2, none⟩ = some (.int .i64 r.x) ∧ w'.cell? ⟨bs, off + m * 2 + 1, none⟩ = some (.int .i64 r.y) ∧ w'.cell? ⟨wo.heap.size, 0, none⟩ = some (.int .i64 r.x) ∧ w'.cell? ⟨wo.heap.size, 1, none⟩ = some (.int .i64 r.y)) (go_keep) (fail)
                  all_goals
                    go_wp2_with fail
                    go_roundw
                    case rel => exact ⟨j + 1, by omega, by go_num, by rw [← HTN.out]; rfl, Below.drew hb2.out⟩
                    case measure => simp [intOf]; omega
                | false =>
                  go_upto_region 29 with fail
                  go_region_held3 (fun w' => w'.cell? ⟨bs, off + m * 2, none⟩ = some (.int .i64 r.x) ∧ w'.cell? ⟨bs, off + m * 2 + 1, none⟩ = some (.int .i64 r.y) ∧ w'.cell? ⟨wo.heap.size, 0, none⟩ = some (.int .i64 r.x) ∧ w'.cell? ⟨wo.heap.size, 1, none⟩ = some (.int .i64 r.y)) (go_keep) (fail)
                  all_goals
                    go_wp2_with fail
                    go_roundw
                    case rel => exact ⟨j + 1, by omega, by go_num, by rw [← HTN.out]; rfl, Below.drew hb2.out⟩
                    case measure => simp [intOf]; omega
              · have hjn : j = ll := by omega
                have hlt2 : decide ((k : Int) ∈ L.take j) = true := decide_eq_true (by rw [hjn, List.take_of_length_le (by rw [HLL.out]; exact Nat.le_refl _)]; exact HHK.out)
                rw [hlt2]
                clear hlt2 hjn
                go_wp2_with fail
                go_roundw
                case rel => exact ⟨k + 1, by omega, by go_num, HG13.out.below hb2.out, HB13.out.trans (hb2.out.mono HB13.out.size)⟩
                case measure => simp [intOf]; omega
          · have hkn : k = n := by omega
            go_wp2_with fail
            go_ret
            exact ⟨rfl, hb.out⟩
    · have HR1 := Lib.hid h1
      clear h1
      go_enter Try.func3, Try.ntmps3
      go_wp2_with (first
        | (go_at_call 5; go_fit (awake14_any _); rintro e w2 ⟨rfl, hb2⟩; have HX2 := Lib.hid (box_below HX0.out hb2); have HY2 := Lib.hid (box_below HY0.out hb2); obtain ⟨x0, x1, -, -⟩ := box2_cells HX2.out; have HB2 := Lib.hid (HB0.out.trans (hb2.mono HB0.out.size)); clear hb2)
        | (go_at_call 6; go_fit (grnear_nil 0 0 1 1 _); rintro e w3 ⟨rfl, hb3⟩; have HX3 := Lib.hid (box_below HX2.out hb3); have HY3 := Lib.hid (box_below HY2.out hb3); have HB3 := Lib.hid (HB2.out.trans (hb3.mono HB2.out.size)); clear hb3)
        | (go_at_call 7; go_fit (grlenn_any _); rintro e w4 ⟨rfl, rfl⟩)
        | (go_at_call 8; go_fit (grcelln_any 0 0 _); rintro e w5 ⟨rfl, hb5⟩; have HX5 := Lib.hid (box_below HX3.out hb5); have HY5 := Lib.hid (box_below HY3.out hb5); obtain ⟨x0, x1, -, -⟩ := box2_cells HX5.out; have HB5 := Lib.hid (HB3.out.trans (hb5.mono HB3.out.size)); clear hb5)
        | (go_at_call 9; have _t := HB6; go_fit (grnew_bad a n cap S s1 _ hn (HS.out.below HB6.out) HR1.out); rintro e w7 ⟨rfl, hb7⟩; have HB7 := Lib.hid (HB6.out.trans (hb7.mono HB6.out.size)); clear hb7)
        | (go_at_call 9; go_fit (gnew_ok a n cap S s0 _ hn (HS.out.below HB5.out) HR0.out); rintro e w6 ⟨g1, hs1, b1, rfl, ho6, hb6⟩; have HG6 := Lib.hid ho6; have HX6 := Lib.hid (box_below HX5.out hb6); have HY6 := Lib.hid (box_below HY5.out hb6); obtain ⟨x0, x1, -, -⟩ := box2_cells HX6.out; have HB6 := Lib.hid (HB5.out.trans (hb6.mono HB5.out.size)); clear ho6 hb6))
      go_ret
      exact ⟨rfl, HB7.out⟩
  · have HR0 := Lib.hid h0
    clear h0
    rcases rightE_cases S s1 with h1 | h1
    · have HR1 := Lib.hid h1
      clear h1
      go_enter Try.func3, Try.ntmps3
      go_wp2_with (first
        | (go_at_call 5; go_fit (awake14_any _); rintro e w2 ⟨rfl, hb2⟩; have HX2 := Lib.hid (box_below HX0.out hb2); have HY2 := Lib.hid (box_below HY0.out hb2); obtain ⟨x0, x1, -, -⟩ := box2_cells HX2.out; have HB2 := Lib.hid (HB0.out.trans (hb2.mono HB0.out.size)); clear hb2)
        | (go_at_call 6; go_fit (grnear_nil 0 0 1 1 _); rintro e w3 ⟨rfl, hb3⟩; have HX3 := Lib.hid (box_below HX2.out hb3); have HY3 := Lib.hid (box_below HY2.out hb3); have HB3 := Lib.hid (HB2.out.trans (hb3.mono HB2.out.size)); clear hb3)
        | (go_at_call 7; go_fit (grlenn_any _); rintro e w4 ⟨rfl, rfl⟩)
        | (go_at_call 8; go_fit (grcelln_any 0 0 _); rintro e w5 ⟨rfl, hb5⟩; have HX5 := Lib.hid (box_below HX3.out hb5); have HY5 := Lib.hid (box_below HY3.out hb5); obtain ⟨x0, x1, -, -⟩ := box2_cells HX5.out; have HB5 := Lib.hid (HB3.out.trans (hb5.mono HB3.out.size)); clear hb5)
        | (go_at_call 9; have _t := HB6; go_fit (gnew_ok a n cap S s1 _ hn (HS.out.below HB6.out) HR1.out); rintro e w7 ⟨g2, hs2, b2, rfl, ho7, hb7⟩; have HH7 := Lib.hid ho7; have HY7 := Lib.hid (box_below HY6.out hb7); have HB7 := Lib.hid (HB6.out.trans (hb7.mono HB6.out.size)); obtain ⟨u0, u1, u2, -, -, -⟩ := box3_cells HY7.out; clear ho7 hb7)
        | (go_at_call 9; go_fit (grnew_bad a n cap S s0 _ hn (HS.out.below HB5.out) HR0.out); rintro e w6 ⟨rfl, hb6⟩; have HX6 := Lib.hid (box_below HX5.out hb6); have HY6 := Lib.hid (box_below HY5.out hb6); obtain ⟨x0, x1, -, -⟩ := box2_cells HX6.out; have HB6 := Lib.hid (HB5.out.trans (hb6.mono HB5.out.size)); clear hb6))
      go_ret
      exact ⟨rfl, HB7.out⟩
    · have HR1 := Lib.hid h1
      clear h1
      go_enter Try.func3, Try.ntmps3
      go_wp2_with (first
        | (go_at_call 5; go_fit (awake14_any _); rintro e w2 ⟨rfl, hb2⟩; have HX2 := Lib.hid (box_below HX0.out hb2); have HY2 := Lib.hid (box_below HY0.out hb2); obtain ⟨x0, x1, -, -⟩ := box2_cells HX2.out; have HB2 := Lib.hid (HB0.out.trans (hb2.mono HB0.out.size)); clear hb2)
        | (go_at_call 6; go_fit (grnear_nil 0 0 1 1 _); rintro e w3 ⟨rfl, hb3⟩; have HX3 := Lib.hid (box_below HX2.out hb3); have HY3 := Lib.hid (box_below HY2.out hb3); have HB3 := Lib.hid (HB2.out.trans (hb3.mono HB2.out.size)); clear hb3)
        | (go_at_call 7; go_fit (grlenn_any _); rintro e w4 ⟨rfl, rfl⟩)
        | (go_at_call 8; go_fit (grcelln_any 0 0 _); rintro e w5 ⟨rfl, hb5⟩; have HX5 := Lib.hid (box_below HX3.out hb5); have HY5 := Lib.hid (box_below HY3.out hb5); obtain ⟨x0, x1, -, -⟩ := box2_cells HX5.out; have HB5 := Lib.hid (HB3.out.trans (hb5.mono HB3.out.size)); clear hb5)
        | (go_at_call 9; have _t := HB6; go_fit (grnew_bad a n cap S s1 _ hn (HS.out.below HB6.out) HR1.out); rintro e w7 ⟨rfl, hb7⟩; have HB7 := Lib.hid (HB6.out.trans (hb7.mono HB6.out.size)); clear hb7)
        | (go_at_call 9; go_fit (grnew_bad a n cap S s0 _ hn (HS.out.below HB5.out) HR0.out); rintro e w6 ⟨rfl, hb6⟩; have HX6 := Lib.hid (box_below HX5.out hb6); have HY6 := Lib.hid (box_below HY5.out hb6); obtain ⟨x0, x1, -, -⟩ := box2_cells HX6.out; have HB6 := Lib.hid (HB5.out.trans (hb6.mono HB5.out.size)); clear hb6))
      go_ret
      exact ⟨rfl, HB7.out⟩
end Go.Proofs.Ytehflakmellooaa.Ne
