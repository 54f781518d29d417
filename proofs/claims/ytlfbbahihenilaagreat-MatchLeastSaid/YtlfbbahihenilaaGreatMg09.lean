/- Grids: the stops around a place: walked. -/
/- Grids: Near: walked. -/
import Derived.Test.YtlfbbahihenilaaGreatMg08
namespace Go.Proofs.YtlfbbahihenilaaGreat.Ne
open Go.RowKit Go.V Go.Proofs

theorem grb_of_below {w w1 : World} {r : Option Nat} (h : Below w.heap.size w w1) : w.grownBy w1 r := ⟨h.os, h.tape, h.output, h.size, fun i hi _ => h.block i hi⟩
def fillL (n k : Nat) : List Int := (List.range n).map fun i : Nat => if i < k then (i : Int) else 0
theorem fill_zero (n : Nat) : fillL n 0 = List.replicate n 0 := by
  refine List.ext_getElem (by simp [fillL]) fun i h1 h2 => ?_
  simp [fillL]
theorem fill_all (n : Nat) : fillL n n = upL n := by
  refine List.ext_getElem (by simp [fillL, upL]) fun i h1 h2 => ?_
  have : i < n := by simpa [fillL] using h1
  simp [fillL, upL, this]
theorem fill_set {n k : Nat} : (fillL n k).set k (k : Int) = fillL n (k + 1) := by
  refine List.ext_getElem (by simp [fillL]) fun i h1 h2 => ?_
  simp only [fillL, List.getElem_set, List.getElem_map, List.getElem_range]
  by_cases h : k = i
  · subst h; simp
  · rw [if_neg h]
    by_cases q : i < k
    · rw [if_pos q, if_pos (by omega)]
    · rw [if_neg q, if_neg (by omega)]
theorem fill_len (n k : Nat) : (fillL n k).length = n := by simp [fillL]
theorem tabL_len {r : Nat} (hr : r ≤ 6) : (tabL r).length ≤ 49 := by
  unfold tabL
  split
  · simp
  · simp; omega
theorem rings_len : ∀ r : Nat, r ≤ 7 → ((List.range r).flatMap tabL).length ≤ r * 49
  | 0, _ => by simp
  | r + 1, h => by
    rw [List.range_succ, List.flatMap_append, List.length_append]
    have := rings_len r (by omega)
    have := tabL_len (r := r) (by omega)
    simp only [List.flatMap_cons, List.flatMap_nil, List.append_nil]
    omega
theorem cellsL_app (S : List Stp) (z X Y : Int) (a c : List (Int × Int)) : cellsL S z X Y (a ++ c) = cellsL S z X Y a ++ cellsL S z X Y c := by
  unfold cellsL
  rw [List.flatMap_append]
theorem cellsL_len (S : List Stp) (z X Y : Int) : ∀ cs : List (Int × Int), (cellsL S z X Y cs).length ≤ cs.length * S.length
  | [] => by simp [cellsL]
  | c :: cs => by
    have := cellsL_len S z X Y cs
    have := idxs_len S z (X + c.1) (Y + c.2)
    unfold cellsL at *
    rw [List.flatMap_cons, List.length_append, List.length_cons, Nat.add_mul]
    omega
theorem amE_app (p : Stp) (S : List Stp) (m : Int) (a c : List Int) : amE p S m (a ++ c) = amE p S m a ++ amE p S m c := by
  unfold amE
  rw [List.map_append, List.filter_append]

set_option maxHeartbeats 8000000 in
set_option maxRecDepth 100000 in
theorem garound_any (g : Nat) (hs : Hdr) (z : Int) (b : Nat) (S : List Stp) (p : Stp) (reach : Int) (w : World)
    (hn : S.length ≤ 200) (hz : 1 ≤ z ∧ z ≤ 67108864) (hr : 0 ≤ reach ∧ reach ≤ 1048576) (hp : stpB p = true) (hS : ∀ s ∈ S, stpB s = true)
    (h : GBox w g hs z b) (hsl : Sl Stp.cod w hs.a hs.n hs.cap S) (hm : GMap w b (idxs S z)) :
    Calls Tryz.prog 105 #[gP g, p.val, .int .i64 reach] w fun e w' => ∃ v L, e = .returned v ∧ GoodL p S (reach * reach) L ∧ V.Own 173 Fnd.cod w.heap.size w' v L ∧ Below w.heap.size w w' := by
  obtain ⟨hz1, hz2⟩ := hz
  obtain ⟨hr1, hr2⟩ := hr
  have hN := hsl.hlen
  have HN := Lib.hid hN
  have hnn : hs.n ≤ 200 := by omega
  have hpb := of_decide_eq_true hp
  obtain ⟨px0, px1, py0, py1⟩ := hpb
  have hd0 : 0 ≤ reach / z := Int.ediv_nonneg hr1 (by omega)
  have hd1 := Int.ediv_le_self z hr1
  obtain ⟨R, hR⟩ : ∃ R : Nat, (R : Int) = reach / z + 1 := ⟨(reach / z).toNat + 1, by omega⟩
  have HGC : Hid (R ≤ 6 → GoodL p S (reach * reach) (amE p S (reach * reach) (cellsL S z (p.x / z) (p.y / z) (squareL R)))) := fun h6 => good_cells hp hS hz1 hr1 hR h6
  have HGA : Hid (GoodL p S (reach * reach) (amE p S (reach * reach) (upL S.length))) := good_all p S _
  obtain ⟨d, hd⟩ : ∃ d, reach / z = d := ⟨_, rfl⟩
  rw [hd] at hR hd0 hd1
  have hw1 : IntKind.i64.wrap (reach.tdiv z) = d := by rw [Int.tdiv_eq_ediv_of_nonneg hr1, hd, IntKind.wrap_i64]; omega
  have hw2 : IntKind.i64.wrap (d + 1) = (R : Int) := by rw [IntKind.wrap_i64]; omega
  have hmm : 0 ≤ reach * reach ∧ reach * reach ≤ 1099511627776 := ⟨Int.mul_nonneg hr1 hr1, by have := Int.mul_le_mul hr2 hr2 hr1 (by decide); omega⟩
  obtain ⟨M, hM⟩ : ∃ M, reach * reach = M := ⟨_, rfl⟩
  have hw3 : IntKind.i64.wrap (reach * reach) = M := by rw [hM, IntKind.wrap_i64]; omega
  rw [hM] at HGC HGA hmm ⊢
  have hz0 : z ≠ 0 := by omega
  have HX0 : Hid ((w.alloc (.cells #[.int .i64 p.x, .int .i64 p.y] 70)).heap[w.heap.size]? = some (.cells #[.int .i64 p.x, .int .i64 p.y] 70 (0, 0))) := box_new _ _
  have HB0 : Hid (Below w.heap.size w (w.alloc (.cells #[.int .i64 p.x, .int .i64 p.y] 70))) := (Below.refl _ _).alloc (Nat.le_refl _) _
  have HG := Lib.hid h
  have HS := Lib.hid hsl
  have HM := Lib.hid hm
  obtain ⟨h0, h1, h2, h3⟩ := h.cells
  have hRb : (R : Int) ≤ 1048577 := by omega
  obtain ⟨Q, hQ⟩ : ∃ Q, (2 * (R : Int) + 1) * (2 * (R : Int) + 1) = Q := ⟨_, rfl⟩
  obtain ⟨bb, hbb⟩ : ∃ bb, decide (64 < (R : Int) ∨ (hs.n : Int) < Q) = bb := ⟨_, rfl⟩
  have HBB := Lib.hid hbb
  have HQ := Lib.hid hQ
  have hwa : IntKind.i64.wrap (2 * (R : Int)) = 2 * (R : Int) := by rw [IntKind.wrap_i64]; omega
  have hwb : IntKind.i64.wrap (2 * (R : Int) + 1) = 2 * (R : Int) + 1 := by rw [IntKind.wrap_i64]; omega
  have hwc : IntKind.i64.wrap ((2 * (R : Int) + 1) * (2 * (R : Int) + 1)) = Q := by
    have : 0 ≤ (2 * (R : Int) + 1) * (2 * (R : Int) + 1) ∧ (2 * (R : Int) + 1) * (2 * (R : Int) + 1) ≤ 2097155 * 2097155 := ⟨Int.mul_nonneg (by omega) (by omega), Int.mul_le_mul (by omega) (by omega) (by omega) (by omega)⟩
    rw [hQ] at this ⊢
    rw [IntKind.wrap_i64]; omega
  clear hbb hQ h hsl hm hd hR hM hN
  go_enter Tryz.func105, Tryz.ntmps105
  go_upto_region 3 with fail
  go_cut [44] (fun v wx => v = .bool bb ∧ (w.alloc (.cells #[.int .i64 p.x, .int .i64 p.y] 70)) = wx)
  case first =>
    by_cases h64 : 64 < (R : Int)
    · have hbt : true = bb := by rw [← HBB.out]; symm; exact decide_eq_true (.inl h64)
      subst hbt
      go_wp2_with fail
      go_meet
      exact ⟨rfl, rfl⟩
    · by_cases hq : (hs.n : Int) < Q
      · have hbt : true = bb := by rw [← HBB.out]; symm; exact decide_eq_true (.inr hq)
        subst hbt
        go_wp2_with fail
        go_meet
        exact ⟨rfl, rfl⟩
      · have hbt : false = bb := by rw [← HBB.out]; symm; exact decide_eq_false (fun e => by rcases e with e | e; exact h64 e; exact hq e)
        subst hbt
        go_wp2_with fail
        go_meet
        exact ⟨rfl, rfl⟩
  obtain ⟨rfl, rfl⟩ := hcut
  cases bb with
  | true =>
    clear hwa hwb hwc
    obtain ⟨y0, y1, -, -⟩ := box2_cells HX0.out
    have hmk := Ir.make_any hs.n (by omega)
    go_wp2_with fail
    have HO0 : Hid (V.Own 3 icod (w.heap.size + 1) ((w.alloc (.cells #[.int .i64 p.x, .int .i64 p.y] 70)).alloc (.cells (madeCells #[.int .i64 0] hs.n) 3)) (.slice (some ⟨w.heap.size + 1, 0, none⟩) hs.n hs.n) (fillL hs.n 0)) := by
      have := Ir.own_made (w.alloc (.cells #[.int .i64 p.x, .int .i64 p.y] 70)) hs.n (w.heap.size + 1) (by simp) (by unfold maxLen; omega)
      rw [World.size_alloc, ← fill_zero] at this
      exact this
    have HB1 : Hid (Below (w.heap.size + 1) (w.alloc (.cells #[.int .i64 p.x, .int .i64 p.y] 70)) ((w.alloc (.cells #[.int .i64 p.x, .int .i64 p.y] 70)).alloc (.cells (madeCells #[.int .i64 0] hs.n) 3))) := (Below.refl _ _).alloc (by simp) _
    go_loopw [53] (fun i wr => ∃ (k : Nat), k ≤ hs.n ∧ i = .int .i64 k ∧ Hid (V.Own 3 icod (w.heap.size + 1) wr (.slice (some ⟨w.heap.size + 1, 0, none⟩) hs.n hs.n) (fillL hs.n k)) ∧ Hid (Below (w.heap.size + 1) (w.alloc (.cells #[.int .i64 p.x, .int .i64 p.y] 70)) wr)) (fun i _ => hs.n - (intOf i).toNat)
    case atStart => exact ⟨0, by omega, rfl, HO0.out, HB1.out⟩
    case round =>
      obtain ⟨k, hk, rfl, ho, hb⟩ := hrel
      by_cases hlt : k < hs.n
      · obtain ⟨d0, -, c0, f0, hbl⟩ := Ir.icells ho.out (by rw [fill_len]) hlt
        have hltz : (k : Int) < hs.n := by omega
        have hst := Ir.iset ho.out (by rw [fill_len]) k (k : Int)
        rw [fill_set] at hst
        have HST := Lib.hid hst
        clear hst
        go_wp2_with fail
        go_roundw
        case rel => exact ⟨k + 1, by omega, by go_num, HST.out.1, hb.out.trans (below_of_grb HST.out.2 (fun k' hk' => by cases hk'; exact Nat.le_refl _) (by have := hb.out.size; simp at this; omega))⟩
        case measure => simp [intOf]; omega
      · have hk' : k = hs.n := by omega
        have HK := Lib.hid hk'
        clear hk'
        have hwr : w.heap.size + 1 ≤ wr.heap.size := by have := hb.out.size; simp at this; omega
        have HBW : Hid (Below w.heap.size w wr) := HB0.out.trans (hb.out.mono (Nat.le_succ _))
        have HXr : Hid (wr.heap[w.heap.size]? = some (.cells #[.int .i64 p.x, .int .i64 p.y] 70 (0, 0))) := (hb.out.block w.heap.size (Nat.lt_succ_self _)).trans HX0.out
        have HGr := Lib.hid (HG.out.below HBW.out)
        have HSr := Lib.hid (HS.out.below HBW.out)
        obtain ⟨e1, e2, e3, e4⟩ := HGr.out.cells
        obtain ⟨z0, z1, -, -⟩ := box2_cells HXr.out
        have HLr : Hid (Sl icod wr (some ⟨w.heap.size + 1, 0, none⟩) hs.n hs.n (upL S.length)) := by
          have o := ho.out
          rw [HK.out, fill_all] at o
          obtain ⟨a', c', e', s', -⟩ := o.slice
          have hl : (upL hs.n).length = hs.n := by simp [upL]
          rw [hl] at e' s'
          cases e'
          rw [← HN.out]
          exact s'
        go_wp2_with (go_at_call 113; go_fit (gram_any g hs z b S p M wr.heap.size noRow [] (some ⟨w.heap.size + 1, 0, none⟩) hs.n hs.n (upL S.length) wr (Nat.le_refl _) (by simp; omega) (by intro i hi; obtain ⟨j, hj, rfl⟩ := List.mem_map.1 hi; exact ⟨j, rfl, List.mem_range.1 hj⟩) HGr.out e1 HSr.out (fun d hd hc => (HSr.out.hat d hd hc).2.1) (World.ownsRow_nil _ _ _ _) HLr.out (fun d hd hc => (HLr.out.hat d hd hc).2.1)); rintro e w5 ⟨v5, rfl, ho5, hg5, -⟩; have HO5 := Lib.hid ho5; have HG5 := Lib.hid hg5; clear ho5 hg5)
        go_ret
        exact ⟨_, _, rfl, HGA.out, by have := HO5.out; rw [List.nil_append] at this; exact this.lower (by omega), HBW.out.trans (below_of_grb HG5.out (fun k' hk' => nomatch hk') (by omega))⟩
  | false =>
    have hnot := of_decide_eq_false HBB.out
    have hQn : Q ≤ (hs.n : Int) := by
      rcases Int.lt_or_le (hs.n : Int) Q with q | q
      · exact absurd (.inr q) hnot
      · exact q
    have hR6 : R ≤ 6 := by
      rcases Nat.lt_or_ge 6 R with q | q
      · have := Int.mul_le_mul (show (15 : Int) ≤ 2 * (R : Int) + 1 by omega) (show (15 : Int) ≤ 2 * (R : Int) + 1 by omega) (by omega) (by omega)
        rw [HQ.out] at this
        omega
      · exact q
    clear hnot hQn hwa hwb hwc
    obtain ⟨y0, y1, -, -⟩ := box2_cells HX0.out
    have hpx : 0 ≤ p.x ∧ p.x < 67108864 := ⟨px0, px1⟩
    have hpy : 0 ≤ p.y ∧ p.y < 67108864 := ⟨py0, py1⟩
    obtain ⟨-, bX⟩ := quo_in hpx hz1
    obtain ⟨-, bY⟩ := quo_in hpy hz1
    have HPX : Hid (0 ≤ p.x ∧ p.x < 67108864) := hpx
    have HPY : Hid (0 ≤ p.y ∧ p.y < 67108864) := hpy
    have HGD := Lib.hid (HGC.out hR6)
    obtain ⟨X, hX⟩ : ∃ X, p.x / z = X := ⟨_, rfl⟩
    obtain ⟨Y, hY⟩ : ∃ Y, p.y / z = Y := ⟨_, rfl⟩
    rw [hX] at bX HGD
    rw [hY] at bY HGD
    have HXY : Hid (p.x / z = X ∧ p.y / z = Y) := ⟨hX, hY⟩
    clear hX hY hpx hpy px0 px1 py0 py1
    go_upto_block 2 with (go_at_call 82; go_fit (grat_any g hs z b p.x p.y _ (HG.out.below HB0.out) hz1 HPX.out HPY.out); rintro e w2 ⟨rfl, hb2⟩; rw [HXY.out.1, HXY.out.2]; have HB2 := Lib.hid hb2; clear hb2)
    have hs20 : w.heap.size + 1 ≤ w2.heap.size := by have := HB2.out.size; simp at this; omega
    have HBW2 : Hid (Below w.heap.size w (w2.alloc (.cells #[.int .i64 X, .int .i64 Y] 151))) := (HB0.out.trans (HB2.out.mono (by simp))).alloc (by omega) _
    have HX2 : Hid ((w2.alloc (.cells #[.int .i64 X, .int .i64 Y] 151)).heap[w.heap.size]? = some (.cells #[.int .i64 p.x, .int .i64 p.y] 70 (0, 0))) := box_alloc (box_below HX0.out HB2.out)
    have HZ2 : Hid ((w2.alloc (.cells #[.int .i64 X, .int .i64 Y] 151)).heap[w2.heap.size]? = some (.cells #[.int .i64 X, .int .i64 Y] 151 (0, 0))) := box_new _ _
    have hs2 : (w2.alloc (.cells #[.int .i64 X, .int .i64 Y] 151)).heap.size = w2.heap.size + 1 := by simp
    obtain ⟨W2, hW2⟩ : ∃ W2, w2.alloc (.cells #[.int .i64 X, .int .i64 Y] 151) = W2 := ⟨_, rfl⟩
    rw [hW2] at HBW2 HX2 HZ2 hs2 ⊢
    clear hW2
    have hlw : w.heap.size ≤ W2.heap.size := by omega
    have hgw : g < W2.heap.size := by omega
    have HLO : Hid (∀ cs : List (Int × Int), cs.length ≤ 400 → (amE p S M (cellsL S z X Y cs)).length ≤ 80000) := fun cs hcs => by
      have a1 := amE_len p S M (cellsL S z X Y cs)
      have a2 := cellsL_len S z X Y cs
      have a3 : cs.length * S.length ≤ 400 * 200 := Nat.mul_le_mul hcs hn
      omega
    go_wp2_with fail
    go_loopw [11, 13] (fun v i wr => ∃ (r : Nat) (vo : Value), vo = v ∧ r ≤ R + 1 ∧ i = .int .i64 r ∧ Hid (V.Own 173 Fnd.cod W2.heap.size wr v (amE p S M (cellsL S z X Y ((List.range r).flatMap tabL)))) ∧ Hid (Below W2.heap.size W2 wr)) (fun _ i _ => R + 1 - (intOf i).toNat)
    case atStart => exact ⟨0, _, rfl, by omega, rfl, World.ownsRow_nil _ _ _ _, Below.refl _ _⟩
    case round =>
      obtain ⟨r, v, rfl, hrR, rfl, ho, hb⟩ := hrel
      by_cases hlt : r ≤ R
      · have hltz : (r : Int) ≤ (R : Int) := by omega
        have hr6 : r ≤ 6 := by omega
        have hTL := tabL_len hr6
        go_upto_block 4 with (go_at_call 114; go_fit (ring_any r _ hr6); rintro e w3 ⟨vr, rfl, ho3, hb3⟩; obtain ⟨ra, rc, rfl, hsr, -⟩ := ho3.slice; have HR3 := Lib.hid ho3; have HB3 := Lib.hid hb3; clear ho3 hb3 hsr)
        have HO3 := Lib.hid (ho.out.below HB3.out)
        have HBB3 : Hid (Below W2.heap.size W2 w3) := hb.out.trans (HB3.out.mono hb.out.size)
        have HA3 : Hid (Apart v (.slice ra (tabL r).length rc)) := by
          show Apart _ _
          unfold Apart
          cases hv : v.ownBlock with
          | none => exact .inl rfl
          | some k1 =>
            refine .inr fun e => ?_
            have q1 := (World.ownsRow.lt ho.out k1 hv).2
            have q2 := (World.ownsRow.lt HR3.out k1 e.symm).1
            omega
        have HTL := Lib.hid hTL
        obtain ⟨tn, htn⟩ : ∃ tn, (tabL r).length = tn := ⟨_, rfl⟩
        rw [htn] at hTL HA3 ⊢
        have HTN := Lib.hid htn
        clear htn
        have hb1w : wr.heap.size ≤ w3.heap.size := HB3.out.size
        obtain ⟨B1, hB1⟩ : ∃ B1, wr.heap.size = B1 := ⟨_, rfl⟩
        rw [hB1] at HR3 hb1w
        have HR3' : Hid (V.Own 151 ccod B1 w3 (.slice ra tn rc) (tabL r)) := by have := HR3.out; rw [HTN.out] at this; exact this
        have hBB1 : W2.heap.size ≤ B1 := by rw [← hB1]; exact hb.out.size
        clear HR3 hB1
        go_wp2_with fail
        go_loopw [11, 84] (fun v i wr => ∃ (j : Nat) (vo : Value), vo = v ∧ j ≤ tn ∧ i = .int .i64 j ∧ Hid (V.Own 173 Fnd.cod W2.heap.size wr v (amE p S M (cellsL S z X Y ((List.range r).flatMap tabL ++ (tabL r).take j)))) ∧ Hid (V.Own 151 ccod B1 wr (.slice ra tn rc) (tabL r)) ∧ Hid (Apart v (.slice ra tn rc)) ∧ Hid (Below W2.heap.size W2 wr)) (fun _ i _ => tn - (intOf i).toNat)
        case atStart => exact ⟨0, _, rfl, by omega, rfl, by show V.Own _ _ _ _ _ _; rw [List.take_zero, List.append_nil]; exact HO3.out, HR3'.out, HA3.out, HBB3.out⟩
        case round =>
          obtain ⟨j, v, rfl, hj, rfl, ho, hri, hap, hb⟩ := hrel
          by_cases hjt : j < tn
          · have hjz : (j : Int) < (tn : Int) := by omega
            obtain ⟨ra', rc', hre, hrs, -⟩ := hri.out.slice
            rw [HTN.out] at hre hrs
            cases hre
            obtain ⟨rb, ro, c, rfl, hrb, hrc, c0, c1⟩ := cell_at hrs hjt
            have hcm : c ∈ squareL R := List.mem_flatMap.2 ⟨r, List.mem_range.2 (by omega), List.mem_of_getElem? hrc⟩
            have hcs := square_small hR6 hcm
            have hkx : IntKind.i64.wrap (X + c.1) = X + c.1 := by rw [IntKind.wrap_i64]; omega
            have hky : IntKind.i64.wrap (Y + c.2) = Y + c.2 := by rw [IntKind.wrap_i64]; omega
            have wfx : Iok (X + c.1) := gi64_wf (by omega) (by omega)
            have wfy : Iok (Y + c.2) := gi64_wf (by omega) (by omega)
            have HSN : Hid (cellsL S z X Y ((List.range r).flatMap tabL ++ (tabL r).take (j + 1)) = cellsL S z X Y ((List.range r).flatMap tabL ++ (tabL r).take j) ++ idxs S z (X + c.1) (Y + c.2)) := by
              show _ = _
              rw [take_at hrc, ← List.append_assoc, cellsL_app]
              congr 1
              simp [cellsL]
            obtain ⟨kx, hkx'⟩ : ∃ k, X + c.1 = k := ⟨_, rfl⟩
            obtain ⟨ky, hky'⟩ : ∃ k, Y + c.2 = k := ⟨_, rfl⟩
            rw [hkx'] at wfx HSN
            rw [hky'] at wfy HSN
            rw [show (IntKind.i64.wrap (X + c.1) = X + c.1) = (IntKind.i64.wrap (X + c.1) = kx) from by rw [← hkx']] at hkx
            rw [show (IntKind.i64.wrap (Y + c.2) = Y + c.2) = (IntKind.i64.wrap (Y + c.2) = ky) from by rw [← hky']] at hky
            obtain ⟨q, hq⟩ := HM.out.looks wfx wfy
            have HQQ := Lib.hid hq
            have HIL : Hid ((idxs S z kx ky).length ≤ 200) := by have := idxs_len S z kx ky; show _ ≤ _; omega
            have hqn : q.n ≤ 200 := by have := (hq w (Below.refl _ _)).2.hlen; rw [this]; exact HIL.out
            have HQB : Hid (∀ d, q.a = some d → 0 < q.cap → d.block < W2.heap.size) := fun d hd hc => by have := ((hq w (Below.refl _ _)).2.hat d hd hc).2.1; omega
            have HBWr : Hid (Below w.heap.size w wr) := HBW2.out.trans (hb.out.mono hlw)
            have hW2r : W2.heap.size ≤ wr.heap.size := hb.out.size
            have HGr := Lib.hid (HG.out.below HBWr.out)
            have HSr := Lib.hid (HS.out.below HBWr.out)
            have HSB : Hid (∀ d, hs.a = some d → 0 < hs.cap → d.block < W2.heap.size) := fun d hd hc => by have := (HS.out.hat d hd hc).2.1; omega
            have HXr : Hid (wr.heap[w.heap.size]? = some (.cells #[.int .i64 p.x, .int .i64 p.y] 70 (0, 0))) := (hb.out.block _ (by omega)).trans HX2.out
            have HZr : Hid (wr.heap[w2.heap.size]? = some (.cells #[.int .i64 X, .int .i64 Y] 151 (0, 0))) := (hb.out.block _ (by omega)).trans HZ2.out
            have HLN : Hid ((amE p S M (cellsL S z X Y ((List.range r).flatMap tabL ++ (tabL r).take j))).length ≤ 80000) := HLO.out _ (by
              have := rings_len r (by omega)
              have := HTL.out
              rw [List.length_append, List.length_take]
              omega)
            have hIN : Hid (∀ i ∈ idxs S z kx ky, ∃ j : Nat, i = (j : Int) ∧ j < S.length) := fun i hi => by
              obtain ⟨k, s, rfl, h1, -⟩ := mem_idxs.1 hi
              exact ⟨k, rfl, (List.getElem?_eq_some_iff.1 h1).1⟩
            have HBX : Hid (Below wr.heap.size wr (wr.alloc (.cells #[.int .i64 c.1, .int .i64 c.2] 151))) := (Below.refl _ _).alloc (Nat.le_refl _) _
            have HK2 : Hid (∀ w' rr, (wr.alloc (.cells #[.int .i64 c.1, .int .i64 c.2] 151)).grownBy w' rr → (∀ k, rr = some k → W2.heap.size ≤ k ∧ k < wr.heap.size) → w'.cell? ⟨g, 2, none⟩ = some (.map (some b)) ∧ w'.cell? ⟨w2.heap.size, 0, none⟩ = some (.int .i64 X) ∧ w'.cell? ⟨w2.heap.size, 1, none⟩ = some (.int .i64 Y) ∧ w'.cell? ⟨wr.heap.size, 0, none⟩ = some (.int .i64 c.1) ∧ w'.cell? ⟨wr.heap.size, 1, none⟩ = some (.int .i64 c.2) ∧ w'.cell? ⟨w.heap.size, 0, none⟩ = some (.int .i64 p.x) ∧ w'.cell? ⟨w.heap.size, 1, none⟩ = some (.int .i64 p.y) ∧ (Instr.lookup 148 (.map (some b)) (.agg #[.int .i64 kx, .int .i64 ky]) false).run Tryz.prog w' = .ok (.slice q.a q.n q.cap) w') := fun w' rr hgr hrr => by
              have nn : ∀ k0, (k0 < W2.heap.size ∨ k0 = wr.heap.size) → some k0 ≠ rr := fun k0 hk0 e => by have := hrr k0 e.symm; omega
              have e1 : GBox w' g hs z b := grb_box hgr (HGr.out.below HBX.out) (nn g (.inl hgw))
              have e2 := grb_box hgr (box_alloc (o := .cells #[.int .i64 c.1, .int .i64 c.2] 151) HZr.out) (nn _ (.inl (by omega)))
              have e3 := grb_box hgr (box_new wr (.cells #[.int .i64 c.1, .int .i64 c.2] 151)) (nn _ (.inr rfl))
              have e4 := grb_box hgr (box_alloc (o := .cells #[.int .i64 c.1, .int .i64 c.2] 151) HXr.out) (nn _ (.inl (by omega)))
              have hbw : Below W2.heap.size (wr.alloc (.cells #[.int .i64 c.1, .int .i64 c.2] 151)) w' := below_of_grb hgr (fun k hk => (hrr k hk).1) (by simp; omega)
              exact ⟨e1.cells.2.2.2, (box2_cells e2).1, (box2_cells e2).2.1, (box2_cells e3).1, (box2_cells e3).2.1, (box2_cells e4).1, (box2_cells e4).2.1, (HQQ.out w' ((HBWr.out.alloc (by omega) _).trans (hbw.mono hlw))).1⟩
            have HK : Hid (∀ w', Below (wr.alloc (.cells #[.int .i64 c.1, .int .i64 c.2] 151)).heap.size (wr.alloc (.cells #[.int .i64 c.1, .int .i64 c.2] 151)) w' → w'.cell? ⟨g, 2, none⟩ = some (.map (some b)) ∧ w'.cell? ⟨w2.heap.size, 0, none⟩ = some (.int .i64 X) ∧ w'.cell? ⟨w2.heap.size, 1, none⟩ = some (.int .i64 Y) ∧ w'.cell? ⟨wr.heap.size, 0, none⟩ = some (.int .i64 c.1) ∧ w'.cell? ⟨wr.heap.size, 1, none⟩ = some (.int .i64 c.2) ∧ w'.cell? ⟨w.heap.size, 0, none⟩ = some (.int .i64 p.x) ∧ w'.cell? ⟨w.heap.size, 1, none⟩ = some (.int .i64 p.y) ∧ (Instr.lookup 148 (.map (some b)) (.agg #[.int .i64 kx, .int .i64 ky]) false).run Tryz.prog w' = .ok (.slice q.a q.n q.cap) w') := fun w' hw' => HK2.out w' none (grb_of_below hw') (fun k hk => nomatch hk)
            clear hq hkx' hky' hrc hcm hcs wfx wfy hrs
            go_upto_region 20 with fail
            obtain ⟨f1, f2, f3, f4, f5, f6, f7, f8⟩ := HK.out _ (Below.refl _ _)
            go_region_held3 (fun w' => w'.cell? ⟨g, 2, none⟩ = some (.map (some b)) ∧ w'.cell? ⟨w2.heap.size, 0, none⟩ = some (.int .i64 X) ∧ w'.cell? ⟨w2.heap.size, 1, none⟩ = some (.int .i64 Y) ∧ w'.cell? ⟨wr.heap.size, 0, none⟩ = some (.int .i64 c.1) ∧ w'.cell? ⟨wr.heap.size, 1, none⟩ = some (.int .i64 c.2) ∧ w'.cell? ⟨w.heap.size, 0, none⟩ = some (.int .i64 p.x) ∧ w'.cell? ⟨w.heap.size, 1, none⟩ = some (.int .i64 p.y) ∧ (Instr.lookup 148 (.map (some b)) (.agg #[.int .i64 kx, .int .i64 ky]) false).run Tryz.prog w' = .ok (.slice q.a q.n q.cap) w') (first | exact HK.out _ (Below.refl _ _) | exact HK.out _ (Below.drew (Below.refl _ _)) | exact HKK.out) (first | (go_at_call 113; go_fit (gram_any g hs z b S p M W2.heap.size v (amE p S M (cellsL S z X Y ((List.range r).flatMap tabL ++ (tabL r).take j))) q.a q.n q.cap (idxs S z kx ky) _ (by simp; omega) (by have := HLN.out; omega) hIN.out (HGr.out.below (Below.drew HBX.out)) hgw (HSr.out.below (Below.drew HBX.out)) HSB.out (ho.out.below (Below.drew HBX.out)) ((HQQ.out _ ((HBWr.out.alloc (by omega) _).trans (Below.drew (Below.refl _ _)))).2) HQB.out); rintro e w5 ⟨v5, rfl, ho5, hg5, hat5⟩; have HO5 := Lib.hid ho5; have HG5 := Lib.hid hg5; have HA5 := Lib.hid hat5; have HKK := Lib.hid (HK2.out w5 v.ownBlock (grb_trans (grb_of_below (Below.drew (Below.refl _ _))) hg5) (fun k hk => World.ownsRow.lt ho.out k hk)); clear ho5 hg5 hat5))
            all_goals
              go_wp2_with fail
              go_roundw
              case rel =>
                have hgd : wr.grownBy w5 v.ownBlock := grb_trans (grb_of_below HBX.out) (grb_trans (grb_of_below (Below.drew (Below.refl _ _))) HG5.out)
                refine ⟨j + 1, _, rfl, by omega, by go_num, ?_, ?_, ?_, ?_⟩
                · show V.Own _ _ _ _ _ _
                  rw [HSN.out, amE_app]; exact HO5.out
                · exact hri.out.kept hgd hap.out.symm
                · show Apart _ _
                  rcases HA5.out with e | ⟨k, e, e2⟩
                  · unfold Apart; rw [e]; exact hap.out
                  · refine .inr fun h => ?_
                    rw [e] at h
                    have := (World.ownsRow.lt hri.out k h.symm).2
                    have e2 : wr.heap.size + 1 ≤ k := by simpa using e2
                    omega
                · exact hb.out.trans (below_of_grb hgd (fun k hk => (World.ownsRow.lt ho.out k hk).1) hW2r |>.mono (Nat.le_refl _))
              case measure => simp [intOf]; omega
          · have hjn : j = tn := by omega
            have HJ : Hid ((tabL r).take j = tabL r) := by show _ = _; rw [hjn, List.take_of_length_le (by rw [HTN.out]; exact Nat.le_refl _)]
            clear hjn
            go_wp2_with fail
            go_roundw
            case rel =>
              refine ⟨r + 1, _, rfl, by omega, by go_num, ?_, hb.out⟩
              show V.Own _ _ _ _ _ _
              have o := ho.out
              rw [HJ.out] at o
              rw [List.range_succ, List.flatMap_append]
              simpa only [List.flatMap_cons, List.flatMap_nil, List.append_nil] using o
            case measure => simp [intOf]; omega
      · have hrn : r = R + 1 := by omega
        have HRN := Lib.hid hrn
        clear hrn
        go_wp2_with fail
        go_ret
        exact ⟨_, _, rfl, HGD.out, by have o := ho.out; rw [HRN.out] at o; exact o.lower hlw, HBW2.out.trans (hb.out.mono hlw)⟩
end Go.Proofs.YtlfbbahihenilaaGreat.Ne

namespace Go.Proofs.YtlfbbahihenilaaGreat.Ne
open Go.RowKit Go.V Go.Proofs

set_option maxHeartbeats 1000000 in
theorem grnear_nil (x y reach most : Int) (w : World) :
    Calls Tryz.prog 84 #[.pointer none, .int .i64 x, .int .i64 y, .int .i64 reach, .int .i64 most] w fun e w' => e = .returned (.tuple #[.slice none 0 0, .int .i64 1]) ∧ Below w.heap.size w w' := by
  go_enter Tryz.func84, Tryz.ntmps84
  go_wp2_with (go_at_call 104; refine (grisn_any _).mono ?_; rintro e w1 ⟨rfl, rfl⟩)
  go_ret2
  exact ⟨rfl, Below.refl _ _⟩
def nearB (x y reach most : Int) : Bool := mayB x y && decide (0 ≤ reach ∧ reach ≤ 1048576 ∧ 0 ≤ most)
set_option maxHeartbeats 1000000 in
theorem grnear_bad (g : Nat) (hs : Hdr) (z : Int) (b : Nat) (x y reach most : Int) (w : World) (h : GBox w g hs z b) (hb : nearB x y reach most = false) :
    Calls Tryz.prog 84 #[gP g, .int .i64 x, .int .i64 y, .int .i64 reach, .int .i64 most] w fun e w' => e = .returned (.tuple #[.slice none 0 0, .int .i64 2]) ∧ Below w.heap.size w w' := by
  have HI := Lib.hid (gris_any g hs z b w h)
  obtain ⟨bb, hbb⟩ : ∃ bb, mayB x y = bb := ⟨_, rfl⟩
  have HBB := Lib.hid hbb
  unfold nearB at hb
  rw [hbb] at hb
  clear hbb
  cases bb with
  | false =>
    clear hb
    go_enter Tryz.func84, Tryz.ntmps84
    go_wp2_with (first
      | (go_at_call 104; refine HI.out.mono ?_; rintro e w1 ⟨rfl, rfl⟩)
      | (go_at_call 71; refine (may_any x y _).mono ?_; rintro e w2 ⟨rfl, rfl⟩; rw [HBB.out]))
    go_ret2
    exact ⟨rfl, Below.refl _ _⟩
  | true =>
    have hn : ¬ (0 ≤ reach ∧ reach ≤ 1048576 ∧ 0 ≤ most) := by simpa using hb
    clear hb
    by_cases h1 : reach < 0
    · clear hn
      go_enter Tryz.func84, Tryz.ntmps84
      go_wp2_with (first
        | (go_at_call 104; refine HI.out.mono ?_; rintro e w1 ⟨rfl, rfl⟩)
        | (go_at_call 71; refine (may_any x y _).mono ?_; rintro e w2 ⟨rfl, rfl⟩; rw [HBB.out]))
      go_ret2
      exact ⟨rfl, Below.refl _ _⟩
    · by_cases h2 : 1048576 < reach
      · clear hn
        go_enter Tryz.func84, Tryz.ntmps84
        go_wp2_with (first
          | (go_at_call 104; refine HI.out.mono ?_; rintro e w1 ⟨rfl, rfl⟩)
          | (go_at_call 71; refine (may_any x y _).mono ?_; rintro e w2 ⟨rfl, rfl⟩; rw [HBB.out]))
        go_ret2
        exact ⟨rfl, Below.refl _ _⟩
      · have h3 : most < 0 := by omega
        clear hn
        go_enter Tryz.func84, Tryz.ntmps84
        go_wp2_with (first
          | (go_at_call 104; refine HI.out.mono ?_; rintro e w1 ⟨rfl, rfl⟩)
          | (go_at_call 71; refine (may_any x y _).mono ?_; rintro e w2 ⟨rfl, rfl⟩; rw [HBB.out]))
        go_ret2
        exact ⟨rfl, Below.refl _ _⟩
theorem own_upto {w : World} {B : Nat} {a : Option Addr} {n cap q : Nat} {xs : List Fnd} (h : V.Own 173 Fnd.cod B w (.slice a n cap) xs) (hn : n = xs.length) (W : World) : (Instr.slice 169 (.slice a n cap) none (some (.int .i64 (min (q : Int) (n : Int)))) none).run Tryz.prog W = .ok (.slice a (min q n) cap) W := by
  rw [show min (q : Int) (n : Int) = ((min q n : Nat) : Int) from by omega]
  obtain ⟨q, hqq⟩ : ∃ q', min q n = q' := ⟨_, rfl⟩
  rw [hqq]
  have hq : q ≤ n := by omega
  clear hqq
  obtain ⟨a', c', e', hs, hd⟩ := h.slice
  cases e'
  have hc := hs.hcap
  rw [run_slice_h W 169 a xs.length cap (by kernel_rfl) .i64 (q : Int) (by omega) (by omega)]
  have e : (sizeOf (Tryz.prog.elem 169)).run Tryz.prog W = .ok 2 W := by kernel_rfl
  rw [e]
  show Result.ok (sliced a 0 (q : Int).toNat cap 2) W = _
  unfold sliced
  have hm : a.map (·.add (0 * 2)) = a := by
    cases a with
    | none => rfl
    | some d =>
      obtain ⟨g, cur, rfl, -⟩ := hd d rfl
      show some ((⟨g, 0, none⟩ : Addr).add (0 * 2)) = some _
      rw [Nat.zero_mul, add_addr]
  rw [Int.toNat_natCast, hm, ite_self]; rfl

theorem good_len {p : Stp} {S : List Stp} {m : Int} {L : List Fnd} (h : GoodL p S m L) : L.length ≤ S.length := by
  have hp : L.Perm (nearF p S m) := (List.perm_ext_iff_of_nodup h.1 (near_good p S m).1).2 fun f => by rw [h.2 f, (near_good p S m).2 f]
  rw [hp.length_eq]
  exact near_len p S m
set_option maxHeartbeats 4000000 in
set_option maxRecDepth 100000 in
theorem grnear_any (g : Nat) (hs : Hdr) (z : Int) (b : Nat) (S : List Stp) (p : Stp) (reach most : Int) (w : World)
    (hn : S.length ≤ 200) (hz : 1 ≤ z ∧ z ≤ 67108864) (hr : nearB p.x p.y reach most = true) (hS : ∀ s ∈ S, stpB s = true)
    (h : GBox w g hs z b) (hsl : Sl Stp.cod w hs.a hs.n hs.cap S) (hm : GMap w b (idxs S z)) :
    Calls Tryz.prog 84 #[gP g, .int .i64 p.x, .int .i64 p.y, .int .i64 reach, .int .i64 most] w fun e w' => ∃ v, e = .returned (.tuple #[v, .int .i64 0]) ∧ V.Own 3 icod w.heap.size w' v (nearL p S (reach * reach) most.toNat) ∧ Below w.heap.size w w' := by
  have HI := Lib.hid (gris_any g hs z b w h)
  unfold nearB at hr
  rw [Bool.and_eq_true] at hr
  obtain ⟨hp, hr⟩ := hr
  have hr := of_decide_eq_true hr
  have HP := Lib.hid hp
  obtain ⟨r1, r2, r3⟩ := hr
  obtain ⟨M, hM⟩ : ∃ M, reach * reach = M := ⟨_, rfl⟩
  have HM := Lib.hid hM
  rw [hM]
  have HAR := Lib.hid (garound_any g hs z b S p reach w hn hz ⟨r1, r2⟩ hp hS h hsl hm)
  rw [hM] at HAR
  clear hM hp h hsl hm
  obtain ⟨mk, hmk⟩ : ∃ mk : Nat, most = mk := ⟨most.toNat, by omega⟩
  subst hmk
  rw [Int.toNat_natCast]
  go_enter Tryz.func84, Tryz.ntmps84
  go_upto_block 0 with (first
    | (go_at_call 104; refine HI.out.mono ?_; rintro e w1 ⟨rfl, rfl⟩)
    | (go_at_call 71; refine (may_any p.x p.y _).mono ?_; rintro e w2 ⟨rfl, rfl⟩; rw [HP.out])
    | (go_at_call 105; refine HAR.out.mono ?_; rintro e w3 ⟨v, L, rfl, hg, ho, hb⟩; obtain ⟨fa, fc, rfl, -, -⟩ := ho.slice; have HG3 := Lib.hid hg; have HO3 := Lib.hid ho; have HB3 := Lib.hid hb; have HL3 := Lib.hid (good_len hg); have hsc := own_upto ho (q := mk) rfl; clear hg ho hb)
    | (go_at_call 106; go_fit (fsort_any w.heap.size fa L.length fc L _ HO3.out rfl (by have := HL3.out; omega) HB3.out.size); rintro e w4 ⟨rfl, T, hp4, ho4, hw4, hb4⟩; have HP4 := Lib.hid hp4; have HT4 := Lib.hid ho4; have HO4 := Lib.hid hw4; have HB4 := Lib.hid hb4; clear hp4 ho4 hw4 hb4))
  have HT : Hid (T = nearF p S M) := sorted_is HG3.out HP4.out HT4.out
  obtain ⟨ln, hln⟩ : ∃ ln, L.length = ln := ⟨_, rfl⟩
  have HLN : Hid (ln = (nearF p S M).length) := by show _ = _; rw [← hln, ← HT.out, HP4.out.length_eq]
  rw [hln] at HO4 HL3 ⊢
  have hk200 : min mk ln ≤ 200 := by have := HL3.out; omega
  obtain ⟨kk, hkk⟩ : ∃ kk, min mk ln = kk := ⟨_, rfl⟩
  rw [hkk] at hk200 ⊢
  have HKK := Lib.hid hkk
  have HSL : Hid (Sl Fnd.cod w4 fa kk fc ((nearF p S M).take kk)) := by
    have o := HO4.out
    rw [HT.out] at o
    obtain ⟨a', c', e', s', -⟩ := o.slice
    rw [HLN.out] at e'
    cases e'
    exact s'.upto (by rw [← HLN.out]; omega)
  have HB4' : Hid (Below w.heap.size w w4) := HB3.out.trans HB4.out
  have HNL : Hid (nearL p S M mk = ((nearF p S M).take kk).map Fnd.stop) := by
    show _ = _
    unfold nearL
    rw [← HKK.out, HLN.out]
    by_cases q : mk ≤ (nearF p S M).length
    · rw [Nat.min_eq_left q]
    · rw [Nat.min_eq_right (by omega), List.take_of_length_le (by omega), List.take_of_length_le (Nat.le_refl _)]
  clear hln hkk hsc
  go_wp2_with fail
  go_loopw [13, 50] (fun v i wr => ∃ (j : Nat), j ≤ kk ∧ i = .int .i64 j ∧ Hid (V.Own 3 icod w4.heap.size wr v ((((nearF p S M).take kk).take j).map Fnd.stop)) ∧ Hid (Below w4.heap.size w4 wr)) (fun _ i _ => kk - (intOf i).toNat)
  case atStart => exact ⟨0, by omega, rfl, World.ownsRow_nil _ _ _ _, Below.refl _ _⟩
  case round =>
    obtain ⟨j, hj, rfl, ho, hb⟩ := hrel
    by_cases hlt : j < kk
    · have hltz : (j : Int) < kk := by omega
      obtain ⟨fb, fo, r, hfa, hfb, hfr, c0, c1⟩ := fnd_at (HSL.out.below hb.out) hlt
      have HFA := Lib.hid hfa
      rw [hfa]
      have hsz : w4.heap.size ≤ wr.heap.size := hb.out.size
      have HSN : Hid ((((nearF p S M).take kk).take (j + 1)).map Fnd.stop = (((nearF p S M).take kk).take j).map Fnd.stop ++ [r.stop]) := by show _ = _; rw [take_at hfr, List.map_append]; rfl
      have hlen : ((((nearF p S M).take kk).take j).map Fnd.stop).length ≤ 200 := by rw [List.length_map, List.length_take]; omega
      have HM1 : Hid (((((nearF p S M).take kk).take j).map Fnd.stop).length + 1 ≤ maxLen) := by show _ ≤ _; unfold maxLen; omega
      have HM2 : Hid ((((((nearF p S M).take kk).take j).map Fnd.stop).length + 1) * 8 ≤ 140737488355328) := by show _ ≤ _; omega
      have HSW : Hid (Sl icod ((wr.alloc (.cells #[.int .i64 r.stop, .int .i64 r.sq] 173)).alloc (.cells #[.int .i64 r.stop] 3)) (some ⟨wr.heap.size + 1, 0, none⟩) 1 1 [r.stop]) := by
        have q := sl_new (c := icod) (wr.alloc (.cells #[.int .i64 r.stop, .int .i64 r.sq] 173)) #[.int .i64 r.stop] 3 [r.stop] 1 rfl (by unfold maxLen; omega) rfl
        rw [World.size_alloc] at q
        exact q
      clear hfa hfr hlen
      go_wp2_with (at_builtin; go_loud (refine wpList_app Ir.eltI rfl (.tmp 54) (.tmp 57) rfl (base := w4.heap.size) _ _ rfl ((ho.out.alloc _).alloc _) _ 1 1 [r.stop] rfl HSW.out HM1.out HM2.out (by simp; omega) ?_); intro v5 w5 ho5 hg5; have HO5 := Lib.hid ho5; have HG5 := Lib.hid hg5; clear ho5 hg5)
      go_roundw
      case rel =>
        refine ⟨j + 1, by omega, by go_num, ?_, ?_⟩
        · show V.Own _ _ _ _ _ _
          rw [HSN.out]; exact HO5.out
        · exact ((hb.out.alloc hsz _).alloc (by simp; omega) _).trans (Ir.own_below ((ho.out.alloc _).alloc _) HG5.out (by simp; omega))
      case measure => simp [intOf]; omega
    · have hjk : j = kk := by omega
      have HJ : Hid (((nearF p S M).take kk).take j = (nearF p S M).take kk) := by show _ = _; rw [hjk, List.take_take, Nat.min_self]
      clear hjk
      go_wp2_with fail
      go_ret2
      refine ⟨_, rfl, ?_, HB4'.out.trans (hb.out.mono HB4'.out.size)⟩
      have o := ho.out
      rw [HJ.out, ← HNL.out] at o
      exact o.lower HB4'.out.size
end Go.Proofs.YtlfbbahihenilaaGreat.Ne
