/- Grids: Nearest: walked. -/
import Derived.Test.YtehflakmellooaaGrQ
namespace Go.Proofs.Ytehflakmellooaa.Ne
open Go.RowKit Go.V Go.Proofs Go.Sort

theorem below_grow (w : World) (q : Nat) (os : Array Obj) : Below w.heap.size w (grow (w.drewN q) os) := by
  unfold grow
  refine ⟨rfl, rfl, rfl, by simp [World.drewN], fun i hi => ?_⟩
  simp only [World.drewN]
  rw [Array.getElem?_append_left hi]
theorem order_b (x y : Fnd) (w : World) (c : Int) (hc : cmpF x y = c) :
    Calls Try.prog 20 #[x.val, y.val] w fun e w' => e = .returned (.int .i64 c) ∧ Below w.heap.size w w' :=
  (order_any x y w).mono fun e w' ⟨h1, q, os, h2⟩ => ⟨by rw [h1, hc], h2 ▸ below_grow w q os⟩
theorem cmpF_neg (x y : Fnd) : cmpF x y < 0 ↔ ltF x y := by
  rw [← cmpF_lt]
  unfold ltOf
  rw [decide_eq_true_iff]
/-- The best one of the first ones. -/
def BestF (p : Stp) (S : List Stp) (k : Nat) (r : Fnd) : Prop := (∃ i : Nat, i < S.length ∧ r = fnd p S (i : Int)) ∧ ∀ i : Nat, i < k → ¬ ltF (fnd p S (i : Int)) r
theorem best_head {p : Stp} {S : List Stp} {m : Int} {r : Fnd} (h : BestF p S S.length r) (hm : ∀ i : Nat, i < S.length → (fnd p S (i : Int)).sq ≤ m) : nearL p S m 1 = [r.stop] := by
  obtain ⟨⟨i, hi, rfl⟩, h2⟩ := h
  have hmem : fnd p S (i : Int) ∈ nearF p S m := ((near_good p S m).2 _).2 ⟨i, hi, rfl, hm i hi⟩
  unfold nearL
  cases hn : nearF p S m with
  | nil => rw [hn] at hmem; simp at hmem
  | cons f l =>
    have hs := near_sorted p S m
    rw [hn] at hs hmem
    have hf : f ∈ nearF p S m := by rw [hn]; exact List.mem_cons_self
    obtain ⟨k, hk, rfl, -⟩ := ((near_good p S m).2 f).1 hf
    rcases List.mem_cons.1 hmem with e | e
    · rw [e]; rfl
    · exact (h2 k hk ((List.pairwise_cons.1 hs).1 _ e)).elim
theorem fnd_get {p : Stp} {S : List Stp} {i : Nat} {s : Stp} (h : S[i]? = some s) : fnd p S (i : Int) = ⟨i, sqE p s⟩ := by
  unfold fnd
  rw [Int.toNat_natCast, List.getD_eq_getElem?_getD, h]; rfl

set_option maxHeartbeats 1000000 in
theorem nearest_none (g : Nat) (hs : Hdr) (z : Int) (b : Nat) (x y : Int) (w : World) (h : GBox w g hs z b) (hb : mayB x y = false ∨ hs.n = 0) :
    Calls Try.prog 13 #[gP g, .int .i64 x, .int .i64 y] w fun e w' => e = .returned (.tuple #[.int .i64 0, .bool false]) ∧ Below w.heap.size w w' := by
  have HI := Lib.hid (gris_any g hs z b w h)
  obtain ⟨h0, h1, h2, h3⟩ := h.cells
  obtain ⟨bb, hbb⟩ : ∃ bb, mayB x y = bb := ⟨_, rfl⟩
  have HBB := Lib.hid hbb
  rw [hbb] at hb
  clear hbb
  cases bb with
  | false =>
    clear hb
    go_enter Try.func13, Try.ntmps13
    go_wp2_with (first
      | (go_at_call 16; refine HI.out.mono ?_; rintro e w1 ⟨rfl, rfl⟩)
      | (go_at_call 17; refine (may_any x y _).mono ?_; rintro e w2 ⟨rfl, rfl⟩; rw [HBB.out]))
    go_ret2
    exact ⟨rfl, Below.refl _ _⟩
  | true =>
    have hn : hs.n = 0 := by rcases hb with e | e; cases e; exact e
    have hq : ((hs.n : Int) == 0) = true := by simp [hn]
    clear hn hb
    go_enter Try.func13, Try.ntmps13
    go_wp2_with (first
      | (go_at_call 16; refine HI.out.mono ?_; rintro e w1 ⟨rfl, rfl⟩)
      | (go_at_call 17; refine (may_any x y _).mono ?_; rintro e w2 ⟨rfl, rfl⟩; rw [HBB.out]))
    go_ret2
    exact ⟨rfl, Below.refl _ _⟩

set_option maxHeartbeats 4000000 in
set_option maxRecDepth 100000 in
theorem nearest_any (g : Nat) (hs : Hdr) (z : Int) (b : Nat) (S : List Stp) (p : Stp) (w : World)
    (hn : S.length ≤ 200) (h0 : 0 < S.length) (hp : mayB p.x p.y = true)
    (h : GBox w g hs z b) (hsl : Sl Stp.cod w hs.a hs.n hs.cap S) :
    Calls Try.prog 13 #[gP g, .int .i64 p.x, .int .i64 p.y] w fun e w' => ∃ r, e = .returned (.tuple #[.int .i64 r.stop, .bool true]) ∧ BestF p S S.length r ∧ Below w.heap.size w w' := by
  have HI := Lib.hid (gris_any g hs z b w h)
  have HN := Lib.hid hsl.hlen
  have hn0 : 0 < hs.n := by rw [HN.out]; exact h0
  have hn2 : hs.n ≤ 200 := by rw [HN.out]; exact hn
  have hq : ((hs.n : Int) == 0) = false := by simp; omega
  have hnz : (0 : Int) < (hs.n : Int) := by omega
  obtain ⟨bs, off, s0, hsa, hbs, hs0, c0, c1⟩ := stp_at hsl hn0
  rw [Nat.zero_mul, Nat.add_zero] at c0
  rw [Nat.zero_mul, Nat.add_zero] at c1
  have HP := Lib.hid hp
  have HS := Lib.hid hsl
  have HG := Lib.hid h
  obtain ⟨u0, u1, u2, u3⟩ := h.cells
  rw [hsa] at u1
  obtain ⟨q0, hq0⟩ : ∃ q, sqE p s0 = q := ⟨_, rfl⟩
  have HQ0 := Lib.hid hq0
  have HF0 : Hid (fnd p S ((0 : Nat) : Int) = ⟨0, q0⟩) := by show _ = _; rw [fnd_get hs0, hq0]; rfl
  have HSA := Lib.hid hsa
  clear hp hsl h hsa hs0 hq0
  go_enter Try.func13, Try.ntmps13
  go_wp2_with (first
    | (go_at_call 16; refine HI.out.mono ?_; rintro e w1 ⟨rfl, rfl⟩)
    | (go_at_call 17; refine (may_any p.x p.y _).mono ?_; rintro e w2 ⟨rfl, rfl⟩; rw [HP.out])
    | (go_at_call 24; go_fit (gsq_any p s0 _); rintro e w3 ⟨rfl, hb3⟩; rw [HQ0.out]; have HB3 := Lib.hid hb3; have hs3 := hb3.size; have hg3 := (HG.out.below hb3).cells; obtain ⟨v0, v1, v2, v3⟩ := hg3; rw [HSA.out] at v1; clear hb3))
  have hb30 : Hid (Below w.heap.size w w3) := HB3.out
  have HBA : Hid (Below w.heap.size w (w3.alloc (.cells #[.int .i64 0, .int .i64 q0] 52))) := hb30.out.alloc hs3 _
  have HTA : Hid ((w3.alloc (.cells #[.int .i64 0, .int .i64 q0] 52)).heap[w3.heap.size]? = some (.cells #[.int .i64 0, .int .i64 q0] 52 (0, 0))) := box_new _ _
  have HBest0 : Hid (BestF p S 0 ⟨0, q0⟩) := ⟨⟨0, h0, HF0.out.symm⟩, fun i hi => absurd hi (Nat.not_lt_zero _)⟩
  clear v0 v1 v2 v3 u0 u1 u2 u3 c0 c1 hbs
  go_loopw [45] (fun i wr => ∃ (k : Nat) (r : Fnd), k ≤ hs.n ∧ i = .int .i64 k ∧ Hid (wr.heap[w3.heap.size]? = some (.cells #[.int .i64 r.stop, .int .i64 r.sq] 52 (0, 0))) ∧ Hid (BestF p S k r) ∧ Hid (Below w.heap.size w wr)) (fun i _ => hs.n - (intOf i).toNat)
  case atStart => exact ⟨0, ⟨0, q0⟩, by omega, rfl, HTA.out, HBest0.out, HBA.out⟩
  case round =>
    obtain ⟨k, r, hk, rfl, ht, hbest, hb⟩ := hrel
    by_cases hlt : k < hs.n
    · have hltz : (k : Int) < (hs.n : Int) := by omega
      obtain ⟨bs', off', s, hsa', hbs, hsk, c0, c1⟩ := stp_at (HS.out.below hb.out) hlt
      rw [HSA.out] at hsa'
      cases hsa'
      have hwl : w.heap.size ≤ wr.heap.size := hb.out.size
      have ht3 : w3.heap.size < wr.heap.size := box_lt ht.out
      obtain ⟨q, hq'⟩ : ∃ q, sqE p s = q := ⟨_, rfl⟩
      have HQ := Lib.hid hq'
      have HF : Hid (fnd p S (k : Int) = ⟨k, q⟩) := by show _ = _; rw [fnd_get hsk, hq']
      obtain ⟨c, hc⟩ : ∃ c, cmpF ⟨k, q⟩ r = c := ⟨_, rfl⟩
      have HC := Lib.hid hc
      have HCN : Hid (c < 0 ↔ ltF ⟨k, q⟩ r) := by show _ ↔ _; rw [← hc]; exact cmpF_neg _ _
      clear hsk hq' hc
      have HT0 := Lib.hid (box_alloc (o := .cells #[.int .i64 s.x, .int .i64 s.y] 38) ht.out)
      have HB0 : Hid (Below w.heap.size w (wr.alloc (.cells #[.int .i64 s.x, .int .i64 s.y] 38))) := hb.out.alloc hwl _
      by_cases hneg : c < 0
      · go_wp2_with (first
          | (go_at_call 24; go_fit (gsq_any p s _); rintro e w4 ⟨rfl, hb4⟩; rw [HQ.out]; have HB4 := Lib.hid (HB0.out.trans (hb4.mono HB0.out.size)); have HT4 := Lib.hid (box_alloc (o := (.cells #[.int .i64 (k : Int), .int .i64 q] 52)) (box_below HT0.out hb4)); have HN4 := Lib.hid (box_new w4 (.cells #[.int .i64 (k : Int), .int .i64 q] 52)); obtain ⟨t0, t1, -, -⟩ := box2_cells (box_below HT0.out hb4); have hs4 : w3.heap.size < w4.heap.size := box_lt (box_below HT0.out hb4); clear hb4)
          | (go_at_call 20; go_fit (order_b ⟨k, q⟩ r _ c HC.out); rintro e w6 ⟨rfl, hb6⟩; have HB6 := Lib.hid ((HB4.out.alloc HB4.out.size (.cells #[.int .i64 (k : Int), .int .i64 q] 52)).trans (hb6.mono (HB4.out.alloc HB4.out.size (.cells #[.int .i64 (k : Int), .int .i64 q] 52)).size)); have HT6 := Lib.hid (box_below HT4.out hb6); have HN6 := Lib.hid (box_below HN4.out hb6); obtain ⟨a0, a1, f0, f1⟩ := box2_cells HT6.out; obtain ⟨n0, n1, -, -⟩ := box2_cells HN6.out; have hs6 : w4.heap.size < w6.heap.size := box_lt HN6.out; clear hb6))
        go_roundw
        case rel =>
          have hlt2 := HCN.out.1 hneg
          refine ⟨k + 1, ⟨k, q⟩, by omega, by go_num, box2_put HT6.out _ _, ⟨⟨k, by rw [← HN.out]; exact hlt, HF.out.symm⟩, fun i hi hh => ?_⟩, below_put2 HB6.out hs3 _ _⟩
          rcases Nat.lt_or_ge i k with e | e
          · refine hbest.out.2 i e ?_
            unfold ltF at *; omega
          · have : i = k := by omega
            subst this
            rw [HF.out] at hh
            exact ltF_irr hh
        case measure => simp [intOf]; omega
      · go_wp2_with (first
          | (go_at_call 24; go_fit (gsq_any p s _); rintro e w4 ⟨rfl, hb4⟩; rw [HQ.out]; have HB4 := Lib.hid (HB0.out.trans (hb4.mono HB0.out.size)); have HT4 := Lib.hid (box_alloc (o := (.cells #[.int .i64 (k : Int), .int .i64 q] 52)) (box_below HT0.out hb4)); have HN4 := Lib.hid (box_new w4 (.cells #[.int .i64 (k : Int), .int .i64 q] 52)); obtain ⟨t0, t1, -, -⟩ := box2_cells (box_below HT0.out hb4); have hs4 : w3.heap.size < w4.heap.size := box_lt (box_below HT0.out hb4); clear hb4)
          | (go_at_call 20; go_fit (order_b ⟨k, q⟩ r _ c HC.out); rintro e w6 ⟨rfl, hb6⟩; have HB6 := Lib.hid ((HB4.out.alloc HB4.out.size (.cells #[.int .i64 (k : Int), .int .i64 q] 52)).trans (hb6.mono (HB4.out.alloc HB4.out.size (.cells #[.int .i64 (k : Int), .int .i64 q] 52)).size)); have HT6 := Lib.hid (box_below HT4.out hb6); clear hb6))
        go_roundw
        case rel =>
          refine ⟨k + 1, r, by omega, by go_num, HT6.out, ⟨hbest.out.1, fun i hi hh => ?_⟩, HB6.out⟩
          rcases Nat.lt_or_ge i k with e | e
          · exact hbest.out.2 i e hh
          · have : i = k := by omega
            subst this
            rw [HF.out] at hh
            have := HCN.out.2 hh
            omega
        case measure => simp [intOf]; omega
    · have hkn : k = hs.n := by omega
      have HK := Lib.hid hkn
      clear hkn
      obtain ⟨a0, a1, -, -⟩ := box2_cells ht.out
      go_wp2_with fail
      go_ret2
      exact ⟨r, rfl, by have := hbest.out; rwa [HK.out, HN.out] at this, hb.out⟩
end Go.Proofs.Ytehflakmellooaa.Ne
