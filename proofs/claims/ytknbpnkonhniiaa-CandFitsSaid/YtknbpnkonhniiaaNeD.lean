/- Networks: which are right, walked. -/
import Derived.Test.YtknbpnkonhniiaaNeC
namespace Go.Proofs.Ytknbpnkonhniiaa.Ne
open Go.RowKit Go.V Go.Proofs

/-- May a link stand here? -/
def stepB (k : Nat) (L : List Lnk) (i : Nat) (l : Lnk) : Bool := lnkB k l && (match prv L i with | none => true | some p => aftB p l)
theorem linksB_at {k : Nat} {L : List Lnk} {i : Nat} {l : Lnk} (h : L[i]? = some l) : linksB k (prv L i) (L.drop i) = (stepB k L i l && linksB k (prv L (i + 1)) (L.drop (i + 1))) := by
  rw [drop_at h]
  have e : prv L (i + 1) = some l := h
  rw [e]
  unfold stepB
  cases prv L i with
  | none => simp [linksB]
  | some p => simp [linksB]
theorem step_bad {k : Nat} {L : List Lnk} {i : Nat} {l : Lnk} (h : lnkB k l = false) : stepB k L i l = false := by unfold stepB; rw [h]; rfl
theorem step_first {k : Nat} {L : List Lnk} {l : Lnk} (h : lnkB k l = true) : stepB k L 0 l = true := by unfold stepB; rw [h]; rfl
theorem step_next {k : Nat} {L : List Lnk} {i : Nat} {l p : Lnk} (h : lnkB k l = true) (hp : L[i]? = some p) : stepB k L (i + 1) l = aftB p l := by
  unfold stepB
  have : prv L (i + 1) = some p := hp
  rw [h, this]; rfl
theorem within_t (n lo hi : Int) (w : World) (h : wB n lo hi = true) : Calls Try.prog 32 #[.int .i64 n, .int .i64 lo, .int .i64 hi] w fun e w' => e = .returned (.bool true) ∧ Below w.heap.size w w' :=
  (within_any n lo hi w).mono fun _ _ ⟨h1, h2⟩ => ⟨by rw [h1, h], h2 ▸ Below.refl _ _⟩
theorem within_f (n lo hi : Int) (w : World) (h : wB n lo hi = false) : Calls Try.prog 32 #[.int .i64 n, .int .i64 lo, .int .i64 hi] w fun e w' => e = .returned (.bool false) ∧ Below w.heap.size w w' :=
  (within_any n lo hi w).mono fun _ _ ⟨h1, h2⟩ => ⟨by rw [h1, h], h2 ▸ Below.refl _ _⟩
theorem after_b (x y : Lnk) (w : World) (b : Bool) (h : aftB x y = b) : Calls Try.prog 35 #[lval x, lval y] w fun e w' => e = .returned (.bool b) ∧ Below w.heap.size w w' :=
  (after_any x y w).mono fun _ _ ⟨h1, h2⟩ => ⟨by rw [h1, h], h2⟩
theorem lnk_cases (k : Nat) (l : Lnk) : (lnkB k l = false ∧ (l.a < 0 ∨ (0 ≤ l.a ∧ l.b ≤ l.a) ∨ (0 ≤ l.a ∧ l.a < l.b ∧ (k : Int) ≤ l.b) ∨ (0 ≤ l.a ∧ l.a < l.b ∧ l.b < k ∧ wB l.w 1 1048575 = false))) ∨ (lnkB k l = true ∧ 0 ≤ l.a ∧ l.a < l.b ∧ l.b < k ∧ wB l.w 1 1048575 = true) := by
  unfold lnkB wB
  simp only [decide_eq_true_eq, decide_eq_false_iff_not]
  omega

set_option maxHeartbeats 4000000 in
set_option maxRecDepth 100000 in
theorem check_any (n : Net) (hs hl : Hdr) (w : World) (hm : hs.n ≤ 1000000 ∧ hl.n ≤ 1000000) (h : NetIn w n hs hl) :
    Calls Try.prog 18 #[n.val hs hl] w fun e w' => e = .returned (.int .i64 (checkE n)) ∧ Below w.heap.size w w' := by
  obtain ⟨m1, m2⟩ := hm
  have HNS := Lib.hid h.s.hlen
  have HNL := Lib.hid h.l.hlen
  have TB0 : Hid (NetBox (w.alloc (n.box hs hl)) w.heap.size n hs hl) := box_new _ _
  have B0 : Hid (Below w.heap.size w (w.alloc (n.box hs hl))) := (Below.refl _ _).alloc (Nat.le_refl _) _
  unfold Net.box at TB0 B0
  obtain ⟨r1, e1⟩ : ∃ r, wB n.ver 1 1048576 = r := ⟨_, rfl⟩
  obtain ⟨r2, e2⟩ : ∃ r, n.stops.all stpB = r := ⟨_, rfl⟩
  obtain ⟨r3, e3⟩ : ∃ r, linksB n.stops.length none n.links = r := ⟨_, rfl⟩
  have hnet : netB n = (r1 && r2 && r3) := by unfold netB; rw [e1, e2, e3]
  have HNET := Lib.hid hnet
  have HE : Hid (wB n.ver 1 1048576 = r1 ∧ n.stops.all stpB = r2 ∧ linksB n.stops.length none n.links = r3) := ⟨e1, e2, e3⟩
  clear hnet e1 e2 e3
  unfold Net.val
  go_enter Try.func18, Try.ntmps18
  by_cases hbig : hs.n ≤ 4096 ∧ hl.n ≤ 16384
  case neg =>
    have hce : checkE n = 3 := by unfold checkE; rw [if_neg (by rw [← HNS.out, ← HNL.out]; exact hbig)]
    have HCE := Lib.hid hce
    clear hce
    by_cases q1 : hs.n ≤ 4096
    · have q2 : ¬ hl.n ≤ 16384 := fun hh => hbig ⟨q1, hh⟩
      clear hbig
      go_wp2_with fail
      go_ret
      exact ⟨by rw [HCE.out]; rfl, B0.out⟩
    · clear hbig
      go_wp2_with fail
      go_ret
      exact ⟨by rw [HCE.out]; rfl, B0.out⟩
  case pos =>
    obtain ⟨q1, q2⟩ := hbig
    have hcz : checkE n = if (r1 && r2 && r3) = true then 0 else 2 := by
      unfold checkE
      rw [if_pos (by rw [← HNS.out, ← HNL.out]; exact ⟨q1, q2⟩), HNET.out]
    have HCZ := Lib.hid hcz
    have u1 : ¬ 4096 < hs.n := by omega
    have u2 : ¬ 16384 < hl.n := by omega
    clear hcz
    go_upto_region 3 with fail
    go_cut [3] (fun v wx => v = .bool (!(r1 && r2)) ∧ Hid (NetBox wx w.heap.size n hs hl) ∧ Hid (Below w.heap.size w wx))
    case first =>
      obtain ⟨kk, k0, k1, k2⟩ := TB0.out.cells
      cases r1 with
      | false =>
        go_wp2_with (go_at_call 32; refine (within_any _ _ _ _).mono ?_; rintro e w' ⟨rfl, rfl⟩; rw [HE.out.1])
        go_meet
        exact ⟨by simp, TB0.out, B0.out⟩
      | true =>
        go_wp2_with (first
          | (go_at_call 32; refine (within_any _ _ _ _).mono ?_; rintro e w' ⟨rfl, rfl⟩; rw [HE.out.1])
          | (go_at_call 33; refine (scontains_any hs.a hs.n hs.cap n.stops _ m1 (h.s.below B0.out)).mono ?_; rintro e w1 ⟨rfl, hb1⟩; rw [HE.out.2.1]; have TB1 := Lib.hid (TB0.out.below hb1); have HB1 := Lib.hid (B0.out.trans (hb1.mono B0.out.size)); clear hb1))
        go_meet
        exact ⟨by simp, TB1.out, HB1.out⟩
    obtain ⟨rfl, TB, HB⟩ := hcut
    obtain ⟨W1, hW1⟩ : ∃ W1 : World, W1 = wc := ⟨_, rfl⟩
    subst hW1
    obtain ⟨pb, hpb⟩ : ∃ pb, (r1 && r2) = pb := ⟨_, rfl⟩
    rw [hpb] at HCZ ⊢
    clear hpb HNET
    have hsb := HB.out.size
    obtain ⟨kk, k0, k1, k2⟩ := TB.out.cells
    have mixed : Try.prog.follows .mixedOrders = true := by kernel_rfl
    have HLN : Hid (r3 = linksB n.stops.length none n.links) := HE.out.2.2.symm
    obtain ⟨wo, hwo⟩ : ∃ wo : World, wo = w := ⟨_, rfl⟩
    clear hwo wo
    go_upto_block 0 with fail
    go_cut [3] (fun v wx => v = .bool (!(pb && r3)) ∧ Hid (Below w.heap.size w wx))
    case first =>
      go_wp2_with fail
      go_loopw [3, 28] (fun v i wr => ∃ k : Nat, i = .int .i64 k ∧ k ≤ hl.n ∧ v = .bool (!pb) ∧ Hid (r3 = linksB n.stops.length (prv n.links k) (n.links.drop k)) ∧ Hid (NetBox wr w.heap.size n hs hl) ∧ Hid (Below w.heap.size w wr)) (fun _ i _ => hl.n - (intOf i).toNat)
      case atStart => exact ⟨0, rfl, by omega, rfl, HLN.out, TB.out, HB.out⟩
      case round =>
        obtain ⟨k, rfl, hk, rfl, hgo, TR, HR⟩ := hrel
        clear kk k0 k1 k2
        obtain ⟨kk, k0, k1, k2⟩ := TR.out.cells
        have hsr := HR.out.size
        by_cases hlt : k < hl.n
        · obtain ⟨b, off, l, ha, hbl, hr, c0, c1, c2⟩ := lnk_at (h.l.below HR.out) hlt
          have HLA := Lib.hid ha
          have HRR := Lib.hid hr
          have hst := linksB_at (k := n.stops.length) hr
          rw [← HNS.out] at hst
          have hgo2 := hgo.out
          rw [← HNS.out, hst] at hgo2
          have HGO := Lib.hid hgo2
          have b0 : (k : Int) < (hl.n : Int) := by omega
          have TBX := Lib.hid (TR.out.alloc (.cells #[.int .i64 l.a, .int .i64 l.b, .int .i64 l.w] 62))
          have HBX := Lib.hid (HR.out.alloc hsr (.cells #[.int .i64 l.a, .int .i64 l.b, .int .i64 l.w] 62))
          have HLX := Lib.hid (box_new wr (.cells #[.int .i64 l.a, .int .i64 l.b, .int .i64 l.w] 62))
          obtain ⟨W2, hW2⟩ : ∃ W2, wr.alloc (.cells #[.int .i64 l.a, .int .i64 l.b, .int .i64 l.w] 62) = W2 := ⟨_, rfl⟩
          obtain ⟨ok, hok⟩ : ∃ ok, stepB hs.n n.links k l = ok := ⟨_, rfl⟩
          have HOK := Lib.hid hok
          clear hr hst hgo2 hok
          rw [ha] at k2
          rw [hW2] at TBX HBX HLX
          go_upto_region 7 with fail
          have hbig := HBX.out.size
          clear hW2 c0 c1 c2 kk k0 k1 k2
          obtain ⟨kk, k0, k1, k2⟩ := TBX.out.cells
          obtain ⟨x0, x1, x2, -, -, -⟩ := box3_cells HLX.out
          go_cut [71] (fun v wx => v = .bool (!ok) ∧ Hid (Below W2.heap.size W2 wx))
          case first =>
            have K1 := cell_regrown k1
            have K2 := cell_regrown k2
            have X0 := cell_regrown x0
            have X1 := cell_regrown x1
            have X2 := cell_regrown x2
            rcases lnk_cases hs.n l with ⟨hb, hc⟩ | ⟨hb, d1, d2, d3, d4⟩
            · obtain rfl : ok = false := by rw [← HOK.out]; exact step_bad hb
              clear hb HOK k0 k1 k2 x0 x1 x2
              rcases hc with d1 | ⟨d1, d2⟩ | ⟨d1, d2, d3⟩ | ⟨d1, d2, d3, d4⟩
              · refine wp_region_quiet_below (by assumption) (by kernel_rfl) ?_
                repeat (go_big_quiet_step (fail))
                refine wpQuiet_nil ?_
                intro w2 hw2
                obtain ⟨⟨nd, osq⟩, rfl⟩ := hw2
                go_wp2_with fail
                go_meet
                exact ⟨rfl, below_regrown W2 nd osq⟩
              · have d1' : decide (l.a < 0) = false := decide_eq_false (by omega)
                refine wp_region_quiet_below (by assumption) (by kernel_rfl) ?_
                repeat (go_big_quiet_step (fail))
                refine wpQuiet_nil ?_
                intro w2 hw2
                obtain ⟨⟨nd, osq⟩, rfl⟩ := hw2
                go_wp2_with fail
                go_meet
                exact ⟨rfl, below_regrown W2 nd osq⟩
              · have d1' : decide (l.a < 0) = false := decide_eq_false (by omega)
                have d2' : decide (l.b ≤ l.a) = false := decide_eq_false (by omega)
                refine wp_region_quiet_below (by assumption) (by kernel_rfl) ?_
                repeat (go_big_quiet_step (fail))
                refine wpQuiet_nil ?_
                intro w2 hw2
                obtain ⟨⟨nd, osq⟩, rfl⟩ := hw2
                go_wp2_with fail
                go_meet
                exact ⟨rfl, below_regrown W2 nd osq⟩
              · have d1' : decide (l.a < 0) = false := decide_eq_false (by omega)
                have d2' : decide (l.b ≤ l.a) = false := decide_eq_false (by omega)
                have d3' : decide ((hs.n : Int) ≤ l.b) = false := decide_eq_false (by omega)
                have D4 := Lib.hid d4
                clear d4
                refine wp_region_quiet_below (by assumption) (by kernel_rfl) ?_
                repeat (go_big_quiet_step ((go_at_call 32; exact Calls.regrown_of (within_f _ _ _ _ D4.out))))
                refine wpQuiet_nil ?_
                intro w2 hw2
                obtain ⟨⟨nd, osq⟩, rfl⟩ := hw2
                go_wp2_with fail
                go_meet
                exact ⟨rfl, below_regrown W2 nd osq⟩
            · have d1' : decide (l.a < 0) = false := decide_eq_false (by omega)
              have d2' : decide (l.b ≤ l.a) = false := decide_eq_false (by omega)
              have d3' : decide ((hs.n : Int) ≤ l.b) = false := decide_eq_false (by omega)
              have D4 := Lib.hid d4
              have HLB := Lib.hid hb
              clear d4 hb
              cases k with
              | zero =>
                obtain rfl : ok = true := by rw [← HOK.out]; exact step_first HLB.out
                clear HOK k0 k1 k2 x0 x1 x2
                refine wp_region_quiet_below (by assumption) (by kernel_rfl) ?_
                repeat (go_big_quiet_step ((go_at_call 32; exact Calls.regrown_of (within_t _ _ _ _ D4.out))))
                refine wpQuiet_nil ?_
                intro w2 hw2
                obtain ⟨⟨nd, osq⟩, rfl⟩ := hw2
                go_wp2_with fail
                go_meet
                exact ⟨rfl, below_regrown W2 nd osq⟩
              | succ j =>
                obtain ⟨b', off', p, ha', hbl', hr', p0, p1, p2⟩ := lnk_at (h.l.below HBX.out) (show j < hl.n by omega)
                rw [HLA.out] at ha'
                cases ha'
                have P0 := cell_regrown p0
                have P1 := cell_regrown p1
                have P2 := cell_regrown p2
                have HA : Hid (aftB p l = ok) := (step_next HLB.out hr').symm.trans HOK.out
                have r2 : IntKind.i64.wrap (j : Int) = (j : Int) := by rw [IntKind.wrap_i64]; omega
                have g1 : (0 : Int) < (j : Int) + 1 := by omega
                have g2 : (j : Int) < (hl.n : Int) := by omega
                have g3 : (0 : Int) ≤ (j : Int) := by omega
                clear HOK k0 k1 k2 x0 x1 x2 p0 p1 p2 hr'
                rw [HLA.out] at K2
                refine wp_region_quiet_below (by assumption) (by kernel_rfl) ?_
                repeat (go_big_quiet_step (first | (go_at_call 32; exact Calls.regrown_of (within_t _ _ _ _ D4.out)) | (go_at_call 35; exact Calls.regrown_of (after_b p l _ ok HA.out))))
                refine wpQuiet_nil ?_
                intro w2 hw2
                obtain ⟨⟨nd, osq⟩, rfl⟩ := hw2
                go_wp2_with fail
                go_meet
                exact ⟨rfl, below_regrown W2 nd osq⟩
          obtain ⟨rfl, HQ⟩ := hcut
          have TQ := Lib.hid (TBX.out.below HQ.out)
          have HBQ : Hid (Below w.heap.size w wc) := HBX.out.trans (HQ.out.mono HBX.out.size)
          cases ok with
          | false =>
            go_wp2_with fail
            go_meet
            refine ⟨?_, HBQ.out⟩
            have := HGO.out
            rw [HOK.out] at this
            rw [this]; simp
          | true =>
            go_wp2_with fail
            go_roundw
            case rel => exact ⟨k + 1, by go_num, by omega, rfl, by have := HGO.out; rw [HOK.out] at this; rw [← HNS.out, this]; rfl, TQ.out, HBQ.out⟩
            case measure => simp [intOf]; omega
        · have hk' : k = hl.n := by omega
          have HK := Lib.hid hk'
          clear hk'
          go_wp2_with fail
          go_meet
          refine ⟨?_, HR.out⟩
          have : r3 = true := by
            rw [hgo.out, List.drop_of_length_le (by have := HK.out; have := HNL.out; omega)]
            cases prv n.links k <;> rfl
          rw [this]; simp
    obtain ⟨rfl, HZ⟩ := hcut
    obtain ⟨z, hz⟩ : ∃ z, (pb && r3) = z := ⟨_, rfl⟩
    rw [hz] at HCZ ⊢
    clear hz
    cases z with
    | false =>
      go_wp2_with fail
      go_ret
      exact ⟨by rw [HCZ.out]; rfl, HZ.out⟩
    | true =>
      go_wp2_with fail
      go_ret
      exact ⟨by rw [HCZ.out]; rfl, HZ.out⟩
end Go.Proofs.Ytknbpnkonhniiaa.Ne
