/- Networks: which are right, by the reference. -/
import Derived.Test.YtknbpnkonhniiaaNeD
namespace Go.Proofs.Ytknbpnkonhniiaa.Ne
open Go.RowKit Go.V Go.Proofs

theorem rmay_b (x y : Int) (w : World) (b : Bool) (h : mayB x y = b) : Calls Try.prog 23 #[.int .i64 x, .int .i64 y] w fun e w' => e = .returned (.bool b) ∧ w' = w :=
  (rmay_any x y w).mono fun _ _ ⟨h1, h2⟩ => ⟨by rw [h1, h], h2.symm⟩

set_option maxHeartbeats 4000000 in
set_option maxRecDepth 100000 in
theorem rcheck_any (n : Net) (hs hl : Hdr) (w : World) (hm : hs.n ≤ 1000000 ∧ hl.n ≤ 1000000) (h : NetIn w n hs hl) :
    Calls Try.prog 13 #[n.val hs hl] w fun e w' => e = .returned (.int .i64 (checkE n)) ∧ Below w.heap.size w w' := by
  obtain ⟨m1, m2⟩ := hm
  have HNS := Lib.hid h.s.hlen
  have HNL := Lib.hid h.l.hlen
  have TB0 : Hid (NetBox (w.alloc (n.box hs hl)) w.heap.size n hs hl) := box_new _ _
  have B0 : Hid (Below w.heap.size w (w.alloc (n.box hs hl))) := (Below.refl _ _).alloc (Nat.le_refl _) _
  unfold Net.box at TB0 B0
  have mixed : Try.prog.follows .mixedOrders = true := by kernel_rfl
  unfold Net.val
  go_enter Try.func13, Try.ntmps13
  by_cases hbig : hs.n ≤ 4096 ∧ hl.n ≤ 16384
  case neg =>
    have hce : checkE n = 3 := by unfold checkE; rw [if_neg (by rw [← HNS.out, ← HNL.out]; exact hbig)]
    have HCE := Lib.hid hce
    clear hce
    by_cases q1 : hs.n ≤ 4096
    · have q2 : ¬ hl.n ≤ 16384 := fun hh => hbig ⟨q1, hh⟩
      clear hbig
      go_wp2_with fail
      go_ret
      exact ⟨by rw [HCE.out]; rfl, B0.out⟩
    · clear hbig
      go_wp2_with fail
      go_ret
      exact ⟨by rw [HCE.out]; rfl, B0.out⟩
  case pos =>
    obtain ⟨q1, q2⟩ := hbig
    have hcz : checkE n = if netB n = true then 0 else 2 := by
      unfold checkE
      rw [if_pos (by rw [← HNS.out, ← HNL.out]; exact ⟨q1, q2⟩)]
    have HCZ := Lib.hid hcz
    have HNB : Hid (netB n = (wB n.ver 1 1048576 && n.stops.all stpB && linksB n.stops.length none n.links)) := rfl
    have u1 : ¬ 4096 < hs.n := by omega
    have u2 : ¬ 16384 < hl.n := by omega
    clear hcz
    obtain ⟨kk, k0, k1, k2⟩ := TB0.out.cells
    by_cases hv : 1 ≤ n.ver ∧ n.ver ≤ 1048576
    case neg =>
      have HV : Hid (checkE n = 2) := by
        show _ = _
        rw [HCZ.out, HNB.out, show wB n.ver 1 1048576 = false from decide_eq_false hv]; rfl
      go_wp2_with fail
      all_goals
        go_ret
        exact ⟨by rw [HV.out]; rfl, B0.out⟩
    case pos =>
      have HV : Hid (wB n.ver 1 1048576 = true) := decide_eq_true hv
      obtain ⟨v1, v2⟩ := hv
      go_wp2_with fail
      obtain ⟨W, hW⟩ : ∃ W, w.alloc (.cells #[.int .i64 n.ver, .slice hs.a hs.n hs.cap, .slice hl.a hl.n hl.cap] 25) = W := ⟨_, rfl⟩
      rw [hW] at TB0 B0 ⊢
      have hsw := B0.out.size
      clear hW kk k0 k1 k2
      go_loopw [3] (fun i wr => ∃ k : Nat, i = .int .i64 k ∧ k ≤ hs.n ∧ Hid ((n.stops.take k).all stpB = true) ∧ Hid (Below W.heap.size W wr)) (fun i _ => hs.n - (intOf i).toNat)
      case atStart => exact ⟨0, rfl, by omega, rfl, Below.refl _ _⟩
      case round =>
        obtain ⟨k, rfl, hk, hall, hB⟩ := hrel
        have HBW : Hid (Below w.heap.size w wr) := B0.out.trans (hB.out.mono hsw)
        obtain ⟨kk, k0, k1, k2⟩ := (TB0.out.below hB.out).cells
        by_cases hlt : k < hs.n
        · obtain ⟨b, off, s, ha, hbl, hr, c0, c1⟩ := stp_at (h.s.below HBW.out) hlt
          have HR := Lib.hid hr
          have b1 : (k : Int) < (hs.n : Int) := by omega
          rw [ha] at k1
          clear hr ha
          obtain ⟨bb, hbb⟩ : ∃ bb, stpB s = bb := ⟨_, rfl⟩
          have HBB : Hid (mayB s.x s.y = bb) := hbb
          have HB2 := Lib.hid hbb
          clear hbb
          go_wp2_with fail
          go_quiet ((go_at_call 23; exact Calls.quiet_of_same (rmay_b _ _ _ _ HBB.out)))
          cases bb with
          | true =>
            go_wp2_with fail
            go_roundw
            case rel => exact ⟨k + 1, by go_num, by omega, by show _ = _; rw [take_at HR.out, List.all_append, hall.out]; simp [HB2.out], below_drewN hB.out _⟩
            case measure => simp [intOf]; omega
          | false =>
            go_wp2_with fail
            go_ret
            refine ⟨?_, below_drewN HBW.out _⟩
            have : n.stops.all stpB = false := by
              rw [Bool.eq_false_iff]; intro hh
              have := List.all_eq_true.1 hh s (List.mem_of_getElem? HR.out)
              rw [HB2.out] at this; cases this
            rw [HCZ.out, HNB.out, this, HV.out]; rfl
        · have hk' : k = hs.n := by omega
          have HSA : Hid (n.stops.all stpB = true) := by
            have := hall.out
            rwa [List.take_of_length_le (by have := HNS.out; omega)] at this
          clear hk' hall
          go_wp2_with fail
          obtain ⟨wo, rfl⟩ : ∃ wo : World, wo = wr := ⟨_, rfl⟩
          have TBO := Lib.hid (TB0.out.below hB.out)
          clear kk k0 k1 k2
          go_loopw [4] (fun i wr => ∃ k : Nat, i = .int .i64 k ∧ k ≤ hl.n ∧ Hid (linksB n.stops.length none n.links = linksB n.stops.length (prv n.links k) (n.links.drop k)) ∧ Hid (Below wo.heap.size wo wr)) (fun i _ => hl.n - (intOf i).toNat)
          case atStart => exact ⟨0, rfl, by omega, rfl, Below.refl _ _⟩
          case round =>
            obtain ⟨k, rfl, hk, hgo, hB2⟩ := hrel
            have HBX : Hid (Below w.heap.size w wr) := HBW.out.trans (hB2.out.mono HBW.out.size)
            have hsx := hB2.out.size
            obtain ⟨kk, k0, k1, k2⟩ := (TBO.out.below hB2.out).cells
            by_cases hlt : k < hl.n
            · obtain ⟨b, off, l, ha, hbl, hr, c0, c1, c2⟩ := lnk_at (h.l.below HBX.out) hlt
              have hst := linksB_at (k := n.stops.length) hr
              rw [← HNS.out] at hst
              have hgo2 := hgo.out
              rw [← HNS.out, hst] at hgo2
              have HGO := Lib.hid hgo2
              have HRR := Lib.hid hr
              have HLA := Lib.hid ha
              have b0 : (k : Int) < (hl.n : Int) := by omega
              have HBY := Lib.hid (hB2.out.alloc hsx (.cells #[.int .i64 l.a, .int .i64 l.b, .int .i64 l.w] 62))
              have HBE : Hid (Below w.heap.size w _) := HBW.out.trans (HBY.out.mono HBW.out.size)
              rw [ha] at k2
              clear ha
              rcases lnk_cases hs.n l with ⟨hb, hc⟩ | ⟨hb, d1, d2, d3, d4⟩
              · have HLB := Lib.hid hb
                have hc' : l.a < 0 ∨ (0 ≤ l.a ∧ l.b ≤ l.a) ∨ (0 ≤ l.a ∧ l.a < l.b ∧ (hs.n : Int) ≤ l.b) ∨ (0 ≤ l.a ∧ l.a < l.b ∧ l.b < hs.n ∧ l.w < 1) ∨ (0 ≤ l.a ∧ l.a < l.b ∧ l.b < hs.n ∧ 1 ≤ l.w ∧ 1048576 ≤ l.w) := by
                  simp only [wB, decide_eq_false_iff_not] at hc; omega
                clear hr hst hgo2 hc hb
                rcases hc' with d1 | ⟨d1, d2⟩ | ⟨d1, d2, d3⟩ | ⟨d1, d2, d3, d4⟩ | ⟨d1, d2, d3, d4, d5⟩
                all_goals
                  go_wp2_with fail
                  go_ret
                  refine ⟨?_, HBE.out⟩
                  rw [HCZ.out, HNB.out, ← HNS.out, HGO.out, step_bad HLB.out, HV.out, HSA.out]; rfl
              · have hd4 : 1 ≤ l.w ∧ l.w ≤ 1048575 := of_decide_eq_true d4
                obtain ⟨d5, d6⟩ := hd4
                have HLB := Lib.hid hb
                clear hr hst hgo2 hb d4
                cases k with
                | zero =>
                  rw [Nat.zero_mul, Nat.add_zero] at c0 c1 c2
                  go_wp2_with fail
                  go_roundw
                  case rel => exact ⟨1, by go_num, by omega, by show _ = _; have := HGO.out; rw [step_first HLB.out] at this; rw [← HNS.out, this]; rfl, HBY.out⟩
                  case measure => simp [intOf]; omega
                | succ j =>
                  obtain ⟨b', off', p, ha', hbl', hr', p0, p1, p2⟩ := lnk_at (h.l.below HBX.out) (show j < hl.n by omega)
                  rw [HLA.out] at ha'
                  cases ha'
                  have HPR := Lib.hid hr'
                  have r2 : IntKind.i64.wrap (j : Int) = (j : Int) := by rw [IntKind.wrap_i64]; omega
                  have g1 : (0 : Int) < (j : Int) + 1 := by omega
                  have g2 : (j : Int) < (hl.n : Int) := by omega
                  have g3 : (0 : Int) ≤ (j : Int) := by omega
                  clear hr'
                  by_cases haf : p.a < l.a ∨ p.a = l.a ∧ p.b < l.b
                  · have HA : Hid (aftB p l = true) := decide_eq_true haf
                    have HBG : Hid (Below wo.heap.size wo ((wr.alloc (.cells #[.int .i64 l.a, .int .i64 l.b, .int .i64 l.w] 62)).alloc (.cells #[.int .i64 p.a, .int .i64 p.b, .int .i64 p.w] 62))) := HBY.out.alloc HBY.out.size _
                    have hs3 : linksB n.stops.length none n.links = linksB n.stops.length (prv n.links (j + 1 + 1)) (n.links.drop (j + 1 + 1)) := by
                      have := HGO.out
                      rw [step_next HLB.out HPR.out, HA.out] at this
                      rw [← HNS.out, this]; rfl
                    have HS3 := Lib.hid hs3
                    clear hs3
                    rcases haf with q | ⟨q, q'⟩
                    · have y1 : ¬ l.a < p.a := by omega
                      have y2 : (l.a == p.a) = false := by simp; omega
                      go_wp2_with fail
                      go_roundw
                      case rel => exact ⟨j + 1 + 1, by go_num, by omega, HS3.out, HBG.out⟩
                      case measure => simp [intOf]; omega
                    · have y1 : ¬ l.a < p.a := by omega
                      have y2 : (l.a == p.a) = true := by simp; omega
                      have y3 : ¬ l.b ≤ p.b := by omega
                      clear q
                      go_wp2_with fail
                      go_roundw
                      case rel => exact ⟨j + 1 + 1, by go_num, by omega, HS3.out, HBG.out⟩
                      case measure => simp [intOf]; omega
                  · have HA : Hid (aftB p l = false) := decide_eq_false haf
                    have HBG : Hid (Below w.heap.size w ((wr.alloc (.cells #[.int .i64 l.a, .int .i64 l.b, .int .i64 l.w] 62)).alloc (.cells #[.int .i64 p.a, .int .i64 p.b, .int .i64 p.w] 62))) := HBE.out.alloc HBE.out.size _
                    have hs3 : checkE n = 2 := by
                      have := HGO.out
                      rw [step_next HLB.out HPR.out, HA.out] at this
                      rw [HCZ.out, HNB.out, ← HNS.out, this, HV.out, HSA.out]; rfl
                    have HS3 := Lib.hid hs3
                    clear hs3
                    have hcs : l.a < p.a ∨ (¬ l.a < p.a ∧ (l.a == p.a) = true ∧ l.b ≤ p.b) := by simp; omega
                    clear haf
                    rcases hcs with q | ⟨q, q', q''⟩
                    all_goals
                      go_wp2_with fail
                      go_ret
                      exact ⟨by rw [HS3.out]; rfl, HBG.out⟩
            · have hk' : k = hl.n := by omega
              have HLT : Hid (linksB n.stops.length none n.links = true) := by
                show _ = _
                rw [hgo.out, List.drop_of_length_le (by have := HNL.out; omega)]
                cases prv n.links k <;> rfl
              clear hk'
              go_wp2_with fail
              go_ret
              refine ⟨?_, HBX.out⟩
              rw [HCZ.out, HNB.out, HLT.out, HV.out, HSA.out]; rfl
end Go.Proofs.Ytknbpnkonhniiaa.Ne
