/- Networks: the two stops that are furthest from one another: the document's, walked. -/
import Derived.Test.YteihffnmgacfpaaNeX
import Derived.Test.YteihffnmgacfpaaNeW
namespace Go.Proofs.Yteihffnmgacfpaa.Ne
open Go.RowKit Go.V Go.Proofs Go.Sort Go.Maps

set_option maxHeartbeats 8000000 in
set_option maxRecDepth 100000 in
theorem rround_any (n : Net) (hs hl : Hdr) (w : World) (h : NetIn w n hs hl) (hok : checkE n = 0) (h60 : hs.n ≤ 60) (h120 : hl.n ≤ 120) :
    Calls Try.prog 24 #[n.val hs hl] w fun e w' => e = .returned (.tuple #[.int .i64 (roundE n.links hs.n).a, .int .i64 (roundE n.links hs.n).b, .int .i64 (roundE n.links hs.n).far, .bool (roundB hs.n)]) ∧ Below w.heap.size w w' := by
  obtain ⟨sa, k, sc⟩ := hs
  obtain ⟨la, m, lc⟩ := hl
  have HH := Lib.hid h
  have HOK := Lib.hid hok
  have hkn : k = n.stops.length := h.s.hlen
  have HLO : Hid (LinksOk n.links k) := by show LinksOk _ _; rw [hkn]; exact (check_ok hok).2.2.2.2.1
  have HKN := Lib.hid hkn
  have HX := Lib.hid (box_new w (n.box ⟨sa, k, sc⟩ ⟨la, m, lc⟩))
  have HB0 : Hid (Below w.heap.size w (w.alloc (n.box ⟨sa, k, sc⟩ ⟨la, m, lc⟩))) := (Below.refl _ _).alloc (Nat.le_refl _) _
  obtain ⟨c0, c1, c2, -, -, -⟩ := box3_cells HX.out
  have h60 : k ≤ 60 := h60
  have h120 : m ≤ 120 := h120
  clear h hok hkn
  go_enter Try.func24, Try.ntmps24
  by_cases h0 : k = 0
  · subst h0
    go_wp2_with fail
    go_returns
    refine ⟨?_, HB0.out⟩
    unfold roundE roundB; simp
  · have d0 : ((k : Int) == 0) = false := by simpa using h0
    have d5 : decide (512 < (k : Int)) = false := decide_eq_false (by omega)
    obtain ⟨r, hr⟩ : ∃ r, rout (fun i j => far n.links k i j) k (k - 0) 0 ⟨0, 0, 0⟩ = r := ⟨_, rfl⟩
    have HE : Hid (roundE n.links k = r) := by show _ = _; rw [← hr]; unfold roundE; rw [if_neg (by omega)]; rfl
    have HR := Lib.hid hr
    have HB : Hid (roundB k = true) := by show _ = _; unfold roundB; rw [decide_eq_false (by omega)]; rfl
    clear hr
    obtain ⟨W, hW⟩ : ∃ W, w.alloc (n.box ⟨sa, k, sc⟩ ⟨la, m, lc⟩) = W := ⟨_, rfl⟩
    rw [hW] at HX HB0 c0 c1 c2
    go_wp2_with fail
    clear c0 c1 c2 hW
    go_loopw [6, 7, 8, 9] (fun va vb vf i wr => ∃ (j : Nat) (s : Pk), i = .int .i64 j ∧ j ≤ k ∧ va = .int .i64 s.a ∧ vb = .int .i64 s.b ∧ vf = .int .i64 s.far ∧ Hid (rout (fun i j => far n.links k i j) k (k - j) j s = r) ∧ Hid (Below W.heap.size W wr)) (fun _ _ _ i _ => k - (intOf i).toNat)
    case atStart => exact ⟨0, ⟨0, 0, 0⟩, by go_num, by omega, rfl, rfl, rfl, HR.out, Below.refl _ _⟩
    case round =>
      obtain ⟨j, s, rfl, hj, rfl, rfl, rfl, HRJ, HBJ⟩ := hrel
      have HXJ := Lib.hid (box_below HX.out HBJ.out)
      obtain ⟨c0, c1, c2, -, -, -⟩ := box3_cells HXJ.out
      by_cases hlt : j < k
      · --<<
        go_upto_region 11 with (go_at_call 48; refine (rfrom_any n ⟨sa, k, sc⟩ ⟨la, m, lc⟩ j _ (HH.out.below (HB0.out.trans (HBJ.out.mono HB0.out.size))) HOK.out h60 h120 hlt).mono ?_; rintro e w2 ⟨o, oc, rfl, ho, hb2⟩; have HB2 := Lib.hid (HBJ.out.trans (hb2.mono HBJ.out.size)); rw [← HKN.out] at ho; have HO := Lib.hid ho; clear ho hb2)
        obtain ⟨q, hq⟩ : ∃ q, rin (fun i j => far n.links k i j) j (k - j) j s = q := ⟨_, rfl⟩
        have HQ := Lib.hid hq
        have HRQ := Lib.hid (rout_go HRJ.out hlt)
        have HRQ2 : Hid (rout (fun i j => far n.links k i j) k (k - (j + 1)) (j + 1) q = r) := by
          show _ = _
          have e0 := rin_skip (fun i j => far n.links k i j) j k j 0 s (by omega) (by omega)
          rw [Nat.sub_zero] at e0
          rw [← hq, ← e0]; exact HRQ.out
        clear hq HRQ HRJ c0 c1 c2
        go_loop [6, 7, 8, 11] (fun va vb vf i => ∃ (p : Nat) (t : Pk), i = .int .i64 p ∧ j ≤ p ∧ p ≤ k ∧ va = .int .i64 t.a ∧ vb = .int .i64 t.b ∧ vf = .int .i64 t.far ∧ Hid (rin (fun i j => far n.links k i j) j (k - p) p t = q)) (fun _ _ _ i => k - (intOf i).toNat)
        case atStart => exact ⟨j, s, by go_num, Nat.le_refl _, by omega, rfl, rfl, rfl, HQ.out⟩
        case round =>
          obtain ⟨p, t, rfl, hjp, hp, rfl, rfl, rfl, HRP⟩ := hrel
          by_cases hpk : p < k
          · obtain ⟨d, hd, d0, -, hbl⟩ := icells HO.out bf_len.symm hpk
            have hdf : d = far n.links k j p := Option.some.inj (hd.symm.trans (bf_at (L := n.links) (k := k) (a := (j : Int)) HLO.out (by omega) hpk))
            have HDF := Lib.hid hdf
            have HGO := Lib.hid (rin_go HRP.out hpk)
            clear hd hdf
            by_cases hf : t.far < d
            · have HP : Hid (pkStep j p (far n.links k j p) t = ⟨j, p, d⟩) := by show _ = _; unfold pkStep; rw [← HDF.out, if_pos ⟨hjp, hf⟩]
              go_wp2_with fail
              go_round
              case rel => exact ⟨p + 1, ⟨j, p, d⟩, by go_num, by omega, by omega, rfl, rfl, rfl, by have := HGO.out; rw [HP.out] at this; exact this⟩
              case measure => simp [intOf]; omega
            · have d2 : decide (t.far < d) = false := decide_eq_false hf
              have HP : Hid (pkStep j p (far n.links k j p) t = t) := by show _ = _; unfold pkStep; rw [← HDF.out, if_neg (fun q => hf q.2)]
              go_wp2_with fail
              go_round
              case rel => exact ⟨p + 1, t, by go_num, by omega, by omega, rfl, rfl, rfl, by have := HGO.out; rw [HP.out] at this; exact this⟩
              case measure => simp [intOf]; omega
          · have hpk2 : p = k := by omega
            subst hpk2
            have HTQ := Lib.hid (rin_end HRP.out)
            go_wp2_with fail
            go_roundw
            case rel => exact ⟨j + 1, t, by go_num, by omega, rfl, rfl, rfl, by rw [HTQ.out]; exact HRQ2.out, HB2.out⟩
            case measure => simp [intOf]; omega
        -->>
      · have hjk : j = k := by omega
        subst hjk
        have HSR := Lib.hid (rout_end HRJ.out)
        go_wp2_with fail
        go_returns
        refine ⟨?_, HB0.out.trans (HBJ.out.mono HB0.out.size)⟩
        rw [HE.out, HB.out, ← HSR.out]
end Go.Proofs.Yteihffnmgacfpaa.Ne
