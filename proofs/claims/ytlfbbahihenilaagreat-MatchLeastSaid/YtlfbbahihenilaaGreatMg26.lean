/- Candidates: ref21.Points: walked. -/
/- Networks: which are right, by the reference. -/
import Derived.Test.YtlfbbahihenilaaGreatMg11
import Derived.Test.YtlfbbahihenilaaGreatMg14
namespace Go.Proofs.YtlfbbahihenilaaGreat.Ne
open Go.RowKit Go.V Go.Proofs

set_option maxHeartbeats 8000000 in
set_option maxRecDepth 100000 in
theorem rpoints_any (n : Net) (hs hl : Hdr) (x : Wgh) (s : Smp) (w : World) (hn : n.stops.length ≤ 200) (hr : 0 ≤ x.reach ∧ x.reach ≤ 1048576 ∧ 0 ≤ x.most) (hnet : NetIn w n hs hl) :
    Calls Tryz.prog 61 #[n.val hs hl, x.val, s.val] w fun e w' => ∃ v, e = .returned v ∧ V.Own 141 Fnd.cod w.heap.size w' v (ptsE n.stops s x.reach x.most.toNat) ∧ Below w.heap.size w w' := by
  obtain ⟨xr, xm, xf, xc⟩ := x
  obtain ⟨r0, r1, r2⟩ := hr
  have r0 : 0 ≤ xr := r0
  have r1 : xr ≤ 1048576 := r1
  have r2 : 0 ≤ xm := r2
  obtain ⟨mk, hmk⟩ : ∃ mk : Nat, xm = mk := ⟨xm.toNat, by omega⟩
  subst hmk
  rw [Int.toNat_natCast]
  have HX0 : Hid ((((w.alloc (n.box hs hl)).alloc (Wgh.mk xr mk xf xc).box).alloc (.cells #[.int .i64 s.t, .int .i64 s.x, .int .i64 s.y] 73)).heap[w.heap.size]? = some (.cells #[.int .i64 n.ver, .slice hs.a hs.n hs.cap, .slice hl.a hl.n hl.cap] 25 (0, 0))) := box_alloc (box_alloc (box_new w _))
  have HY0 : Hid ((((w.alloc (n.box hs hl)).alloc (Wgh.mk xr mk xf xc).box).alloc (.cells #[.int .i64 s.t, .int .i64 s.x, .int .i64 s.y] 73)).heap[w.heap.size + 1]? = some (.cells #[.int .i64 xr, .int .i64 (mk : Int), .int .i64 xf, .int .i64 xc] 29 (0, 0))) := by
    have := box_new (w.alloc (n.box hs hl)) (Wgh.mk xr mk xf xc).box
    rw [World.size_alloc] at this
    exact box_alloc this
  have HZ0 : Hid ((((w.alloc (n.box hs hl)).alloc (Wgh.mk xr mk xf xc).box).alloc (.cells #[.int .i64 s.t, .int .i64 s.x, .int .i64 s.y] 73)).heap[w.heap.size + 2]? = some (.cells #[.int .i64 s.t, .int .i64 s.x, .int .i64 s.y] 73 (0, 0))) := by
    have := box_new ((w.alloc (n.box hs hl)).alloc (Wgh.mk xr mk xf xc).box) (.cells #[.int .i64 s.t, .int .i64 s.x, .int .i64 s.y] 73)
    rw [World.size_alloc, World.size_alloc] at this
    exact this
  have HB0 : Hid (Below w.heap.size w (((w.alloc (n.box hs hl)).alloc (Wgh.mk xr mk xf xc).box).alloc (.cells #[.int .i64 s.t, .int .i64 s.x, .int .i64 s.y] 73))) := (((Below.refl _ _).alloc (Nat.le_refl _) _).alloc (by simp) _).alloc (by simp; omega) _
  have HN := Lib.hid hnet.s.hlen
  have hn2 : hs.n ≤ 200 := by rw [HN.out]; exact hn
  have HS := Lib.hid hnet.s
  have HP := Lib.hid (pts_nums n.stops s xr mk)
  have HPL := Lib.hid (pts_len n.stops s xr mk)
  have hin : ∀ i ∈ nearL s.pt n.stops (xr * xr) mk, ∃ j : Nat, i = (j : Int) ∧ j < n.stops.length := by
    intro i hi
    obtain ⟨f, hf, rfl⟩ := List.mem_map.1 hi
    obtain ⟨k, hk, rfl, -⟩ := ((near_good s.pt n.stops (xr * xr)).2 f).1 (List.mem_of_mem_take hf)
    exact ⟨k, rfl, hk⟩
  obtain ⟨L, hL⟩ : ∃ L, nearL s.pt n.stops (xr * xr) mk = L := ⟨_, rfl⟩
  have HL := Lib.hid hL
  rw [hL] at HP hin
  have HIN := Lib.hid hin
  clear hnet hin hL
  go_enter Tryz.func61, Tryz.ntmps61
  have hx0 := (box_cell HX0.out 1).1
  have hy0 := (box_cell HY0.out 0).1
  have hy1 := (box_cell HY0.out 1).1
  have hz1 := (box_cell HZ0.out 1).1
  have hz2 := (box_cell HZ0.out 2).1
  go_upto_block 0 with (go_at_call 90; go_fit (rnear_any hs.a hs.n hs.cap n.stops s.pt xr mk _ hn2 ⟨r0, by omega⟩ (HS.out.below HB0.out)); rintro e w3 ⟨v3, rfl, ho3, hb3⟩; rw [HL.out] at ho3; obtain ⟨la, lc, rfl, hsl, -⟩ := ho3.slice; have HLS := Lib.hid hsl; have HX3 := Lib.hid (box_below HX0.out hb3); have HZ3 := Lib.hid (box_below HZ0.out hb3); have HB3 := Lib.hid (HB0.out.trans (hb3.mono HB0.out.size)); have hw3 := hb3.size; clear ho3 hsl hb3)
  obtain ⟨ln, hln⟩ : ∃ k, L.length = k := ⟨_, rfl⟩
  have HLN := Lib.hid hln
  rw [hln] at HLS ⊢
  have hln2 : ln ≤ 200 := by rw [← hln, ← HL.out]; exact Nat.le_trans (by unfold nearL; rw [List.length_map, List.length_take]; have := near_len s.pt n.stops (xr * xr); omega) hn
  have hw30 : w.heap.size + 3 ≤ w3.heap.size := by simp at hw3; omega
  clear hln hx0 hy0 hy1 hz1 hz2 hw3
  go_wp2_with fail
  go_loopw [7, 9] (fun vo i wr => ∃ (k : Nat) (v : Value), v = vo ∧ k ≤ ln ∧ i = .int .i64 k ∧ Hid (V.Own 141 Fnd.cod w3.heap.size wr v ((L.take k).map (fnd s.pt n.stops))) ∧ Hid (Below w3.heap.size w3 wr)) (fun _ i _ => ln - (intOf i).toNat)
  case atStart => exact ⟨0, _, rfl, by omega, rfl, World.ownsRow_nil _ _ _ _, Below.refl _ _⟩
  case round =>
    obtain ⟨k, v, rfl, hk, rfl, ho, hb⟩ := hrel
    by_cases hlt : k < ln
    · have hltz : (k : Int) < (ln : Int) := by omega
      obtain ⟨lb, lo, i, rfl, hlb, hi, c0⟩ := int_at HLS.out hlt
      obtain ⟨j, rfl, hj⟩ := HIN.out i (List.mem_of_getElem? hi)
      have HB3r : Hid (Below w.heap.size w w3) := HB3.out
      obtain ⟨bs, off, r, hsa, hbs, hrj, d0, d1⟩ := stp_at (HS.out.below HB3.out) (i := j) (by rw [HN.out]; exact hj)
      have hx3 := (box_cell HX3.out 1).1
      rw [show (#[Value.int .i64 n.ver, Value.slice hs.a hs.n hs.cap, Value.slice hl.a hl.n hl.cap] : Array Value)[1]? = some (.slice hs.a hs.n hs.cap) from rfl, hsa] at hx3
      have hz31 := (box_cell HZ3.out 1).1
      have hz32 := (box_cell HZ3.out 2).1
      have hsz : w3.heap.size ≤ wr.heap.size := hb.out.size
      obtain ⟨q, hq⟩ : ∃ q, sqG r s.pt = q := ⟨_, rfl⟩
      have HQ := Lib.hid hq
      have HF : Hid (fnd s.pt n.stops (j : Int) = ⟨j, q⟩) := by
        show _ = _
        unfold fnd
        rw [Int.toNat_natCast, List.getD_eq_getElem?_getD, hrj, ← hq, sqE_comm]; rfl
      have hjn : (j : Int) < (hs.n : Int) := by rw [HN.out]; omega
      have HSN : Hid ((L.take (k + 1)).map (fnd s.pt n.stops) = (L.take k).map (fnd s.pt n.stops) ++ [⟨j, q⟩]) := by
        show _ = _
        rw [take_at hi, List.map_append, List.map_cons, List.map_nil, HF.out]
      have hlen : ((L.take k).map (fnd s.pt n.stops)).length ≤ 200 := by rw [List.length_map, List.length_take]; omega
      have HM1 : Hid (((L.take k).map (fnd s.pt n.stops)).length + 1 ≤ maxLen) := by show _ ≤ _; unfold maxLen; omega
      have HM2 : Hid ((((L.take k).map (fnd s.pt n.stops)).length + 1) * 16 ≤ 140737488355328) := by show _ ≤ _; omega
      have HK2 : Hid (∀ w' rr, wr.grownBy w' rr → (∀ k, rr = some k → w3.heap.size ≤ k) → w'.cell? ⟨lb, lo + k, none⟩ = some (.int .i64 (j : Int)) ∧ w'.cell? ⟨w.heap.size, 1, none⟩ = some (.slice (some ⟨bs, off, none⟩) hs.n hs.cap) ∧ w'.cell? ⟨bs, off + j * 2, none⟩ = some (.int .i64 r.x) ∧ w'.cell? ⟨bs, off + j * 2 + 1, none⟩ = some (.int .i64 r.y) ∧ w'.cell? ⟨w.heap.size + 1 + 1, 1, none⟩ = some (.int .i64 s.x) ∧ w'.cell? ⟨w.heap.size + 1 + 1, 2, none⟩ = some (.int .i64 s.y)) := fun w' rr hgr hrr => by
        have hbw : Below w3.heap.size w3 w' := hb.out.trans (below_of_grb hgr hrr hsz)
        exact ⟨(hbw.cell (p := ⟨lb, lo + k, none⟩) hlb).trans c0, (hbw.cell (p := ⟨w.heap.size, 1, none⟩) (by show w.heap.size < _; omega)).trans hx3, (hbw.cell (p := ⟨bs, off + j * 2, none⟩) hbs).trans d0, (hbw.cell (p := ⟨bs, off + j * 2 + 1, none⟩) hbs).trans d1, (hbw.cell (p := ⟨w.heap.size + 1 + 1, 1, none⟩) (by show w.heap.size + 1 + 1 < _; omega)).trans hz31, (hbw.cell (p := ⟨w.heap.size + 1 + 1, 2, none⟩) (by show w.heap.size + 1 + 1 < _; omega)).trans hz32⟩
      have HK : Hid (∀ w', Below wr.heap.size wr w' → w'.cell? ⟨lb, lo + k, none⟩ = some (.int .i64 (j : Int)) ∧ w'.cell? ⟨w.heap.size, 1, none⟩ = some (.slice (some ⟨bs, off, none⟩) hs.n hs.cap) ∧ w'.cell? ⟨bs, off + j * 2, none⟩ = some (.int .i64 r.x) ∧ w'.cell? ⟨bs, off + j * 2 + 1, none⟩ = some (.int .i64 r.y) ∧ w'.cell? ⟨w.heap.size + 1 + 1, 1, none⟩ = some (.int .i64 s.x) ∧ w'.cell? ⟨w.heap.size + 1 + 1, 2, none⟩ = some (.int .i64 s.y)) := fun w' hw' => HK2.out w' none (grb_of_below hw') (fun k hk => nomatch hk)
      obtain ⟨f1, f2, f3, f4, f5, f6⟩ := HK.out _ (Below.refl _ _)
      clear hi hrj hq c0 d0 d1 hx3 hz31 hz32 hlen hsa
      go_upto_region 6 with fail
      go_region_held3 (fun w' => w'.cell? ⟨lb, lo + k, none⟩ = some (.int .i64 (j : Int)) ∧ w'.cell? ⟨w.heap.size, 1, none⟩ = some (.slice (some ⟨bs, off, none⟩) hs.n hs.cap) ∧ w'.cell? ⟨bs, off + j * 2, none⟩ = some (.int .i64 r.x) ∧ w'.cell? ⟨bs, off + j * 2 + 1, none⟩ = some (.int .i64 r.y) ∧ w'.cell? ⟨w.heap.size + 1 + 1, 1, none⟩ = some (.int .i64 s.x) ∧ w'.cell? ⟨w.heap.size + 1 + 1, 2, none⟩ = some (.int .i64 s.y)) (first | exact HK.out _ (Below.refl _ _) | exact HK.out _ (Below.drew (Below.refl _ _)) | exact HK.out _ HC5.out | exact HK.out _ HC5a.out | exact HKK.out) (first
        | (go_at_call 91; go_fit (rsq_any r s.pt _); rintro e w5 ⟨rfl, hb5⟩; rw [HQ.out]; have HC5 := Lib.hid ((Below.drew (Below.refl wr.heap.size wr)).trans hb5); have HC5a : Hid (Below wr.heap.size wr (w5.alloc (.cells #[.int .i64 (j : Int), .int .i64 q] 141))) := HC5.out.alloc HC5.out.size _; clear hb5)
        | (refine step_app_at eltPt rfl (.tmp 27) (.tmp 47) rfl v ((L.take k).map (fnd s.pt n.stops)) (by rfl) (ho.out.below HC5a.out) ⟨w5.heap.size, 0, none⟩ 1 1 [⟨j, q⟩] (by rfl) (sl_new (c := Fnd.cod) w5 #[.int .i64 (j : Int), .int .i64 q] 141 [⟨j, q⟩] 1 rfl (by unfold maxLen; omega) rfl) HM1.out HM2.out (by have := HC5a.out.size; omega) ?_; rintro v6 w6 ho6 hg6 -; have HO6 := Lib.hid ho6; have HG6 : Hid (wr.grownBy w6 v.ownBlock) := grb_trans (grb_of_below HC5a.out) hg6; have HKK := Lib.hid (HK2.out w6 v.ownBlock HG6.out (fun k hk => (World.ownsRow.lt ho.out k hk).1)); clear ho6 hg6))
      all_goals
        go_wp2_with fail
        go_roundw
        case rel => exact ⟨k + 1, _, rfl, by omega, by go_num, by show V.Own _ _ _ _ _ _; rw [HSN.out]; exact HO6.out, hb.out.trans (below_of_grb HG6.out (fun k hk => (World.ownsRow.lt ho.out k hk).1) hsz)⟩
        case measure => simp [intOf]; omega
    · have hkn : k = ln := by omega
      have HT : Hid (L.take k = L) := by show _ = _; rw [hkn, List.take_of_length_le (by rw [HLN.out]; exact Nat.le_refl _)]
      clear hkn
      go_wp2_with fail
      go_ret
      refine ⟨_, rfl, ?_, HB3.out.trans (hb.out.mono (by omega))⟩
      have o := ho.out
      rw [HT.out, HP.out] at o
      exact o.lower (by omega)
end Go.Proofs.YtlfbbahihenilaaGreat.Ne

namespace Go.Proofs.YtlfbbahihenilaaGreat.Ne
open Go.RowKit Go.V Go.Proofs

theorem rmay_b (x y : Int) (w : World) (b : Bool) (h : mayB x y = b) : Calls Tryz.prog 58 #[.int .i64 x, .int .i64 y] w fun e w' => e = .returned (.bool b) ∧ w' = w :=
  (rmay_any x y w).mono fun _ _ ⟨h1, h2⟩ => ⟨by rw [h1, h], h2.symm⟩

set_option maxHeartbeats 4000000 in
set_option maxRecDepth 100000 in
theorem rcheck_any (n : Net) (hs hl : Hdr) (w : World) (hm : hs.n ≤ 1000000 ∧ hl.n ≤ 1000000) (h : NetIn w n hs hl) :
    Calls Tryz.prog 21 #[n.val hs hl] w fun e w' => e = .returned (.int .i64 (checkE n)) ∧ Below w.heap.size w w' := by
  obtain ⟨m1, m2⟩ := hm
  have HNS := Lib.hid h.s.hlen
  have HNL := Lib.hid h.l.hlen
  have TB0 : Hid (NetBox (w.alloc (n.box hs hl)) w.heap.size n hs hl) := box_new _ _
  have B0 : Hid (Below w.heap.size w (w.alloc (n.box hs hl))) := (Below.refl _ _).alloc (Nat.le_refl _) _
  unfold Net.box at TB0 B0
  have mixed : Tryz.prog.follows .mixedOrders = true := by kernel_rfl
  unfold Net.val
  go_enter Tryz.func21, Tryz.ntmps21
  by_cases hbig : hs.n ≤ 4096 ∧ hl.n ≤ 16384
  case neg =>
    have hce : checkE n = 3 := by unfold checkE; rw [if_neg (by rw [← HNS.out, ← HNL.out]; exact hbig)]
    have HCE := Lib.hid hce
    clear hce
    by_cases q1 : hs.n ≤ 4096
    · have q2 : ¬ hl.n ≤ 16384 := fun hh => hbig ⟨q1, hh⟩
      clear hbig
      go_wp2_with fail
      go_ret
      exact ⟨by rw [HCE.out]; rfl, B0.out⟩
    · clear hbig
      go_wp2_with fail
      go_ret
      exact ⟨by rw [HCE.out]; rfl, B0.out⟩
  case pos =>
    obtain ⟨q1, q2⟩ := hbig
    have hcz : checkE n = if netB n = true then 0 else 2 := by
      unfold checkE
      rw [if_pos (by rw [← HNS.out, ← HNL.out]; exact ⟨q1, q2⟩)]
    have HCZ := Lib.hid hcz
    have HNB : Hid (netB n = (wB n.ver 1 1048576 && n.stops.all stpB && linksB n.stops.length none n.links)) := rfl
    have u1 : ¬ 4096 < hs.n := by omega
    have u2 : ¬ 16384 < hl.n := by omega
    clear hcz
    obtain ⟨kk, k0, k1, k2⟩ := TB0.out.cells
    by_cases hv : 1 ≤ n.ver ∧ n.ver ≤ 1048576
    case neg =>
      have HV : Hid (checkE n = 2) := by
        show _ = _
        rw [HCZ.out, HNB.out, show wB n.ver 1 1048576 = false from decide_eq_false hv]; rfl
      go_wp2_with fail
      all_goals
        go_ret
        exact ⟨by rw [HV.out]; rfl, B0.out⟩
    case pos =>
      have HV : Hid (wB n.ver 1 1048576 = true) := decide_eq_true hv
      obtain ⟨v1, v2⟩ := hv
      go_wp2_with fail
      obtain ⟨W, hW⟩ : ∃ W, w.alloc (.cells #[.int .i64 n.ver, .slice hs.a hs.n hs.cap, .slice hl.a hl.n hl.cap] 25) = W := ⟨_, rfl⟩
      rw [hW] at TB0 B0 ⊢
      have hsw := B0.out.size
      clear hW kk k0 k1 k2
      go_loopw [3] (fun i wr => ∃ k : Nat, i = .int .i64 k ∧ k ≤ hs.n ∧ Hid ((n.stops.take k).all stpB = true) ∧ Hid (Below W.heap.size W wr)) (fun i _ => hs.n - (intOf i).toNat)
      case atStart => exact ⟨0, rfl, by omega, rfl, Below.refl _ _⟩
      case round =>
        obtain ⟨k, rfl, hk, hall, hB⟩ := hrel
        have HBW : Hid (Below w.heap.size w wr) := B0.out.trans (hB.out.mono hsw)
        obtain ⟨kk, k0, k1, k2⟩ := (TB0.out.below hB.out).cells
        by_cases hlt : k < hs.n
        · obtain ⟨b, off, s, ha, hbl, hr, c0, c1⟩ := stp_at (h.s.below HBW.out) hlt
          have HR := Lib.hid hr
          have b1 : (k : Int) < (hs.n : Int) := by omega
          rw [ha] at k1
          clear hr ha
          obtain ⟨bb, hbb⟩ : ∃ bb, stpB s = bb := ⟨_, rfl⟩
          have HBB : Hid (mayB s.x s.y = bb) := hbb
          have HB2 := Lib.hid hbb
          clear hbb
          go_wp2_with fail
          go_quiet ((go_at_call 58; exact Calls.quiet_of_same (rmay_b _ _ _ _ HBB.out)))
          cases bb with
          | true =>
            go_wp2_with fail
            go_roundw
            case rel => exact ⟨k + 1, by go_num, by omega, by show _ = _; rw [take_at HR.out, List.all_append, hall.out]; simp [HB2.out], below_drewN hB.out _⟩
            case measure => simp [intOf]; omega
          | false =>
            go_wp2_with fail
            go_ret
            refine ⟨?_, below_drewN HBW.out _⟩
            have : n.stops.all stpB = false := by
              rw [Bool.eq_false_iff]; intro hh
              have := List.all_eq_true.1 hh s (List.mem_of_getElem? HR.out)
              rw [HB2.out] at this; cases this
            rw [HCZ.out, HNB.out, this, HV.out]; rfl
        · have hk' : k = hs.n := by omega
          have HSA : Hid (n.stops.all stpB = true) := by
            have := hall.out
            rwa [List.take_of_length_le (by have := HNS.out; omega)] at this
          clear hk' hall
          go_wp2_with fail
          obtain ⟨wo, rfl⟩ : ∃ wo : World, wo = wr := ⟨_, rfl⟩
          have TBO := Lib.hid (TB0.out.below hB.out)
          clear kk k0 k1 k2
          go_loopw [4] (fun i wr => ∃ k : Nat, i = .int .i64 k ∧ k ≤ hl.n ∧ Hid (linksB n.stops.length none n.links = linksB n.stops.length (prv n.links k) (n.links.drop k)) ∧ Hid (Below wo.heap.size wo wr)) (fun i _ => hl.n - (intOf i).toNat)
          case atStart => exact ⟨0, rfl, by omega, rfl, Below.refl _ _⟩
          case round =>
            obtain ⟨k, rfl, hk, hgo, hB2⟩ := hrel
            have HBX : Hid (Below w.heap.size w wr) := HBW.out.trans (hB2.out.mono HBW.out.size)
            have hsx := hB2.out.size
            obtain ⟨kk, k0, k1, k2⟩ := (TBO.out.below hB2.out).cells
            by_cases hlt : k < hl.n
            · obtain ⟨b, off, l, ha, hbl, hr, c0, c1, c2⟩ := lnk_at (h.l.below HBX.out) hlt
              have hst := linksB_at (k := n.stops.length) hr
              rw [← HNS.out] at hst
              have hgo2 := hgo.out
              rw [← HNS.out, hst] at hgo2
              have HGO := Lib.hid hgo2
              have HRR := Lib.hid hr
              have HLA := Lib.hid ha
              have b0 : (k : Int) < (hl.n : Int) := by omega
              have HBY := Lib.hid (hB2.out.alloc hsx (.cells #[.int .i64 l.a, .int .i64 l.b, .int .i64 l.w] 121))
              have HBE : Hid (Below w.heap.size w _) := HBW.out.trans (HBY.out.mono HBW.out.size)
              rw [ha] at k2
              clear ha
              rcases lnk_cases hs.n l with ⟨hb, hc⟩ | ⟨hb, d1, d2, d3, d4⟩
              · have HLB := Lib.hid hb
                have hc' : l.a < 0 ∨ (0 ≤ l.a ∧ l.b ≤ l.a) ∨ (0 ≤ l.a ∧ l.a < l.b ∧ (hs.n : Int) ≤ l.b) ∨ (0 ≤ l.a ∧ l.a < l.b ∧ l.b < hs.n ∧ l.w < 1) ∨ (0 ≤ l.a ∧ l.a < l.b ∧ l.b < hs.n ∧ 1 ≤ l.w ∧ 1048576 ≤ l.w) := by
                  simp only [wB, decide_eq_false_iff_not] at hc; omega
                clear hr hst hgo2 hc hb
                rcases hc' with d1 | ⟨d1, d2⟩ | ⟨d1, d2, d3⟩ | ⟨d1, d2, d3, d4⟩ | ⟨d1, d2, d3, d4, d5⟩
                all_goals
                  go_wp2_with fail
                  go_ret
                  refine ⟨?_, HBE.out⟩
                  rw [HCZ.out, HNB.out, ← HNS.out, HGO.out, step_bad HLB.out, HV.out, HSA.out]; rfl
              · have hd4 : 1 ≤ l.w ∧ l.w ≤ 1048575 := of_decide_eq_true d4
                obtain ⟨d5, d6⟩ := hd4
                have HLB := Lib.hid hb
                clear hr hst hgo2 hb d4
                cases k with
                | zero =>
                  rw [Nat.zero_mul, Nat.add_zero] at c0 c1 c2
                  go_wp2_with fail
                  go_roundw
                  case rel => exact ⟨1, by go_num, by omega, by show _ = _; have := HGO.out; rw [step_first HLB.out] at this; rw [← HNS.out, this]; rfl, HBY.out⟩
                  case measure => simp [intOf]; omega
                | succ j =>
                  obtain ⟨b', off', p, ha', hbl', hr', p0, p1, p2⟩ := lnk_at (h.l.below HBX.out) (show j < hl.n by omega)
                  rw [HLA.out] at ha'
                  cases ha'
                  have HPR := Lib.hid hr'
                  have r2 : IntKind.i64.wrap (j : Int) = (j : Int) := by rw [IntKind.wrap_i64]; omega
                  have g1 : (0 : Int) < (j : Int) + 1 := by omega
                  have g2 : (j : Int) < (hl.n : Int) := by omega
                  have g3 : (0 : Int) ≤ (j : Int) := by omega
                  clear hr'
                  by_cases haf : p.a < l.a ∨ p.a = l.a ∧ p.b < l.b
                  · have HA : Hid (aftB p l = true) := decide_eq_true haf
                    have HBG : Hid (Below wo.heap.size wo ((wr.alloc (.cells #[.int .i64 l.a, .int .i64 l.b, .int .i64 l.w] 121)).alloc (.cells #[.int .i64 p.a, .int .i64 p.b, .int .i64 p.w] 121))) := HBY.out.alloc HBY.out.size _
                    have hs3 : linksB n.stops.length none n.links = linksB n.stops.length (prv n.links (j + 1 + 1)) (n.links.drop (j + 1 + 1)) := by
                      have := HGO.out
                      rw [step_next HLB.out HPR.out, HA.out] at this
                      rw [← HNS.out, this]; rfl
                    have HS3 := Lib.hid hs3
                    clear hs3
                    rcases haf with q | ⟨q, q'⟩
                    · have y1 : ¬ l.a < p.a := by omega
                      have y2 : (l.a == p.a) = false := by simp; omega
                      go_wp2_with fail
                      go_roundw
                      case rel => exact ⟨j + 1 + 1, by go_num, by omega, HS3.out, HBG.out⟩
                      case measure => simp [intOf]; omega
                    · have y1 : ¬ l.a < p.a := by omega
                      have y2 : (l.a == p.a) = true := by simp; omega
                      have y3 : ¬ l.b ≤ p.b := by omega
                      clear q
                      go_wp2_with fail
                      go_roundw
                      case rel => exact ⟨j + 1 + 1, by go_num, by omega, HS3.out, HBG.out⟩
                      case measure => simp [intOf]; omega
                  · have HA : Hid (aftB p l = false) := decide_eq_false haf
                    have HBG : Hid (Below w.heap.size w ((wr.alloc (.cells #[.int .i64 l.a, .int .i64 l.b, .int .i64 l.w] 121)).alloc (.cells #[.int .i64 p.a, .int .i64 p.b, .int .i64 p.w] 121))) := HBE.out.alloc HBE.out.size _
                    have hs3 : checkE n = 2 := by
                      have := HGO.out
                      rw [step_next HLB.out HPR.out, HA.out] at this
                      rw [HCZ.out, HNB.out, ← HNS.out, this, HV.out, HSA.out]; rfl
                    have HS3 := Lib.hid hs3
                    clear hs3
                    have hcs : l.a < p.a ∨ (¬ l.a < p.a ∧ (l.a == p.a) = true ∧ l.b ≤ p.b) := by simp; omega
                    clear haf
                    rcases hcs with q | ⟨q, q', q''⟩
                    all_goals
                      go_wp2_with fail
                      go_ret
                      exact ⟨by rw [HS3.out]; rfl, HBG.out⟩
            · have hk' : k = hl.n := by omega
              have HLT : Hid (linksB n.stops.length none n.links = true) := by
                show _ = _
                rw [hgo.out, List.drop_of_length_le (by have := HNL.out; omega)]
                cases prv n.links k <;> rfl
              clear hk'
              go_wp2_with fail
              go_ret
              refine ⟨?_, HBX.out⟩
              rw [HCZ.out, HNB.out, HLT.out, HV.out, HSA.out]; rfl
end Go.Proofs.YtlfbbahihenilaaGreat.Ne
