/- Candidates: ref21.Points: walked. -/
import Derived.Test.YtknbpnkonhniiaaCnE
namespace Go.Proofs.Ytknbpnkonhniiaa.Ne
open Go.RowKit Go.V Go.Proofs

set_option maxHeartbeats 8000000 in
set_option maxRecDepth 100000 in
theorem rpoints_any (n : Net) (hs hl : Hdr) (x : Wgh) (s : Smp) (w : World) (hn : n.stops.length ≤ 200) (hr : 0 ≤ x.reach ∧ x.reach ≤ 1048576 ∧ 0 ≤ x.most) (hnet : NetIn w n hs hl) :
    Calls Try.prog 17 #[n.val hs hl, x.val, s.val] w fun e w' => ∃ v, e = .returned v ∧ V.Own 56 Fnd.cod w.heap.size w' v (ptsE n.stops s x.reach x.most.toNat) ∧ Below w.heap.size w w' := by
  obtain ⟨xr, xm, xf, xc⟩ := x
  obtain ⟨r0, r1, r2⟩ := hr
  have r0 : 0 ≤ xr := r0
  have r1 : xr ≤ 1048576 := r1
  have r2 : 0 ≤ xm := r2
  obtain ⟨mk, hmk⟩ : ∃ mk : Nat, xm = mk := ⟨xm.toNat, by omega⟩
  subst hmk
  rw [Int.toNat_natCast]
  have HX0 : Hid ((((w.alloc (n.box hs hl)).alloc (Wgh.mk xr mk xf xc).box).alloc (.cells #[.int .i64 s.t, .int .i64 s.x, .int .i64 s.y] 42)).heap[w.heap.size]? = some (.cells #[.int .i64 n.ver, .slice hs.a hs.n hs.cap, .slice hl.a hl.n hl.cap] 25 (0, 0))) := box_alloc (box_alloc (box_new w _))
  have HY0 : Hid ((((w.alloc (n.box hs hl)).alloc (Wgh.mk xr mk xf xc).box).alloc (.cells #[.int .i64 s.t, .int .i64 s.x, .int .i64 s.y] 42)).heap[w.heap.size + 1]? = some (.cells #[.int .i64 xr, .int .i64 (mk : Int), .int .i64 xf, .int .i64 xc] 27 (0, 0))) := by
    have := box_new (w.alloc (n.box hs hl)) (Wgh.mk xr mk xf xc).box
    rw [World.size_alloc] at this
    exact box_alloc this
  have HZ0 : Hid ((((w.alloc (n.box hs hl)).alloc (Wgh.mk xr mk xf xc).box).alloc (.cells #[.int .i64 s.t, .int .i64 s.x, .int .i64 s.y] 42)).heap[w.heap.size + 2]? = some (.cells #[.int .i64 s.t, .int .i64 s.x, .int .i64 s.y] 42 (0, 0))) := by
    have := box_new ((w.alloc (n.box hs hl)).alloc (Wgh.mk xr mk xf xc).box) (.cells #[.int .i64 s.t, .int .i64 s.x, .int .i64 s.y] 42)
    rw [World.size_alloc, World.size_alloc] at this
    exact this
  have HB0 : Hid (Below w.heap.size w (((w.alloc (n.box hs hl)).alloc (Wgh.mk xr mk xf xc).box).alloc (.cells #[.int .i64 s.t, .int .i64 s.x, .int .i64 s.y] 42))) := (((Below.refl _ _).alloc (Nat.le_refl _) _).alloc (by simp) _).alloc (by simp; omega) _
  have HN := Lib.hid hnet.s.hlen
  have hn2 : hs.n ≤ 200 := by rw [HN.out]; exact hn
  have HS := Lib.hid hnet.s
  have HP := Lib.hid (pts_nums n.stops s xr mk)
  have HPL := Lib.hid (pts_len n.stops s xr mk)
  have hin : ∀ i ∈ nearL s.pt n.stops (xr * xr) mk, ∃ j : Nat, i = (j : Int) ∧ j < n.stops.length := by
    intro i hi
    obtain ⟨f, hf, rfl⟩ := List.mem_map.1 hi
    obtain ⟨k, hk, rfl, -⟩ := ((near_good s.pt n.stops (xr * xr)).2 f).1 (List.mem_of_mem_take hf)
    exact ⟨k, rfl, hk⟩
  obtain ⟨L, hL⟩ : ∃ L, nearL s.pt n.stops (xr * xr) mk = L := ⟨_, rfl⟩
  have HL := Lib.hid hL
  rw [hL] at HP hin
  have HIN := Lib.hid hin
  clear hnet hin hL
  go_enter Try.func17, Try.ntmps17
  have hx0 := (box_cell HX0.out 1).1
  have hy0 := (box_cell HY0.out 0).1
  have hy1 := (box_cell HY0.out 1).1
  have hz1 := (box_cell HZ0.out 1).1
  have hz2 := (box_cell HZ0.out 2).1
  go_upto_block 0 with (go_at_call 30; go_fit (rnear_any hs.a hs.n hs.cap n.stops s.pt xr mk _ hn2 ⟨r0, by omega⟩ (HS.out.below HB0.out)); rintro e w3 ⟨v3, rfl, ho3, hb3⟩; rw [HL.out] at ho3; obtain ⟨la, lc, rfl, hsl, -⟩ := ho3.slice; have HLS := Lib.hid hsl; have HX3 := Lib.hid (box_below HX0.out hb3); have HZ3 := Lib.hid (box_below HZ0.out hb3); have HB3 := Lib.hid (HB0.out.trans (hb3.mono HB0.out.size)); have hw3 := hb3.size; clear ho3 hsl hb3)
  obtain ⟨ln, hln⟩ : ∃ k, L.length = k := ⟨_, rfl⟩
  have HLN := Lib.hid hln
  rw [hln] at HLS ⊢
  have hln2 : ln ≤ 200 := by rw [← hln, ← HL.out]; exact Nat.le_trans (by unfold nearL; rw [List.length_map, List.length_take]; have := near_len s.pt n.stops (xr * xr); omega) hn
  have hw30 : w.heap.size + 3 ≤ w3.heap.size := by simp at hw3; omega
  clear hln hx0 hy0 hy1 hz1 hz2 hw3
  go_wp2_with fail
  go_loopw [7, 9] (fun vo i wr => ∃ (k : Nat) (v : Value), v = vo ∧ k ≤ ln ∧ i = .int .i64 k ∧ Hid (V.Own 56 Fnd.cod w3.heap.size wr v ((L.take k).map (fnd s.pt n.stops))) ∧ Hid (Below w3.heap.size w3 wr)) (fun _ i _ => ln - (intOf i).toNat)
  case atStart => exact ⟨0, _, rfl, by omega, rfl, World.ownsRow_nil _ _ _ _, Below.refl _ _⟩
  case round =>
    obtain ⟨k, v, rfl, hk, rfl, ho, hb⟩ := hrel
    by_cases hlt : k < ln
    · have hltz : (k : Int) < (ln : Int) := by omega
      obtain ⟨lb, lo, i, rfl, hlb, hi, c0⟩ := int_at HLS.out hlt
      obtain ⟨j, rfl, hj⟩ := HIN.out i (List.mem_of_getElem? hi)
      have HB3r : Hid (Below w.heap.size w w3) := HB3.out
      obtain ⟨bs, off, r, hsa, hbs, hrj, d0, d1⟩ := stp_at (HS.out.below HB3.out) (i := j) (by rw [HN.out]; exact hj)
      have hx3 := (box_cell HX3.out 1).1
      rw [show (#[Value.int .i64 n.ver, Value.slice hs.a hs.n hs.cap, Value.slice hl.a hl.n hl.cap] : Array Value)[1]? = some (.slice hs.a hs.n hs.cap) from rfl, hsa] at hx3
      have hz31 := (box_cell HZ3.out 1).1
      have hz32 := (box_cell HZ3.out 2).1
      have hsz : w3.heap.size ≤ wr.heap.size := hb.out.size
      obtain ⟨q, hq⟩ : ∃ q, sqE r s.pt = q := ⟨_, rfl⟩
      have HQ := Lib.hid hq
      have HF : Hid (fnd s.pt n.stops (j : Int) = ⟨j, q⟩) := by
        show _ = _
        unfold fnd
        rw [Int.toNat_natCast, List.getD_eq_getElem?_getD, hrj, ← hq, sqE_comm]; rfl
      have hjn : (j : Int) < (hs.n : Int) := by rw [HN.out]; omega
      have HSN : Hid ((L.take (k + 1)).map (fnd s.pt n.stops) = (L.take k).map (fnd s.pt n.stops) ++ [⟨j, q⟩]) := by
        show _ = _
        rw [take_at hi, List.map_append, List.map_cons, List.map_nil, HF.out]
      have hlen : ((L.take k).map (fnd s.pt n.stops)).length ≤ 200 := by rw [List.length_map, List.length_take]; omega
      have HM1 : Hid (((L.take k).map (fnd s.pt n.stops)).length + 1 ≤ maxLen) := by show _ ≤ _; unfold maxLen; omega
      have HM2 : Hid ((((L.take k).map (fnd s.pt n.stops)).length + 1) * 16 ≤ 140737488355328) := by show _ ≤ _; omega
      have HK2 : Hid (∀ w' rr, wr.grownBy w' rr → (∀ k, rr = some k → w3.heap.size ≤ k) → w'.cell? ⟨lb, lo + k, none⟩ = some (.int .i64 (j : Int)) ∧ w'.cell? ⟨w.heap.size, 1, none⟩ = some (.slice (some ⟨bs, off, none⟩) hs.n hs.cap) ∧ w'.cell? ⟨bs, off + j * 2, none⟩ = some (.int .i64 r.x) ∧ w'.cell? ⟨bs, off + j * 2 + 1, none⟩ = some (.int .i64 r.y) ∧ w'.cell? ⟨w.heap.size + 1 + 1, 1, none⟩ = some (.int .i64 s.x) ∧ w'.cell? ⟨w.heap.size + 1 + 1, 2, none⟩ = some (.int .i64 s.y)) := fun w' rr hgr hrr => by
        have hbw : Below w3.heap.size w3 w' := hb.out.trans (below_of_grb hgr hrr hsz)
        exact ⟨(hbw.cell (p := ⟨lb, lo + k, none⟩) hlb).trans c0, (hbw.cell (p := ⟨w.heap.size, 1, none⟩) (by show w.heap.size < _; omega)).trans hx3, (hbw.cell (p := ⟨bs, off + j * 2, none⟩) hbs).trans d0, (hbw.cell (p := ⟨bs, off + j * 2 + 1, none⟩) hbs).trans d1, (hbw.cell (p := ⟨w.heap.size + 1 + 1, 1, none⟩) (by show w.heap.size + 1 + 1 < _; omega)).trans hz31, (hbw.cell (p := ⟨w.heap.size + 1 + 1, 2, none⟩) (by show w.heap.size + 1 + 1 < _; omega)).trans hz32⟩
      have HK : Hid (∀ w', Below wr.heap.size wr w' → w'.cell? ⟨lb, lo + k, none⟩ = some (.int .i64 (j : Int)) ∧ w'.cell? ⟨w.heap.size, 1, none⟩ = some (.slice (some ⟨bs, off, none⟩) hs.n hs.cap) ∧ w'.cell? ⟨bs, off + j * 2, none⟩ = some (.int .i64 r.x) ∧ w'.cell? ⟨bs, off + j * 2 + 1, none⟩ = some (.int .i64 r.y) ∧ w'.cell? ⟨w.heap.size + 1 + 1, 1, none⟩ = some (.int .i64 s.x) ∧ w'.cell? ⟨w.heap.size + 1 + 1, 2, none⟩ = some (.int .i64 s.y)) := fun w' hw' => HK2.out w' none (grb_of_below hw') (fun k hk => nomatch hk)
      obtain ⟨f1, f2, f3, f4, f5, f6⟩ := HK.out _ (Below.refl _ _)
      clear hi hrj hq c0 d0 d1 hx3 hz31 hz32 hlen hsa
      go_upto_region 6 with fail
      go_region_held3 (fun w' => w'.cell? ⟨lb, lo + k, none⟩ = some (.int .i64 (j : Int)) ∧ w'.cell? ⟨w.heap.size, 1, none⟩ = some (.slice (some ⟨bs, off, none⟩) hs.n hs.cap) ∧ w'.cell? ⟨bs, off + j * 2, none⟩ = some (.int .i64 r.x) ∧ w'.cell? ⟨bs, off + j * 2 + 1, none⟩ = some (.int .i64 r.y) ∧ w'.cell? ⟨w.heap.size + 1 + 1, 1, none⟩ = some (.int .i64 s.x) ∧ w'.cell? ⟨w.heap.size + 1 + 1, 2, none⟩ = some (.int .i64 s.y)) (first | exact HK.out _ (Below.refl _ _) | exact HK.out _ (Below.drew (Below.refl _ _)) | exact HK.out _ HC5.out | exact HK.out _ HC5a.out | exact HKK.out) (first
        | (go_at_call 31; go_fit (rsq_any r s.pt _); rintro e w5 ⟨rfl, hb5⟩; rw [HQ.out]; have HC5 := Lib.hid ((Below.drew (Below.refl wr.heap.size wr)).trans hb5); have HC5a : Hid (Below wr.heap.size wr (w5.alloc (.cells #[.int .i64 (j : Int), .int .i64 q] 56))) := HC5.out.alloc HC5.out.size _; clear hb5)
        | (refine step_app_at eltPt rfl (.tmp 27) (.tmp 47) rfl v ((L.take k).map (fnd s.pt n.stops)) (by rfl) (ho.out.below HC5a.out) ⟨w5.heap.size, 0, none⟩ 1 1 [⟨j, q⟩] (by rfl) (sl_new (c := Fnd.cod) w5 #[.int .i64 (j : Int), .int .i64 q] 56 [⟨j, q⟩] 1 rfl (by unfold maxLen; omega) rfl) HM1.out HM2.out (by have := HC5a.out.size; omega) ?_; rintro v6 w6 ho6 hg6 -; have HO6 := Lib.hid ho6; have HG6 : Hid (wr.grownBy w6 v.ownBlock) := grb_trans (grb_of_below HC5a.out) hg6; have HKK := Lib.hid (HK2.out w6 v.ownBlock HG6.out (fun k hk => (World.ownsRow.lt ho.out k hk).1)); clear ho6 hg6))
      all_goals
        go_wp2_with fail
        go_roundw
        case rel => exact ⟨k + 1, _, rfl, by omega, by go_num, by show V.Own _ _ _ _ _ _; rw [HSN.out]; exact HO6.out, hb.out.trans (below_of_grb HG6.out (fun k hk => (World.ownsRow.lt ho.out k hk).1) hsz)⟩
        case measure => simp [intOf]; omega
    · have hkn : k = ln := by omega
      have HT : Hid (L.take k = L) := by show _ = _; rw [hkn, List.take_of_length_le (by rw [HLN.out]; exact Nat.le_refl _)]
      clear hkn
      go_wp2_with fail
      go_ret
      refine ⟨_, rfl, ?_, HB3.out.trans (hb.out.mono (by omega))⟩
      have o := ho.out
      rw [HT.out, HP.out] at o
      exact o.lower (by omega)
end Go.Proofs.Ytknbpnkonhniiaa.Ne
