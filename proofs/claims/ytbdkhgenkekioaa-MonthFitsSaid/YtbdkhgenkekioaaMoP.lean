/- Months: a ride added or changed, by the document, walked. -/
import Derived.Test.YtbdkhgenkekioaaMoM
namespace Go.Proofs.Ytbdkhgenkekioaa
open Go.RowKit Go.V Go.Sort Go.Shelf Go.Proofs Go.Maps
open Go.Proofs.Ytbdkhgenkekioaa.Ne (box_alloc box_new box_cell box_below box_lt box2_cells)

theorem othR_hit {l : List Ride} {t : Int} {k : Nat} {x : Ride} (hx : l[k]? = some x) (h : x.t = t) : othR (l.take (k + 1)) t = othR (l.take k) t := by
  unfold othR
  rw [take_at hx, List.filter_append]
  simp [h]
theorem othR_miss {l : List Ride} {t : Int} {k : Nat} {x : Ride} (hx : l[k]? = some x) (h : x.t ≠ t) : othR (l.take (k + 1)) t = othR (l.take k) t ++ [x] := by
  unfold othR
  rw [take_at hx, List.filter_append]
  simp [h]
theorem othR_len (l : List Ride) (t : Int) (k : Nat) : (othR (l.take k) t).length ≤ k := by
  have := List.length_filter_le (fun r : Ride => decide (r.t ≠ t)) (l.take k)
  unfold othR
  rw [List.length_take] at this
  omega
/-- What the loop has found in the first k rides. -/
def HasAt (l : List Ride) (t : Int) (k : Nat) (v : Int) : Prop := (v = -1 ∧ ∀ j x, j < k → l[j]? = some x → x.t ≠ t) ∨ ∃ (j : Nat) (x : Ride), j < k ∧ v = j ∧ l[j]? = some x ∧ x.t = t
theorem HasAt.miss {l : List Ride} {t : Int} {k : Nat} {v : Int} (h : HasAt l t k v) {x : Ride} (hx : l[k]? = some x) (hn : x.t ≠ t) : HasAt l t (k + 1) v := by
  rcases h with ⟨h1, h2⟩ | ⟨j, y, h1, h2, h3, h4⟩
  · refine .inl ⟨h1, fun j y hj hy => ?_⟩
    by_cases e : j = k
    · subst e
      have := hy.symm.trans hx
      cases this
      exact hn
    · exact h2 j y (by omega) hy
  · exact .inr ⟨j, y, by omega, h2, h3, h4⟩
theorem HasAt.find {l : List Ride} {t : Int} {v : Int} (h : HasAt l t l.length v) (hn : (l.map Ride.t).Nodup) : v = findR l t := by
  rcases h with ⟨h1, h2⟩ | ⟨j, y, h1, h2, h3, h4⟩
  · rw [h1, findR_none l t (fun r hr => by
      obtain ⟨j, hj⟩ := List.mem_iff_getElem?.1 hr
      exact h2 j r (List.getElem?_eq_some_iff.1 hj).1 hj)]
  · rw [h2, findR_at l t j y (fun i x hi hx e => ?_) h3 h4]
    have h5 := List.pairwise_iff_getElem.1 hn i j (by rw [List.length_map]; omega) (by rw [List.length_map]; omega) hi
    obtain ⟨q1, q2⟩ := List.getElem?_eq_some_iff.1 hx
    obtain ⟨q3, q4⟩ := List.getElem?_eq_some_iff.1 h3
    simp only [List.getElem_map, q2, q4] at h5
    exact h5 (e.trans h4.symm)

/-- What comes of the months. -/
def rideR (k : Int) (ms : List Mon) (m : Mon) (j : Nat) (r : Ride) : List Mon := if oneE k m r = 0 then (if k = 1 ∧ 0 ≤ findR m.rides r.t then ms else withM ms j (othR m.rides r.t ++ [r])) else []
/-- The value reads as these months. -/
def TurnQ (ys : List Mon) (w : World) (v : Value) : Prop := ∃ a c hs, v = .slice a ys.length c ∧ MonIn w a ys.length c hs ys

set_option maxHeartbeats 8000000 in
set_option maxRecDepth 100000 in
theorem rturn_ride (k : Int) (a : Option Addr) (n cap : Nat) (hs : List Hdr) (ms : List Mon) (A M : Int) (r : Ride) (m : Mon) (j : Nat) (w : World) (hk : k = 1 ∨ k = 2) (hn : n ≤ 100000) (hl : ∀ m ∈ ms, m.rides.length ≤ 100000) (h0 : MonIn w a n cap hs ms) (hr : RightM ms) (hrr : RightP [r]) (hf : findM ms A M = j) (hm : ms[j]? = some m) :
    Calls Try.prog 17 #[.int .i64 k, .slice a n cap, .int .i64 A, .int .i64 M, r.val] w fun e w' => ∃ v, e = .returned (.tuple #[v, .int .i64 (oneE k m r)]) ∧ TurnQ (rideR k ms m j r) w' v ∧ Below w.heap.size w w' := by
  have mixed : Try.prog.follows .mixedOrders = true := by kernel_rfl
  have X0 : Hid ((w.alloc (.cells #[.int .i64 r.t, .int .i64 r.s, .int .i64 r.e, .int .i64 r.f] 24)).heap[w.heap.size]? = some (.cells #[.int .i64 r.t, .int .i64 r.s, .int .i64 r.e, .int .i64 r.f] 24 (0, 0))) := box_new w _
  have B0 : Hid (Below w.heap.size w (w.alloc (.cells #[.int .i64 r.t, .int .i64 r.s, .int .i64 r.e, .int .i64 r.f] 24))) := (Below.refl _ _).alloc (Nat.le_refl _) _
  have HF := Lib.hid hf
  have HM := Lib.hid hm
  have HP : Hid (decide (RightM ms) = true ∧ decide (RightP [r]) = true) := ⟨decide_eq_true hr, decide_eq_true hrr⟩
  have HN := Lib.hid h0.n_eq
  have hjn : j < n := by rw [h0.n_eq]; exact (List.getElem?_eq_some_iff.1 hm).1
  have HND : Hid ((m.rides.map Ride.t).Nodup) := (hr.2 j m (List.getElem?_eq_some_iff.1 hm).1 hm).1.2.2.2.2
  have HLM := Lib.hid (hl m (List.mem_of_getElem? hm))
  have hl' : ∀ m ∈ ms, m.rides.length ≤ 1000000 := fun m hm => by have := hl m hm; omega
  have z3 : (k != 3) = true := by rcases hk with rfl | rfl <;> rfl
  have z4 : (k == 3) = false := by rcases hk with rfl | rfl <;> rfl
  have HK := Lib.hid hk
  have hj0 : decide ((j : Int) < 0) = false := decide_eq_false (by omega)
  unfold Ride.val
  clear hf hm hr hrr hk
  go_enter Try.func17, Try.ntmps17
  go_upto_region 6 with (first
    | (go_at_call 10; refine (rmright_any a n cap hs ms _ (by omega) hl' (h0.below B0.out)).mono ?_; rintro e w1 ⟨rfl, hb1⟩; rw [HP.out.1]; have HB1 : Hid (Below w.heap.size w w1) := B0.out.trans (hb1.mono B0.out.size); have X1 := Lib.hid (box_below X0.out hb1); have y0 := (box_cell X1.out 0).1; have y1 := (box_cell X1.out 1).1; have y2 := (box_cell X1.out 2).1; have y3 := (box_cell X1.out 3).1; have hz := box_lt X1.out; clear hb1)
    | (go_at_call 26; go_fit (rright_any (some ⟨w1.heap.size, 0, none⟩) 1 1 [r] _ (by omega) (sl_new (c := Ride.cod) w1 #[.int .i64 r.t, .int .i64 r.s, .int .i64 r.e, .int .i64 r.f] 24 [r] 1 rfl (by unfold maxLen; omega) rfl)); rintro e w2 ⟨rfl, hb2⟩; rw [HP.out.2]; have HB2 : Hid (Below w.heap.size w w2) := (HB1.out.alloc HB1.out.size _).trans (hb2.mono (HB1.out.alloc HB1.out.size _).size); have X2 := Lib.hid (box_below (box_alloc X1.out) hb2); clear hb2 y0 y1 y2 y3 hz; have y0 := (box_cell X2.out 0).1; have y1 := (box_cell X2.out 1).1; have y2 := (box_cell X2.out 2).1; have y3 := (box_cell X2.out 3).1; have hz := box_lt X2.out)
    | (go_at_call 19; refine (rmfind_any a n cap hs ms A M _ (by omega) (h0.below HB2.out)).mono ?_; rintro e w3 ⟨rfl, rfl⟩; rw [HF.out]))
  obtain ⟨b, off, at_, ct, m', rfl, hbb, hm', -, ⟨c0, c1, c2, c3, c4, c5⟩, hrd⟩ := (h0.below HB2.out).at hjn
  have := hm'.symm.trans HM.out
  cases this
  have HRD := Lib.hid hrd
  clear hm' hrd
  have b1 : (j : Int) < (n : Int) := by omega
  have hs2 := HB2.out.size
  go_upto_region 7 with fail
  have X9 : Hid ((w2.alloc (.cells #[.int .i64 m.a, .int .i64 m.m, .int .i64 m.t, .int .i64 m.c, .slice at_ m.rides.length ct, .bool m.z] 27)).heap[w2.heap.size]? = some (.cells #[.int .i64 m.a, .int .i64 m.m, .int .i64 m.t, .int .i64 m.c, .slice at_ m.rides.length ct, .bool m.z] 27 (0, 0))) := box_new w2 _
  have B9 : Hid (Below w2.heap.size w2 (w2.alloc (.cells #[.int .i64 m.a, .int .i64 m.m, .int .i64 m.t, .int .i64 m.c, .slice at_ m.rides.length ct, .bool m.z] 27))) := (Below.refl _ _).alloc (Nat.le_refl _) _
  obtain ⟨W, hW⟩ : ∃ W, w2.alloc (.cells #[.int .i64 m.a, .int .i64 m.m, .int .i64 m.t, .int .i64 m.c, .slice at_ m.rides.length ct, .bool m.z] 27) = W := ⟨_, rfl⟩
  rw [hW] at X9 B9 ⊢
  clear hW c0 c1 c2 c3 c4 c5 y0 y1 y2 y3 hz
  have HBW : Hid (Below w.heap.size w W) := HB2.out.trans (B9.out.mono hs2)
  have XW := Lib.hid (box_below X2.out B9.out)
  have HRW := Lib.hid (HRD.out.below B9.out)
  have hsW := HBW.out.size
  obtain ⟨L, hL⟩ : ∃ L, m.rides.length = L := ⟨_, rfl⟩
  have HL := Lib.hid hL
  rw [hL] at X9 HRW
  have hLn : L ≤ 100000 := by have := HLM.out; omega
  clear hL
  go_wp2_with fail
  go_loopw [15, 16, 17] (fun h o i wr => ∃ (q : Nat) (v : Int), i = .int .i64 q ∧ h = .int .i64 v ∧ q ≤ L ∧ Hid (HasAt m.rides r.t q v) ∧ Hid (V.Own 24 Ride.cod W.heap.size wr o (othR (m.rides.take q) r.t)) ∧ Hid (Below W.heap.size W wr)) (fun _ _ i _ => L - (intOf i).toNat)
  case atStart => exact ⟨0, -1, rfl, rfl, by omega, .inl ⟨rfl, fun j x hj => by omega⟩, V.Own.nil, Below.refl _ _⟩
  case round =>
    obtain ⟨q, v, rfl, rfl, hq, hhas, hO, hB⟩ := hrel
    have XR := Lib.hid (box_below X9.out hB.out)
    have XQ := Lib.hid (box_below XW.out hB.out)
    have HBR : Hid (Below w.heap.size w wr) := HBW.out.trans (hB.out.mono hsW)
    have hsR := hB.out.size
    obtain ⟨y0, y1, y2, y3, y4, y5⟩ := box6_cells XR.out
    have hz1 := box_lt XR.out
    have hz2 := box_lt XQ.out
    have x0 := (box_cell XQ.out 0).1
    have x1 := (box_cell XQ.out 1).1
    have x2 := (box_cell XQ.out 2).1
    have x3 := (box_cell XQ.out 3).1
    by_cases hlt : q < L
    · obtain ⟨b7, o7, x, e7, hbl, hx, c0, c1, c2, c3⟩ := ride_at (HRW.out.below hB.out) hlt
      subst e7
      have HX := Lib.hid hx
      have b2 : (q : Int) < (L : Int) := by omega
      have HM1 : Hid ((othR (m.rides.take q) r.t).length + 1 ≤ maxLen ∧ ((othR (m.rides.take q) r.t).length + 1) * 32 ≤ 140737488355328) := by
        have h1 := othR_len m.rides r.t q
        have h2 := HLM.out
        have h3 := HL.out
        constructor
        · unfold maxLen; omega
        · omega
      clear hx
      by_cases hxt : x.t = r.t
      · have d1 : (x.t == r.t) = true := by simpa using hxt
        have HXT := Lib.hid hxt
        clear hxt
        go_wp2_with fail
        go_quiet (fail)
        go_wp2_with fail
        go_roundw
        case rel => exact ⟨q + 1, q, by go_num, rfl, by omega, .inr ⟨q, x, by omega, rfl, HX.out, HXT.out⟩, by show V.Own _ _ _ _ _ _; rw [othR_hit HX.out HXT.out]; exact hO.out.below (below_drewN (Below.refl _ _) _), below_drewN hB.out _⟩
        case measure => simp [intOf]; omega
      · have d1 : (x.t == r.t) = false := by simpa using hxt
        have HXT := Lib.hid hxt
        clear hxt
        go_wp2_with fail
        go_quiet (fail)
        go_wp2_with (at_builtin; go_loud (refine wpList_app eltRide rfl (.tmp 67) (.tmp 73) rfl (base := W.heap.size) _ (othR (m.rides.take q) r.t) rfl ((hO.out.below (below_drewN (Below.refl _ _) _)).alloc _) _ 1 1 [x] rfl (sl_new (c := Ride.cod) _ #[.int .i64 x.t, .int .i64 x.s, .int .i64 x.e, .int .i64 x.f] 24 [x] 1 rfl (by unfold maxLen; omega) rfl) HM1.out.1 HM1.out.2 (by simp; omega) ?_); intro v5 w5 hown5 hg5; have HO5 := Lib.hid hown5; have HB5 : Hid (Below W.heap.size W w5) := ((below_drewN hB.out _).alloc hsR _).grown hg5 (by simp; omega) (fun i hi => (World.ownsRow.lt hO.out i hi).1); clear hown5 hg5)
        go_roundw
        case rel => exact ⟨q + 1, v, by go_num, rfl, by omega, hhas.out.miss HX.out HXT.out, by show V.Own _ _ _ _ _ _; rw [othR_miss HX.out HXT.out]; exact HO5.out, HB5.out⟩
        case measure => simp [intOf]; omega
    · have hq' : q = L := by omega
      subst hq'
      have hv : v = findR m.rides r.t := HasAt.find (by rw [HL.out]; exact hhas.out) HND.out
      have HOE : Hid (V.Own 24 Ride.cod W.heap.size wr u16 (othR m.rides r.t)) := by
        have := hO.out
        rwa [List.take_of_length_le (by rw [HL.out]; exact Nat.le_refl _)] at this
      have HOL : Hid ((othR m.rides r.t).length + 1 ≤ maxLen ∧ ((othR m.rides r.t).length + 1) * 32 ≤ 140737488355328) := by
        have h1 := othR_len m.rides r.t q
        rw [List.take_of_length_le (by rw [HL.out]; exact Nat.le_refl _)] at h1
        constructor
        · unfold maxLen; omega
        · omega
      have HV := Lib.hid hv
      clear hv hO hhas
      have HWITH : Hid (∀ (W7 : World) (v7 : Value), Below W.heap.size W W7 → V.Own 24 Ride.cod W.heap.size W7 v7 (othR m.rides r.t ++ [r]) → Calls Try.prog 53 #[.slice (some ⟨b, off, none⟩) n cap, .int .i64 j, v7] W7 fun e w' => ∃ v', e = .returned v' ∧ TurnQ (withM ms j (othR m.rides r.t ++ [r])) w' v' ∧ Below w.heap.size w w') := by
        intro W7 v7 hb7 ho7
        obtain ⟨a7, c7, rfl, s7, -⟩ := ho7.slice
        have h1 := othR_len m.rides r.t q
        rw [List.take_of_length_le (by rw [HL.out]; exact Nat.le_refl _)] at h1
        refine (rwith_any (some ⟨b, off, none⟩) n cap hs ms j a7 _ c7 _ W7 hn (by rw [List.length_append]; simp; omega) (h0.below (HBW.out.trans (hb7.mono hsW))) s7).mono ?_
        rintro e w' ⟨v', hs', e1, ho, -, hb'⟩
        obtain ⟨a8, c8, e8, hin⟩ := ho.monIn
        exact ⟨v', e1, ⟨a8, c8, hs', e8, hin⟩, (HBW.out.trans (hb7.mono hsW)).trans (hb'.mono (HBW.out.trans (hb7.mono hsW)).size)⟩
      have Y0 := cell_regrown y0
      have Y1 := cell_regrown y1
      have Y2 := cell_regrown y2
      have Y3 := cell_regrown y3
      have Y4 := cell_regrown y4
      have Y5 := cell_regrown y5
      have x0' := cell_regrown x0
      have x1' := cell_regrown x1
      have x2' := cell_regrown x2
      have x3' := cell_regrown x3
      rcases HK.out with rfl | rfl
      · -- kind 1
        have HONE : Hid (oneE 1 m r = if 0 ≤ v then (if m.rides.getD v.toNat default = r then 0 else 40) else if m.z = true then 41 else if 2048 ≤ m.rides.length then 3 else 0) := by
          show _ = _
          unfold oneE
          rw [if_neg (by decide), ← HV.out]
        by_cases hneg : v < 0
        · have d2 : decide (0 ≤ v) = false := decide_eq_false (by omega)
          have d3 : (v ≥ 0) = False := by simp; omega
          go_upto_region 23 with fail
          clear y0 y1 y2 y3 y4 y5 x0 x1 x2 x3
          refine wp_region_quiet_below (by assumption) (by kernel_rfl) ?_
          repeat (go_big_quiet_step (fail))
          refine wpQuiet_nil ?_
          intro w9 hw9
          obtain ⟨⟨nd, osq⟩, rfl⟩ := hw9
          have hb9 := below_regrown wr nd osq
          have HB9 : Hid (Below W.heap.size W (Go.Sort.grow (redrawn wr nd) osq)) := hB.out.trans (hb9.mono hB.out.size)
          have HO9 := Lib.hid (HOE.out.below hb9)
          have X99 := Lib.hid (box_below XR.out hb9)
          have XQ9 := Lib.hid (box_below XQ.out hb9)
          have HBW9 : Hid (Below w.heap.size w (Go.Sort.grow (redrawn wr nd) osq)) := HBR.out.trans (hb9.mono HBR.out.size)
          have hsR9 : W.heap.size ≤ (Go.Sort.grow (redrawn wr nd) osq).heap.size := HB9.out.size
          generalize Go.Sort.grow (redrawn wr nd) osq = w9 at HB9 HO9 X99 XQ9 HBW9 hsR9 ⊢
          clear hb9
          obtain ⟨y0, y1, y2, y3, y4, y5⟩ := box6_cells X99.out
          have hz1' := box_lt X99.out
          have hz2' := box_lt XQ9.out
          have x0 := (box_cell XQ9.out 0).1
          have x1 := (box_cell XQ9.out 1).1
          have x2 := (box_cell XQ9.out 2).1
          have x3 := (box_cell XQ9.out 3).1
          obtain ⟨mz, hmz⟩ : ∃ z, m.z = z := ⟨_, rfl⟩
          have HMZ := Lib.hid hmz
          rw [hmz] at y5
          clear hmz
          cases mz with
          | true =>
            go_wp2_with fail
            go_ret2
            have e1 : oneE 1 m r = 41 := by rw [HONE.out, if_neg (by omega), if_pos HMZ.out]
            have e2 : rideR 1 ms m j r = [] := by unfold rideR; rw [e1, if_neg (by decide)]
            rw [e1, e2]
            exact ⟨_, rfl, ⟨none, 0, [], rfl, MonIn.nil _⟩, HBW9.out⟩
          | false =>
            by_cases hbig : (q : Int) ≥ 2048
            · have d4 : decide ((2048 : Int) ≤ (q : Int)) = true := decide_eq_true hbig
              go_wp2_with fail
              go_ret2
              have e1 : oneE 1 m r = 3 := by rw [HONE.out, if_neg (by omega), HMZ.out, if_neg (by decide), if_pos (by have := HL.out; omega)]
              have e2 : rideR 1 ms m j r = [] := by unfold rideR; rw [e1, if_neg (by decide)]
              rw [e1, e2]
              exact ⟨_, rfl, ⟨none, 0, [], rfl, MonIn.nil _⟩, HBW9.out⟩
            · have d4 : decide ((2048 : Int) ≤ (q : Int)) = false := decide_eq_false hbig
              go_wp2_with (first
                | (at_builtin; go_loud (refine wpList_app eltRide rfl (.tmp 108) (.tmp 110) rfl (base := W.heap.size) _ (othR m.rides r.t) rfl (HO9.out.alloc _) _ 1 1 [r] rfl (sl_new (c := Ride.cod) _ #[.int .i64 r.t, .int .i64 r.s, .int .i64 r.e, .int .i64 r.f] 24 [r] 1 rfl (by unfold maxLen; omega) rfl) HOL.out.1 HOL.out.2 (by simp; omega) ?_); intro v5 w5 hown5 hg5; have HO5 := Lib.hid hown5; have HB5 : Hid (Below W.heap.size W w5) := (HB9.out.alloc hsR9 _).grown hg5 (by simp; omega) (fun i hi => (World.ownsRow.lt HO9.out i hi).1); clear hown5 hg5)
                | (go_at_call 53; go_fit (HWITH.out _ _ HB5.out HO5.out); rintro e w8 ⟨v8, rfl, hq8, hb8⟩; have HQ8 := Lib.hid hq8; have HB8 := Lib.hid hb8; clear hq8 hb8))
              go_ret2
              have e1 : oneE 1 m r = 0 := by rw [HONE.out, if_neg (by omega), HMZ.out, if_neg (by decide), if_neg (by have := HL.out; omega)]
              have e2 : rideR 1 ms m j r = withM ms j (othR m.rides r.t ++ [r]) := by unfold rideR; rw [if_pos e1, if_neg (fun q => by have := q.2; rw [← HV.out] at this; omega)]
              rw [e1, e2]
              exact ⟨_, rfl, HQ8.out, HB8.out⟩
        · have d2 : decide (0 ≤ v) = true := decide_eq_true (by omega)
          obtain ⟨i, x, hi1, hi2, hi3⟩ : ∃ (i : Nat) (x : Ride), v = i ∧ i < q ∧ m.rides[i]? = some x := by
            rcases findR_cases m.rides r.t with ⟨h1, -⟩ | ⟨i, x, h1, h2, h3, -⟩
            · have := HV.out; omega
            · exact ⟨i, x, by rw [HV.out, h1], by have := HL.out; omega, h3⟩
          subst hi1
          obtain ⟨b7, o7, x', e7, hbl, hx, c0, c1, c2, c3⟩ := ride_at (HRW.out.below hB.out) hi2
          subst e7
          have := hx.symm.trans hi3
          cases this
          have HX := Lib.hid hx
          have hiq : (i : Int) < (q : Int) := by omega
          have C0 := cell_regrown c0
          have C1 := cell_regrown c1
          have C2 := cell_regrown c2
          have C3 := cell_regrown c3
          have hq9 := fun W => eqIn_ride x r W
          unfold Ride.val at hq9
          obtain ⟨p, hp⟩ : ∃ p, decide (x = r) = p := ⟨_, rfl⟩
          have HPP := Lib.hid hp
          rw [hp] at hq9
          have HONE2 : Hid (oneE 1 m r = if p = true then 0 else 40) := by
            show _ = _
            rw [HONE.out, if_pos (by omega), Int.toNat_natCast, List.getD_eq_getElem?_getD, HX.out, Option.getD_some]
            cases p with
            | true => rw [if_pos (of_decide_eq_true HPP.out), if_pos rfl]
            | false => rw [if_neg (of_decide_eq_false HPP.out), if_neg (by decide)]
          clear hx hi3 hp
          go_upto_region 23 with fail
          clear y0 y1 y2 y3 y4 y5 x0 x1 x2 x3 c0 c1 c2 c3
          refine wp_region_quiet_below (by assumption) (by kernel_rfl) ?_
          repeat (go_big_quiet_step (fail))
          refine wpQuiet_nil ?_
          intro w9 hw9
          obtain ⟨⟨nd, osq⟩, rfl⟩ := hw9
          have hb9 := below_regrown wr nd osq
          have HBW9 : Hid (Below w.heap.size w (Go.Sort.grow (redrawn wr nd) osq)) := HBR.out.trans (hb9.mono HBR.out.size)
          generalize Go.Sort.grow (redrawn wr nd) osq = w9 at HBW9 ⊢
          clear hb9
          cases p with
          | true =>
            go_wp2_with fail
            go_ret2
            have e1 : oneE 1 m r = 0 := by rw [HONE2.out]; simp
            have e2 : rideR 1 ms m j r = ms := by unfold rideR; rw [if_pos e1, if_pos ⟨rfl, by rw [← HV.out]; omega⟩]
            rw [e1, e2]
            refine ⟨_, rfl, ⟨some ⟨b, off, none⟩, cap, hs, by rw [← HN.out]; rfl, ?_⟩, HBW9.out⟩
            rw [← HN.out]
            exact h0.below HBW9.out
          | false =>
            go_wp2_with fail
            go_ret2
            have e1 : oneE 1 m r = 40 := by rw [HONE2.out, if_neg (by decide)]
            have e2 : rideR 1 ms m j r = [] := by unfold rideR; rw [e1, if_neg (by decide)]
            rw [e1, e2]
            exact ⟨_, rfl, ⟨none, 0, [], rfl, MonIn.nil _⟩, HBW9.out⟩
      · -- kind 2
        by_cases hneg : v < 0
        · have d2 : decide (v < 0) = true := decide_eq_true hneg
          go_wp2_with fail
          go_ret2
          have e1 : oneE 2 m r = 30 := by unfold oneE; rw [if_pos rfl, ← HV.out, if_pos hneg]
          have e2 : rideR 2 ms m j r = [] := by unfold rideR; rw [e1, if_neg (by decide)]
          rw [e1, e2]
          exact ⟨_, rfl, ⟨none, 0, [], rfl, MonIn.nil _⟩, HBR.out⟩
        · have d2 : decide (v < 0) = false := decide_eq_false hneg
          go_wp2_with (first
            | (at_builtin; go_loud (refine wpList_app eltRide rfl (.tmp 81) (.tmp 83) rfl (base := W.heap.size) _ (othR m.rides r.t) rfl (HOE.out.alloc _) _ 1 1 [r] rfl (sl_new (c := Ride.cod) _ #[.int .i64 r.t, .int .i64 r.s, .int .i64 r.e, .int .i64 r.f] 24 [r] 1 rfl (by unfold maxLen; omega) rfl) HOL.out.1 HOL.out.2 (by simp; omega) ?_); intro v5 w5 hown5 hg5; have HO5 := Lib.hid hown5; have HB5 : Hid (Below W.heap.size W w5) := (hB.out.alloc hsR _).grown hg5 (by simp; omega) (fun i hi => (World.ownsRow.lt HOE.out i hi).1); clear hown5 hg5)
            | (go_at_call 53; go_fit (HWITH.out _ _ HB5.out HO5.out); rintro e w8 ⟨v8, rfl, hq8, hb8⟩; have HQ8 := Lib.hid hq8; have HB8 := Lib.hid hb8; clear hq8 hb8))
          go_ret2
          have e1 : oneE 2 m r = 0 := by unfold oneE; rw [if_pos rfl, ← HV.out, if_neg (by omega)]
          have e2 : rideR 2 ms m j r = withM ms j (othR m.rides r.t ++ [r]) := by unfold rideR; rw [if_pos e1, if_neg (fun q => by have := q.1; omega)]
          rw [e1, e2]
          exact ⟨_, rfl, HQ8.out, HB8.out⟩

/-- What the document answers to a turn. -/
theorem rturn_any (k : Int) (a : Option Addr) (n cap : Nat) (hs : List Hdr) (ms : List Mon) (A M : Int) (r : Ride) (w : World) (hk : k = 1 ∨ k = 2 ∨ k = 3) (hn : n ≤ 100000) (hl : ∀ m ∈ ms, m.rides.length ≤ 100000) (h0 : MonIn w a n cap hs ms) :
    Calls Try.prog 17 #[.int .i64 k, .slice a n cap, .int .i64 A, .int .i64 M, r.val] w fun e w' => ∃ v, e = .returned (.tuple #[v, .int .i64 (turnE k ms A M r)]) ∧ TurnQ (turnR k ms A M r) w' v ∧ Below w.heap.size w w' := by
  have hl' : ∀ m ∈ ms, m.rides.length ≤ 1000000 := fun m hm => by have := hl m hm; omega
  by_cases hb : RightM ms ∧ (k = 3 ∨ RightP [r])
  · by_cases hf : findM ms A M < 0
    · have e1 : turnE k ms A M r = 30 := by unfold turnE; rw [if_pos hb, if_pos hf]
      have e2 : turnR k ms A M r = [] := by unfold turnR; rw [e1, if_neg (by decide)]
      refine (rturn_none k a n cap hs ms A M r w (by omega) hl' h0 hb.1 (by rcases hb.2 with h | h; exact .inl h; by_cases e : k = 3; exact .inl e; exact .inr ⟨e, h⟩) hf).mono ?_
      rintro e w' ⟨rfl, h2⟩
      rw [e1, e2]
      exact ⟨_, rfl, ⟨none, 0, [], rfl, MonIn.nil _⟩, h2⟩
    · obtain ⟨j, m, hj, -, hm, -⟩ : ∃ (j : Nat) (m : Mon), findM ms A M = j ∧ j < ms.length ∧ ms[j]? = some m ∧ isM A M m := by
        rcases findM_cases ms A M with ⟨h1, -⟩ | ⟨j, m, h1, h2, h3, h4, -⟩
        · omega
        · exact ⟨j, m, h1, h2, h3, h4⟩
      have hma : monAt ms A M = m := by unfold monAt; rw [hj, Int.toNat_natCast, List.getD_eq_getElem?_getD, hm]; rfl
      by_cases h3 : k = 3
      · subst h3
        have e1 : turnE 3 ms A M r = 0 := by unfold turnE; rw [if_pos hb, if_neg hf, if_pos rfl]
        have e2 : turnR 3 ms A M r = ms.set j { m with z := true } := by unfold turnR; rw [if_pos e1, if_pos rfl, hma, hj, Int.toNat_natCast]
        refine (rturn_close a n cap hs ms A M r m j w hn hl' h0 hb.1 hj hm).mono ?_
        rintro e w' ⟨v, hs', rfl, ho, h2⟩
        rw [e1, e2]
        obtain ⟨a', c', e3, hin⟩ := ho.monIn
        exact ⟨v, rfl, ⟨a', c', hs', e3, hin⟩, h2⟩
      · have e1 : turnE k ms A M r = oneE k m r := by unfold turnE; rw [if_pos hb, if_neg hf, if_neg h3, hma]
        have e2 : turnR k ms A M r = rideR k ms m j r := by unfold turnR rideR; rw [e1, hma, hj, if_neg h3]
        refine (rturn_ride k a n cap hs ms A M r m j w (by omega) hn hl h0 hb.1 (by rcases hb.2 with h | h; exact absurd h h3; exact h) hj hm).mono ?_
        rintro e w' ⟨v, rfl, h1, h2⟩
        rw [e1, e2]
        exact ⟨v, rfl, h1, h2⟩
  · have e1 : turnE k ms A M r = 2 := by unfold turnE; rw [if_neg hb]
    have e2 : turnR k ms A M r = [] := by unfold turnR; rw [e1, if_neg (by decide)]
    refine (rturn_bad k a n cap hs ms A M r w (by omega) hl' h0 hb).mono ?_
    rintro e w' ⟨rfl, h2⟩
    rw [e1, e2]
    exact ⟨_, rfl, ⟨none, 0, [], rfl, MonIn.nil _⟩, h2⟩
end Go.Proofs.Ytbdkhgenkekioaa
