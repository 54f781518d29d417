/- Disputes: the reference's words: where a ride is, another one in its stead, or none. -/
import Derived.Test.YtgdhlhjflbinmaaDiC
namespace Go.Proofs.Ytgdhlhjflbinmaa
open Go.RowKit Go.V Go.Sort Go.Shelf Go.Proofs Go.Maps

theorem trip_idx {xs : List Ride} (h : (xs.map Ride.t).Nodup) {i j : Nat} {r s : Ride} (hi : xs[i]? = some r) (hj : xs[j]? = some s) (e : r.t = s.t) : i = j := by
  have hl : i < (xs.map Ride.t).length := by rw [List.length_map]; exact (List.getElem?_eq_some_iff.1 hi).1
  refine (List.getElem?_inj hl h).1 ?_
  rw [List.getElem?_map, List.getElem?_map, hi, hj]
  simp [e]
theorem rep_map {xs : List Ride} {x : Ride} (h : (xs.map Ride.t).Nodup) {k : Nat} {r : Ride} (hk : xs[k]? = some r) (e : r.t = x.t) : xs.map (fun r => if r.t = x.t then x else r) = xs.set k x := by
  apply List.ext_getElem?
  intro i
  have hl := (List.getElem?_eq_some_iff.1 hk).1
  by_cases hi : i = k
  · subst hi
    rw [List.getElem?_set_self hl, List.getElem?_map, hk]
    simp [e]
  · rw [List.getElem?_set_ne (fun e' => hi e'.symm), List.getElem?_map]
    cases hx : xs[i]? with
    | none => rfl
    | some s =>
      have : s.t ≠ x.t := fun e' => hi (trip_idx h hx hk (by rw [e, e']))
      simp [this]
theorem rem_filter {xs : List Ride} {t : Int} (h : (xs.map Ride.t).Nodup) {k : Nat} {r : Ride} (hk : xs[k]? = some r) (e : r.t = t) : xs.filter (fun r => decide (r.t ≠ t)) = xs.take k ++ xs.drop (k + 1) := by
  have hx : xs = xs.take k ++ (r :: xs.drop (k + 1)) := by rw [← drop_at hk, List.take_append_drop]
  have h1 : ∀ i s, xs[i]? = some s → i ≠ k → s.t ≠ t := fun i s hi hne e' => hne (trip_idx h hi hk (by rw [e, e']))
  have h2 : (xs.take k).filter (fun r => decide (r.t ≠ t)) = xs.take k := by
    rw [List.filter_eq_self]
    intro s hs
    obtain ⟨i, hi⟩ := List.mem_iff_getElem?.1 hs
    have hl := (List.getElem?_eq_some_iff.1 hi).1
    have hlk : i < k := by rw [List.length_take] at hl; omega
    rw [List.getElem?_take_of_lt hlk] at hi
    exact decide_eq_true (h1 i s hi (by omega))
  have h3 : (xs.drop (k + 1)).filter (fun r => decide (r.t ≠ t)) = xs.drop (k + 1) := by
    rw [List.filter_eq_self]
    intro s hs
    obtain ⟨i, hi⟩ := List.mem_iff_getElem?.1 hs
    rw [List.getElem?_drop] at hi
    exact decide_eq_true (h1 _ s hi (by omega))
  conv => lhs; rw [hx]
  rw [List.filter_append, List.filter_cons, h2, h3]
  simp [e]

set_option maxHeartbeats 1000000 in
theorem rfind_any (a : Option Addr) (n cap : Nat) (xs : List Ride) (t : Int) (w : World) (hn : n ≤ 1000000) (h : Sl Ride.cod w a n cap xs) :
    Calls Try.prog 23 #[.slice a n cap, .int .i64 t] w fun e w' => e = .returned (.int .i64 (findI xs t)) ∧ w = w' := by
  have hN := Lib.hid h.hlen
  go_enter Try.func23, Try.ntmps23
  go_wp2_with fail
  go_loop [5] (fun i => ∃ k : Nat, i = .int .i64 k ∧ k ≤ n ∧ Hid (∀ j x, j < k → xs[j]? = some x → x.t ≠ t)) (fun i => n - (intOf i).toNat)
  case atStart => exact ⟨0, rfl, by omega, fun j x hj => by omega⟩
  case round =>
    obtain ⟨k, rfl, hk, hnot⟩ := hrel
    by_cases hlt : k < n
    · obtain ⟨b, off, r, rfl, hbl, hr, c0, c1, c2, c3⟩ := ride_at h hlt
      have HR := Lib.hid hr
      obtain ⟨bb, hbb⟩ : ∃ bb, (r.t == t) = bb := ⟨_, rfl⟩
      have HBB := Lib.hid hbb
      clear hr
      cases bb with
      | true =>
        go_wp2_with fail
        go_ret
        exact ⟨by rw [findI_at xs t k r hnot.out HR.out (by simpa using HBB.out)]; rfl, rfl⟩
      | false =>
        go_wp2_with fail
        go_round
        case rel =>
          refine ⟨k + 1, by go_num, by omega, fun j x hj hx => ?_⟩
          by_cases ej : j = k
          · subst ej
            have := hx.symm.trans HR.out
            cases this
            simpa using HBB.out
          · exact hnot.out j x (by omega) hx
        case measure => simp [intOf]; omega
    · have hk' : k = n := by omega
      subst hk'
      go_wp2_with fail
      go_ret
      refine ⟨?_, rfl⟩
      rw [findI_none xs t (fun r hr => by
        obtain ⟨j, hj⟩ := List.mem_iff_getElem?.1 hr
        exact hnot.out j r (by have := (List.getElem?_eq_some_iff.1 hj).1; have := hN.out; omega) hj)]
      rfl

set_option maxHeartbeats 2000000 in
theorem rrep_any (a : Option Addr) (n cap : Nat) (xs : List Ride) (x : Ride) (w : World) (hn : n ≤ 100000) (h : Sl Ride.cod w a n cap xs) :
    Calls Try.prog 7 #[.slice a n cap, x.val] w fun e w' => ∃ v, e = .returned (.tuple #[v, .int .i64 (repE xs x)]) ∧ V.Own 29 Ride.cod w.heap.size w' v (repR xs x) ∧ Below w.heap.size w w' := by
  have hN := Lib.hid h.hlen
  have mixed : Try.prog.follows .mixedOrders = true := by kernel_rfl
  have B0 : Hid (Below w.heap.size w (w.alloc (.cells #[.int .i64 x.t, .int .i64 x.s, .int .i64 x.e, .int .i64 x.f] 29))) := (Below.refl _ _).alloc (Nat.le_refl _) _
  have X0 : Hid ((w.alloc (.cells #[.int .i64 x.t, .int .i64 x.s, .int .i64 x.e, .int .i64 x.f] 29)).heap[w.heap.size]? = some (.cells #[.int .i64 x.t, .int .i64 x.s, .int .i64 x.e, .int .i64 x.f] 29 (0, 0))) := box_new w _
  obtain ⟨pp, hpp⟩ : ∃ pp, decide (RightP xs) = pp := ⟨_, rfl⟩
  have HPP := Lib.hid hpp
  obtain ⟨p1, hp1⟩ : ∃ p1, decide (RightP [x]) = p1 := ⟨_, rfl⟩
  have HP1 := Lib.hid hp1
  obtain ⟨F, hF⟩ : ∃ F, findI xs x.t = F := ⟨_, rfl⟩
  have HF := Lib.hid hF
  clear hF
  unfold Ride.val
  go_enter Try.func7, Try.ntmps7
  cases pp with
  | false =>
    have hp := of_decide_eq_false hpp
    have e1 : repE xs x = 2 := by
      unfold repE findE
      rw [if_neg hp]; split <;> rfl
    have e2 : repR xs x = [] := by unfold repR; rw [if_neg (by rw [e1]; decide)]
    clear hpp
    go_wp2_with (go_at_call 22; go_fit (rright_any a n cap xs _ (by omega) (h.below B0.out)); rintro e w1 ⟨rfl, hb1⟩; rw [HPP.out]; have HB1 := Lib.hid (B0.out.trans (hb1.mono B0.out.size)); clear hb1)
    go_ret2
    exact ⟨_, by rw [e1]; rfl, by rw [e2]; exact V.Own.nil, HB1.out⟩
  | true =>
    have hp := of_decide_eq_true hpp
    clear hpp
    cases p1 with
    | false =>
      have hq := of_decide_eq_false hp1
      have e1 : repE xs x = 2 := by unfold repE; rw [if_neg hq]
      have e2 : repR xs x = [] := by unfold repR; rw [if_neg (by rw [e1]; decide)]
      clear hp1
      go_wp2_with (first
        | (go_at_call 22; go_fit (rright_any a n cap xs _ (by omega) (h.below B0.out)); rintro e w1 ⟨rfl, hb1⟩; rw [HPP.out]; have HB1 := Lib.hid (B0.out.trans (hb1.mono B0.out.size)); have X1 := Lib.hid (box_below X0.out hb1); obtain ⟨u0, u1, u2, u3⟩ := box4_cells X1.out; have hs1 := HB1.out.size; have uu := box_lt X1.out; clear hb1)
        | (go_at_call 22; go_fit (rright_any (some ⟨w1.heap.size, 0, none⟩) 1 1 [x] _ (by omega) (sl_new (c := Ride.cod) w1 #[.int .i64 x.t, .int .i64 x.s, .int .i64 x.e, .int .i64 x.f] 29 [x] 1 rfl (by unfold maxLen; omega) rfl)); rintro e w2 ⟨rfl, hb2⟩; rw [HP1.out]; have HB2 : Hid (Below w.heap.size w w2) := (HB1.out.alloc hs1 _).trans (hb2.mono (by simp; omega)); clear hb2))
      go_ret2
      exact ⟨_, by rw [e1]; rfl, by rw [e2]; exact V.Own.nil, HB2.out⟩
    | true =>
      have hq := of_decide_eq_true hp1
      clear hp1
      by_cases hneg : F < 0
      · have e1 : repE xs x = 30 := by unfold repE findE; rw [if_pos hq, if_pos hp, HF.out, if_pos hneg]
        have e2 : repR xs x = [] := by unfold repR; rw [if_neg (by rw [e1]; decide)]
        go_wp2_with (first
          | (go_at_call 22; go_fit (rright_any a n cap xs _ (by omega) (h.below B0.out)); rintro e w1 ⟨rfl, hb1⟩; rw [HPP.out]; have HB1 := Lib.hid (B0.out.trans (hb1.mono B0.out.size)); have X1 := Lib.hid (box_below X0.out hb1); obtain ⟨u0, u1, u2, u3⟩ := box4_cells X1.out; have hs1 := HB1.out.size; have uu := box_lt X1.out; clear hb1)
          | (go_at_call 22; go_fit (rright_any (some ⟨w1.heap.size, 0, none⟩) 1 1 [x] _ (by omega) (sl_new (c := Ride.cod) w1 #[.int .i64 x.t, .int .i64 x.s, .int .i64 x.e, .int .i64 x.f] 29 [x] 1 rfl (by unfold maxLen; omega) rfl)); rintro e w2 ⟨rfl, hb2⟩; rw [HP1.out]; have HB2 : Hid (Below w.heap.size w w2) := (HB1.out.alloc hs1 _).trans (hb2.mono (by simp; omega)); have X2 := Lib.hid (box_below (box_alloc X1.out) hb2); clear u0 u1 u2 u3 uu; obtain ⟨u0, u1, u2, u3⟩ := box4_cells X2.out; have uu := box_lt X2.out; clear hb2)
          | (go_at_call 23; refine (rfind_any a n cap xs x.t _ (by omega) (h.below HB2.out)).mono ?_; rintro e w3 ⟨rfl, rfl⟩; rw [HF.out]))
        go_ret2
        exact ⟨_, by rw [e1]; rfl, by rw [e2]; exact V.Own.nil, HB2.out⟩
      · have e1 : repE xs x = 0 := by unfold repE findE; rw [if_pos hq, if_pos hp, HF.out, if_neg hneg]
        have e2 : repR xs x = xs.map (fun r => if r.t = x.t then x else r) := by
          rcases findI_cases xs x.t with ⟨h1, -⟩ | ⟨k, r, h1, h2, h3, h4, -⟩
          · have := HF.out; omega
          · unfold repR; rw [if_pos e1, rep_map hp.2.2 h3 h4]
            have hE0 : findE xs x.t = 0 := by unfold findE; rw [if_pos hp, HF.out, if_neg hneg]
            have : findV xs x.t = k := by unfold findV; rw [if_pos hE0, h1]
            rw [this]; rfl
        have HE2 := Lib.hid e2
        obtain ⟨f, hf⟩ : ∃ f : Ride → Ride, f = fun r => if r.t = x.t then x else r := ⟨_, rfl⟩
        have HFF := Lib.hid hf
        have HPR := Lib.hid hp
        clear e2 hf hp hq
        go_wp2_with (first
          | (go_at_call 22; go_fit (rright_any a n cap xs _ (by omega) (h.below B0.out)); rintro e w1 ⟨rfl, hb1⟩; rw [HPP.out]; have HB1 := Lib.hid (B0.out.trans (hb1.mono B0.out.size)); have X1 := Lib.hid (box_below X0.out hb1); obtain ⟨u0, u1, u2, u3⟩ := box4_cells X1.out; have hs1 := HB1.out.size; have uu := box_lt X1.out; clear hb1)
          | (go_at_call 22; go_fit (rright_any (some ⟨w1.heap.size, 0, none⟩) 1 1 [x] _ (by omega) (sl_new (c := Ride.cod) w1 #[.int .i64 x.t, .int .i64 x.s, .int .i64 x.e, .int .i64 x.f] 29 [x] 1 rfl (by unfold maxLen; omega) rfl)); rintro e w2 ⟨rfl, hb2⟩; rw [HP1.out]; have HB2 : Hid (Below w.heap.size w w2) := (HB1.out.alloc hs1 _).trans (hb2.mono (by simp; omega)); have X2 := Lib.hid (box_below (box_alloc X1.out) hb2); clear u0 u1 u2 u3 uu; obtain ⟨u0, u1, u2, u3⟩ := box4_cells X2.out; have uu := box_lt X2.out; clear hb2)
          | (go_at_call 23; refine (rfind_any a n cap xs x.t _ (by omega) (h.below HB2.out)).mono ?_; rintro e w3 ⟨rfl, rfl⟩; rw [HF.out]))
        clear u0 u1 u2 u3 uu
        go_loopw [6, 7] (fun out i wr => ∃ (k : Nat) (ao : Option Addr) (co : Nat), i = .int .i64 k ∧ k ≤ n ∧ out = .slice ao k co ∧ Hid (V.Own 29 Ride.cod w2.heap.size wr (.slice ao k co) ((xs.take k).map f)) ∧ Hid (Below w2.heap.size w2 wr)) (fun _ i _ => n - (intOf i).toNat)
        case atStart => exact ⟨0, none, 0, rfl, by omega, rfl, V.Own.nil, Below.refl _ _⟩
        case round =>
          obtain ⟨k, ao, co, rfl, hk, rfl, ho, hb⟩ := hrel
          by_cases hlt : k < n
          · have HBW : Hid (Below w.heap.size w wr) := HB2.out.trans (hb.out.mono HB2.out.size)
            obtain ⟨b, off, r, rfl, hbl, hr, c0, c1, c2, c3⟩ := ride_at (h.below HBW.out) hlt
            have X3 := Lib.hid (box_below X2.out hb.out)
            obtain ⟨u0, u1, u2, u3⟩ := box4_cells X3.out
            have uu := box_lt X3.out
            have HR := Lib.hid hr
            have hk1 : ((xs.take k).map f).length = k := by have := hN.out; simp; omega
            have HK1 := Lib.hid hk1
            have HM1 : Hid (((xs.take k).map f).length + 1 ≤ maxLen) := by show _ ≤ _; rw [hk1]; unfold maxLen; omega
            have HM2 : Hid ((((xs.take k).map f).length + 1) * 32 ≤ 140737488355328) := by show _ ≤ _; rw [hk1]; omega
            have hsb := hb.out.size
            have b1 : (k : Int) < (n : Int) := by omega
            obtain ⟨bb, hbb⟩ : ∃ bb, (r.t == x.t) = bb := ⟨_, rfl⟩
            have HBB := Lib.hid hbb
            clear hr hk1
            cases bb with
            | true =>
              have HS : Hid ((xs.take (k + 1)).map f = (xs.take k).map f ++ [x]) := by
                show _ = _
                rw [take_at HR.out, List.map_append, List.map_singleton, HFF.out]
                simp [show r.t = x.t by simpa using HBB.out]
              go_wp2_with fail
              go_quiet (fail)
              go_wp2_with (at_builtin; go_loud (refine wpList_app eltRide rfl (.tmp 36) (.tmp 38) rfl (base := w2.heap.size) _ ((xs.take k).map f) rfl ((ho.out.below (below_drewN (Below.refl _ _) _)).alloc _) _ 1 1 [x] rfl (sl_new (c := Ride.cod) _ #[.int .i64 x.t, .int .i64 x.s, .int .i64 x.e, .int .i64 x.f] 29 [x] 1 rfl (by unfold maxLen; omega) rfl) HM1.out HM2.out (by simp; omega) ?_); intro v5 w5 hown5 hg5; obtain ⟨a5, c5, e5, -⟩ := hown5.slice; rw [List.length_append, HK1.out] at e5; subst e5; have HO5 := Lib.hid hown5; have HB5 : Hid (Below w2.heap.size w2 w5) := ((below_drewN hb.out _).alloc (below_drewN hb.out nq).size _).grown hg5 (by simp; omega) (fun j hj => own_lt ho.out j hj); clear hown5 hg5)
              go_roundw
              case rel => exact ⟨k + 1, _, _, by go_num, by omega, rfl, by show V.Own _ _ _ _ _ _; rw [HS.out]; exact HO5.out, HB5.out⟩
              case measure => simp [intOf]; omega
            | false =>
              have HS : Hid ((xs.take (k + 1)).map f = (xs.take k).map f ++ [r]) := by
                show _ = _
                rw [take_at HR.out, List.map_append, List.map_singleton, HFF.out]
                have : ¬ r.t = x.t := by simpa using HBB.out
                simp [this]
              go_wp2_with fail
              go_quiet (fail)
              go_wp2_with (at_builtin; go_loud (refine wpList_app eltRide rfl (.tmp 40) (.tmp 45) rfl (base := w2.heap.size) _ ((xs.take k).map f) rfl ((ho.out.below (below_drewN (Below.refl _ _) _)).alloc _) _ 1 1 [r] rfl (sl_new (c := Ride.cod) _ #[.int .i64 r.t, .int .i64 r.s, .int .i64 r.e, .int .i64 r.f] 29 [r] 1 rfl (by unfold maxLen; omega) rfl) HM1.out HM2.out (by simp; omega) ?_); intro v5 w5 hown5 hg5; obtain ⟨a5, c5, e5, -⟩ := hown5.slice; rw [List.length_append, HK1.out] at e5; subst e5; have HO5 := Lib.hid hown5; have HB5 : Hid (Below w2.heap.size w2 w5) := ((below_drewN hb.out _).alloc (below_drewN hb.out nq).size _).grown hg5 (by simp; omega) (fun j hj => own_lt ho.out j hj); clear hown5 hg5)
              go_roundw
              case rel => exact ⟨k + 1, _, _, by go_num, by omega, rfl, by show V.Own _ _ _ _ _ _; rw [HS.out]; exact HO5.out, HB5.out⟩
              case measure => simp [intOf]; omega
          · have hk' : k = n := by omega
            have HK := Lib.hid hk'
            clear hk'
            go_wp2_with fail
            go_ret2
            refine ⟨_, by rw [e1]; rfl, ?_, HB2.out.trans (hb.out.mono HB2.out.size)⟩
            have := ho.out
            rw [HE2.out, ← HFF.out]
            rw [List.take_of_length_le (by have := hN.out; have := HK.out; omega)] at this
            exact this.lower HB2.out.size

/-! ### Without one -/
def remR (l : List Ride) (t : Int) : List Ride := if findE l t = 0 then l.filter (fun r => decide (r.t ≠ t)) else []

set_option maxHeartbeats 2000000 in
theorem rrem_any (a : Option Addr) (n cap : Nat) (xs : List Ride) (t : Int) (w : World) (hn : n ≤ 100000) (h : Sl Ride.cod w a n cap xs) :
    Calls Try.prog 9 #[.slice a n cap, .int .i64 t] w fun e w' => ∃ v, e = .returned (.tuple #[v, .int .i64 (findE xs t)]) ∧ V.Own 29 Ride.cod w.heap.size w' v (remR xs t) ∧ Below w.heap.size w w' := by
  have hN := Lib.hid h.hlen
  obtain ⟨pp, hpp⟩ : ∃ pp, decide (RightP xs) = pp := ⟨_, rfl⟩
  have HPP := Lib.hid hpp
  obtain ⟨F, hF⟩ : ∃ F, findI xs t = F := ⟨_, rfl⟩
  have HF := Lib.hid hF
  clear hF
  go_enter Try.func9, Try.ntmps9
  cases pp with
  | false =>
    have hp := of_decide_eq_false hpp
    have e1 : findE xs t = 2 := by unfold findE; rw [if_neg hp]
    have e2 : remR xs t = [] := by unfold remR; rw [if_neg (by rw [e1]; decide)]
    clear hpp
    go_wp2_with (go_at_call 22; go_fit (rright_any a n cap xs _ (by omega) h); rintro e w1 ⟨rfl, hb1⟩; rw [HPP.out]; have HB1 := Lib.hid hb1; clear hb1)
    go_ret2
    exact ⟨_, by rw [e1]; rfl, by rw [e2]; exact V.Own.nil, HB1.out⟩
  | true =>
    have hp := of_decide_eq_true hpp
    clear hpp
    by_cases hneg : F < 0
    · have e1 : findE xs t = 30 := by unfold findE; rw [if_pos hp, HF.out, if_pos hneg]
      have e2 : remR xs t = [] := by unfold remR; rw [if_neg (by rw [e1]; decide)]
      go_wp2_with (first
        | (go_at_call 22; go_fit (rright_any a n cap xs _ (by omega) h); rintro e w1 ⟨rfl, hb1⟩; rw [HPP.out]; have HB1 := Lib.hid hb1; clear hb1)
        | (go_at_call 23; refine (rfind_any a n cap xs t _ (by omega) (h.below HB1.out)).mono ?_; rintro e w3 ⟨rfl, rfl⟩; rw [HF.out]))
      go_ret2
      exact ⟨_, by rw [e1]; rfl, by rw [e2]; exact V.Own.nil, HB1.out⟩
    · have e1 : findE xs t = 0 := by unfold findE; rw [if_pos hp, HF.out, if_neg hneg]
      have e2 : remR xs t = xs.filter (fun r => decide (r.t ≠ t)) := by unfold remR; rw [if_pos e1]
      have HE2 := Lib.hid e2
      obtain ⟨f, hf⟩ : ∃ f : Ride → Bool, f = fun r => decide (r.t ≠ t) := ⟨_, rfl⟩
      have HFF := Lib.hid hf
      clear e2 hf hp
      go_wp2_with (first
        | (go_at_call 22; go_fit (rright_any a n cap xs _ (by omega) h); rintro e w1 ⟨rfl, hb1⟩; rw [HPP.out]; have HB1 := Lib.hid hb1; clear hb1)
        | (go_at_call 23; refine (rfind_any a n cap xs t _ (by omega) (h.below HB1.out)).mono ?_; rintro e w3 ⟨rfl, rfl⟩; rw [HF.out]))
      go_loopw [6, 7] (fun out i wr => ∃ (k m : Nat) (ao : Option Addr) (co : Nat), i = .int .i64 k ∧ k ≤ n ∧ m ≤ k ∧ out = .slice ao m co ∧ Hid (((xs.take k).filter f).length = m) ∧ Hid (V.Own 29 Ride.cod w1.heap.size wr (.slice ao m co) ((xs.take k).filter f)) ∧ Hid (Below w1.heap.size w1 wr)) (fun _ i _ => n - (intOf i).toNat)
      case atStart => exact ⟨0, 0, none, 0, rfl, by omega, by omega, rfl, rfl, V.Own.nil, Below.refl _ _⟩
      case round =>
        obtain ⟨k, m, ao, co, rfl, hk, hmk, rfl, hm, ho, hb⟩ := hrel
        by_cases hlt : k < n
        · have HBW : Hid (Below w.heap.size w wr) := HB1.out.trans (hb.out.mono HB1.out.size)
          obtain ⟨b, off, r, rfl, hbl, hr, c0, c1, c2, c3⟩ := ride_at (h.below HBW.out) hlt
          have HR := Lib.hid hr
          have HM1 : Hid (((xs.take k).filter f).length + 1 ≤ maxLen) := by show _ ≤ _; rw [hm.out]; unfold maxLen; omega
          have HM2 : Hid ((((xs.take k).filter f).length + 1) * 32 ≤ 140737488355328) := by show _ ≤ _; rw [hm.out]; omega
          have hsb := hb.out.size
          obtain ⟨bb, hbb⟩ : ∃ bb, (r.t != t) = bb := ⟨_, rfl⟩
          have HBB := Lib.hid hbb
          clear hr
          cases bb with
          | true =>
            have HS : Hid ((xs.take (k + 1)).filter f = (xs.take k).filter f ++ [r]) := by
              show _ = _
              rw [take_at HR.out, List.filter_append, HFF.out]
              have : ¬ r.t = t := by simpa using HBB.out
              simp [this]
            go_wp2_with (at_builtin; go_loud (refine wpList_app eltRide rfl (.tmp 28) (.tmp 33) rfl (base := w1.heap.size) _ ((xs.take k).filter f) rfl (ho.out.alloc _) _ 1 1 [r] rfl (sl_new (c := Ride.cod) _ #[.int .i64 r.t, .int .i64 r.s, .int .i64 r.e, .int .i64 r.f] 29 [r] 1 rfl (by unfold maxLen; omega) rfl) HM1.out HM2.out (by simp; omega) ?_); intro v5 w5 hown5 hg5; obtain ⟨a5, c5, e5, -⟩ := hown5.slice; rw [List.length_append, hm.out] at e5; subst e5; have HO5 := Lib.hid hown5; have HB5 : Hid (Below w1.heap.size w1 w5) := (hb.out.alloc hsb _).grown hg5 (by simp; omega) (fun j hj => own_lt ho.out j hj); clear hown5 hg5)
            go_roundw
            case rel => exact ⟨k + 1, m + 1, _, _, by go_num, by omega, by omega, rfl, by show _ = _; rw [HS.out, List.length_append, hm.out]; rfl, by show V.Own _ _ _ _ _ _; rw [HS.out]; exact HO5.out, HB5.out⟩
            case measure => simp [intOf]; omega
          | false =>
            have HS : Hid ((xs.take (k + 1)).filter f = (xs.take k).filter f) := by
              show _ = _
              rw [take_at HR.out, List.filter_append, HFF.out]
              have : r.t = t := by simpa using HBB.out
              simp [this]
            go_wp2_with fail
            go_roundw
            case rel => exact ⟨k + 1, m, _, _, by go_num, by omega, by omega, rfl, by show _ = _; rw [HS.out, hm.out], by show V.Own _ _ _ _ _ _; rw [HS.out]; exact ho.out, hb.out⟩
            case measure => simp [intOf]; omega
        · have hk' : k = n := by omega
          have HK := Lib.hid hk'
          clear hk'
          go_wp2_with fail
          go_ret2
          refine ⟨_, by rw [e1]; rfl, ?_, HB1.out.trans (hb.out.mono HB1.out.size)⟩
          have := ho.out
          rw [HE2.out, ← HFF.out]
          rw [List.take_of_length_le (by have := hN.out; have := HK.out; omega)] at this
          exact this.lower HB1.out.size
end Go.Proofs.Ytgdhlhjflbinmaa
