/- Disputes: where a trip's ride is; another one in its stead; what that makes. -/
import Derived.Test.YtgdhlhjflbinmaaDiA
namespace Go.Proofs.Ytgdhlhjflbinmaa
open Go.RowKit Go.V Go.Sort Go.Shelf Go.Proofs Go.Maps


set_option maxHeartbeats 1000000 in
theorem find1_any (r : Ride) (g : Nat) (t : Int) (w : World) (hg : w.cell? ⟨g, 0, none⟩ = some (.int .i64 t)) :
    Calls Try.prog 31 #[r.val, .pointer (some ⟨g, 0, none⟩)] w fun e w' => e = .returned (.bool (decide (r.t = t))) ∧ Below w.heap.size w w' := by
  have hgb := World.block_lt_of_cell? w _ hg
  unfold Ride.val
  go_enter Try.func31, Try.ntmps31
  go_wp2_with fail
  go_ret
  exact ⟨ret_bool (by rw [Bool.eq_iff_iff]; simp), (Below.refl _ _).alloc (Nat.le_refl _) _⟩

set_option maxHeartbeats 1000000 in
theorem index_any (a : Option Addr) (n cap : Nat) (xs : List Ride) (g : Nat) (t : Int) (w : World) (hn : n ≤ 1000000) (h : Sl Ride.cod w a n cap xs) (hg : w.cell? ⟨g, 0, none⟩ = some (.int .i64 t)) :
    Calls Try.prog 30 #[.slice a n cap, .func (.func 31) #[] #[.pointer (some ⟨g, 0, none⟩)]] w fun e w' => e = .returned (.int .i64 (findI xs t)) ∧ Below w.heap.size w w' := by
  have hN := Lib.hid h.hlen
  have hgb := World.block_lt_of_cell? w _ hg
  have HG := Lib.hid hg
  clear hg
  go_enter Try.func30, Try.ntmps30
  go_wp2_with fail
  go_loopw [8] (fun i wr => ∃ k : Nat, i = .int .i64 k ∧ k ≤ n ∧ Hid (∀ j x, j < k → xs[j]? = some x → x.t ≠ t) ∧ Hid (Below w.heap.size w wr)) (fun i _ => n - (intOf i).toNat)
  case atStart => exact ⟨0, rfl, by omega, fun j x hj => by omega, Below.refl _ _⟩
  case round =>
    obtain ⟨k, rfl, hk, hnot, hB⟩ := hrel
    by_cases hlt : k < n
    · obtain ⟨b, off, r, rfl, hbl, hr, c0, c1, c2, c3⟩ := ride_at (h.below hB.out) hlt
      have kg : wr.cell? ⟨g, 0, none⟩ = some (.int .i64 t) := (hB.out.cell (p := ⟨g, 0, none⟩) hgb).trans HG.out
      have KG := Lib.hid kg
      have HR := Lib.hid hr
      obtain ⟨bb, hbb⟩ : ∃ bb, decide (r.t = t) = bb := ⟨_, rfl⟩
      have HBB := Lib.hid hbb
      clear hr kg
      have e0 : (Value.agg #[.int .i64 r.t, .int .i64 r.s, .int .i64 r.e, .int .i64 r.f]) = r.val := rfl
      cases bb with
      | true =>
        clear hbb
        go_wp2_with (go_at_call 31; refine (find1_any r g t _ KG.out).mono ?_; rintro e w1 ⟨rfl, hb1⟩; rw [HBB.out]; have HB1 := Lib.hid (hB.out.trans (hb1.mono hB.out.size)); clear hb1)
        go_ret
        exact ⟨by rw [findI_at xs t k r hnot.out HR.out (of_decide_eq_true HBB.out)]; rfl, HB1.out⟩
      | false =>
        clear hbb
        go_wp2_with (go_at_call 31; refine (find1_any r g t _ KG.out).mono ?_; rintro e w1 ⟨rfl, hb1⟩; rw [HBB.out]; have HB1 := Lib.hid (hB.out.trans (hb1.mono hB.out.size)); clear hb1)
        go_roundw
        case rel =>
          refine ⟨k + 1, by go_num, by omega, fun j x hj hx => ?_, HB1.out⟩
          by_cases ej : j = k
          · subst ej
            have := hx.symm.trans HR.out
            cases this
            exact of_decide_eq_false HBB.out
          · exact hnot.out j x (by omega) hx
        case measure => simp [intOf]; omega
    · have hk' : k = n := by omega
      subst hk'
      go_wp2_with fail
      go_ret
      refine ⟨?_, hB.out⟩
      rw [findI_none xs t (fun r hr => by
        obtain ⟨j, hj⟩ := List.mem_iff_getElem?.1 hr
        exact hnot.out j r (by have := (List.getElem?_eq_some_iff.1 hj).1; have := hN.out; omega) hj)]
      rfl

def findE (l : List Ride) (t : Int) : Int := if RightP l then if findI l t < 0 then 30 else 0 else 2
def findV (l : List Ride) (t : Int) : Int := if findE l t = 0 then findI l t else 0

set_option maxHeartbeats 1000000 in
theorem find_any (a : Option Addr) (n cap : Nat) (xs : List Ride) (t : Int) (w : World) (hn : n ≤ 1000000) (hok : ∀ r ∈ xs, Ride.ok r) (h : Sl Ride.cod w a n cap xs) :
    Calls Try.prog 20 #[.slice a n cap, .int .i64 t] w fun e w' => e = .returned (.tuple #[.int .i64 (findV xs t), .int .i64 (findE xs t)]) ∧ Below w.heap.size w w' := by
  have B0 : Hid (Below w.heap.size w (w.alloc (.cells #[.int .i64 t] 3))) := (Below.refl _ _).alloc (Nat.le_refl _) _
  have kg : Hid ((w.alloc (.cells #[.int .i64 t] 3)).cell? ⟨w.heap.size, 0, none⟩ = some (.int .i64 t)) := (box_cell (box_new w _) 0).1
  obtain ⟨pp, hpp⟩ : ∃ pp, decide (RightP xs) = pp := ⟨_, rfl⟩
  have HPP := Lib.hid hpp
  obtain ⟨F, hF⟩ : ∃ F, findI xs t = F := ⟨_, rfl⟩
  have HF := Lib.hid hF
  clear hF
  go_enter Try.func20, Try.ntmps20
  cases pp with
  | false =>
    have hp := of_decide_eq_false hpp
    have e1 : findE xs t = 2 := by unfold findE; rw [if_neg hp]
    have e2 : findV xs t = 0 := by unfold findV; rw [if_neg (by rw [e1]; decide)]
    clear hpp
    go_wp2_with (first
      | (go_at_call 30; refine (index_any a n cap xs w.heap.size t _ hn (h.below B0.out) kg.out).mono ?_; rintro e w1 ⟨rfl, hb1⟩; rw [HF.out]; have HB1 := Lib.hid (B0.out.trans (hb1.mono B0.out.size)); clear hb1)
      | (go_at_call 19; refine (right_any a n cap xs _ hn hok (h.below HB1.out)).mono ?_; rintro e w2 ⟨rfl, hb2⟩; rw [HPP.out]; have HB2 := Lib.hid (HB1.out.trans (hb2.mono HB1.out.size)); clear hb2))
    go_ret2
    exact ⟨by rw [e1, e2]; rfl, HB2.out⟩
  | true =>
    have hp := of_decide_eq_true hpp
    clear hpp
    by_cases hneg : F < 0
    · have e1 : findE xs t = 30 := by unfold findE; rw [if_pos hp, HF.out, if_pos hneg]
      have e2 : findV xs t = 0 := by unfold findV; rw [if_neg (by rw [e1]; decide)]
      go_wp2_with (first
        | (go_at_call 30; refine (index_any a n cap xs w.heap.size t _ hn (h.below B0.out) kg.out).mono ?_; rintro e w1 ⟨rfl, hb1⟩; rw [HF.out]; have HB1 := Lib.hid (B0.out.trans (hb1.mono B0.out.size)); clear hb1)
        | (go_at_call 19; refine (right_any a n cap xs _ hn hok (h.below HB1.out)).mono ?_; rintro e w2 ⟨rfl, hb2⟩; rw [HPP.out]; have HB2 := Lib.hid (HB1.out.trans (hb2.mono HB1.out.size)); clear hb2))
      go_ret2
      exact ⟨by rw [e1, e2]; rfl, HB2.out⟩
    · have e1 : findE xs t = 0 := by unfold findE; rw [if_pos hp, HF.out, if_neg hneg]
      have e2 : findV xs t = F := by unfold findV; rw [if_pos e1, HF.out]
      go_wp2_with (first
        | (go_at_call 30; refine (index_any a n cap xs w.heap.size t _ hn (h.below B0.out) kg.out).mono ?_; rintro e w1 ⟨rfl, hb1⟩; rw [HF.out]; have HB1 := Lib.hid (B0.out.trans (hb1.mono B0.out.size)); clear hb1)
        | (go_at_call 19; refine (right_any a n cap xs _ hn hok (h.below HB1.out)).mono ?_; rintro e w2 ⟨rfl, hb2⟩; rw [HPP.out]; have HB2 := Lib.hid (HB1.out.trans (hb2.mono HB1.out.size)); clear hb2))
      go_ret2
      exact ⟨by rw [e1, e2]; rfl, HB2.out⟩

theorem box4_cells {w : World} {g : Nat} {e : TypeId} {u0 u1 u2 u3 : Value} (h : w.heap[g]? = some (.cells #[u0, u1, u2, u3] e (0, 0))) : w.cell? ⟨g, 0, none⟩ = some u0 ∧ w.cell? ⟨g, 1, none⟩ = some u1 ∧ w.cell? ⟨g, 2, none⟩ = some u2 ∧ w.cell? ⟨g, 3, none⟩ = some u3 :=
  ⟨(box_cell h 0).1, (box_cell h 1).1, (box_cell h 2).1, (box_cell h 3).1⟩
theorem rown_cells {base : Nat} {w : World} {g n cap : Nat} {xs : List Ride} (h : V.Own 29 Ride.cod base w (.slice (some ⟨g, 0, none⟩) n cap) xs) (hn : n = xs.length) {k : Nat} {r : Ride} (hk : xs[k]? = some r) :
    (w.cell? ⟨g, k * 4, none⟩ = some (.int .i64 r.t) ∧ w.cell? ⟨g, k * 4 + 1, none⟩ = some (.int .i64 r.s) ∧ w.cell? ⟨g, k * 4 + 2, none⟩ = some (.int .i64 r.e) ∧ w.cell? ⟨g, k * 4 + 3, none⟩ = some (.int .i64 r.f)) ∧
    (w.frozen? ⟨g, k * 4, none⟩ = false ∧ w.frozen? ⟨g, k * 4 + 1, none⟩ = false ∧ w.frozen? ⟨g, k * 4 + 2, none⟩ = false ∧ w.frozen? ⟨g, k * 4 + 3, none⟩ = false) := by
  obtain ⟨a', cap', e, hsl, -⟩ := h.slice
  subst hn
  cases e
  obtain ⟨b, off, r', e2, hb, hr, c0, c1, c2, c3⟩ := ride_at hsl (List.getElem?_eq_some_iff.1 hk).1
  cases e2
  have := hk.symm.trans hr
  cases this
  rw [Nat.zero_add] at c0 c1 c2 c3
  exact ⟨⟨c0, c1, c2, c3⟩, rown_free h rfl _, rown_free h rfl _, rown_free h rfl _, rown_free h rfl _⟩
/-! ### Replace -/
def repE (l : List Ride) (x : Ride) : Int := if RightP [x] then findE l x.t else 2
def repR (l : List Ride) (x : Ride) : List Ride := if repE l x = 0 then l.set (findV l x.t).toNat x else []

set_option maxHeartbeats 2000000 in
theorem replace_any (a : Option Addr) (n cap : Nat) (xs : List Ride) (x : Ride) (w : World) (hn : n ≤ 1000000) (hok : ∀ r ∈ xs, Ride.ok r) (hx : Ride.ok x) (h : Sl Ride.cod w a n cap xs) :
    Calls Try.prog 6 #[.slice a n cap, x.val] w fun e w' => ∃ v, e = .returned (.tuple #[v, .int .i64 (repE xs x)]) ∧ V.Own 29 Ride.cod w.heap.size w' v (repR xs x) ∧ Below w.heap.size w w' := by
  have B0 : Hid (Below w.heap.size w (w.alloc (.cells #[.int .i64 x.t, .int .i64 x.s, .int .i64 x.e, .int .i64 x.f] 29))) := (Below.refl _ _).alloc (Nat.le_refl _) _
  have X0 : Hid ((w.alloc (.cells #[.int .i64 x.t, .int .i64 x.s, .int .i64 x.e, .int .i64 x.f] 29)).heap[w.heap.size]? = some (.cells #[.int .i64 x.t, .int .i64 x.s, .int .i64 x.e, .int .i64 x.f] 29 (0, 0))) := box_new w _
  have S0 : Hid (Sl Ride.cod ((w.alloc (.cells #[.int .i64 x.t, .int .i64 x.s, .int .i64 x.e, .int .i64 x.f] 29)).alloc (.cells #[.int .i64 x.t, .int .i64 x.s, .int .i64 x.e, .int .i64 x.f] 29)) (some ⟨w.heap.size + 1, 0, none⟩) 1 1 [x]) := by
    have := sl_new (c := Ride.cod) (w.alloc (.cells #[.int .i64 x.t, .int .i64 x.s, .int .i64 x.e, .int .i64 x.f] 29)) #[.int .i64 x.t, .int .i64 x.s, .int .i64 x.e, .int .i64 x.f] 29 [x] 1 rfl (by unfold maxLen; omega) rfl
    rwa [World.size_alloc] at this
  have hone : ∀ r ∈ [x], Ride.ok r := fun r hr => by rw [List.mem_singleton.1 hr]; exact hx
  obtain ⟨p1, hp1⟩ : ∃ p1, decide (RightP [x]) = p1 := ⟨_, rfl⟩
  have HP1 := Lib.hid hp1
  obtain ⟨F, hF⟩ : ∃ F, findV xs x.t = F := ⟨_, rfl⟩
  obtain ⟨E, hE⟩ : ∃ E, findE xs x.t = E := ⟨_, rfl⟩
  have HF : Hid (findV xs x.t = F ∧ findE xs x.t = E) := ⟨hF, hE⟩
  unfold Ride.val
  go_enter Try.func6, Try.ntmps6
  cases p1 with
  | false =>
    have e1 : repE xs x = 2 := by unfold repE; rw [if_neg (of_decide_eq_false hp1)]
    have e2 : repR xs x = [] := by unfold repR; rw [if_neg (by rw [e1]; decide)]
    clear hp1
    go_wp2_with (first
      | (go_at_call 19; refine (right_any (some ⟨w.heap.size + 1, 0, none⟩) 1 1 [x] _ (by omega) hone S0.out).mono ?_; rintro e w1 ⟨rfl, hb1⟩; rw [HP1.out]; have HB1 : Hid (Below w.heap.size w w1) := (B0.out.alloc B0.out.size _).trans (hb1.mono (B0.out.alloc B0.out.size _).size); clear hb1))
    go_ret2
    exact ⟨_, by rw [e1]; rfl, by rw [e2]; exact V.Own.nil, HB1.out⟩
  | true =>
    have hp := of_decide_eq_true hp1
    clear hp1
    by_cases hne : E = 0
    case neg =>
      have e1 : repE xs x = E := by unfold repE; rw [if_pos hp, hE]
      have e2 : repR xs x = [] := by unfold repR; rw [if_neg (by rw [e1]; exact hne)]
      have e3 : (E == 0) = false := by simp; exact hne
      clear hp hF hE
      go_wp2_with (first
        | (go_at_call 19; refine (right_any (some ⟨w.heap.size + 1, 0, none⟩) 1 1 [x] _ (by omega) hone S0.out).mono ?_; rintro e w1 ⟨rfl, hb1⟩; rw [HP1.out]; have HB1 : Hid (Below w.heap.size w w1) := (B0.out.alloc B0.out.size _).trans (hb1.mono (B0.out.alloc B0.out.size _).size); have X1 := Lib.hid (box_below (box_alloc X0.out) hb1); obtain ⟨u0, u1, u2, u3⟩ := box4_cells X1.out; clear hb1)
        | (go_at_call 20; refine (find_any a n cap xs x.t _ hn hok (h.below HB1.out)).mono ?_; rintro e w2 ⟨rfl, hb2⟩; rw [HF.out.1, HF.out.2]; have HB2 : Hid (Below w.heap.size w w2) := HB1.out.trans (hb2.mono HB1.out.size); clear hb2))
      go_ret2
      exact ⟨_, by rw [e1]; rfl, by rw [e2]; exact V.Own.nil, HB2.out⟩
    case pos =>
      subst hne
      have e1 : repE xs x = 0 := by unfold repE; rw [if_pos hp, hE]
      obtain ⟨k, r, hk1, hk2, hk3⟩ : ∃ (k : Nat) (r : Ride), F = k ∧ k < xs.length ∧ xs[k]? = some r := by
        have hv : F = findI xs x.t := by rw [← hF]; unfold findV; rw [if_pos hE]
        have hneg : ¬ findI xs x.t < 0 := by
          intro hh
          unfold findE at hE
          split at hE
          · cases hE
          · cases hE
        rcases findI_cases xs x.t with ⟨h1, -⟩ | ⟨k, r, h1, h2, h3, -⟩
        · omega
        · exact ⟨k, r, by omega, h2, h3⟩
      subst hk1
      have e2 : repR xs x = xs.set k x := by unfold repR; rw [if_pos e1, hF]; simp
      have hkn : (k : Int) < (xs.length : Int) := by omega
      have hne : xs ≠ [] := by intro e; rw [e] at hk2; simp at hk2
      have HNE := Lib.hid hne
      have HK3 := Lib.hid hk3
      clear hp hF hE hne hk3
      go_wp2_with (first
        | (go_at_call 19; refine (right_any (some ⟨w.heap.size + 1, 0, none⟩) 1 1 [x] _ (by omega) hone S0.out).mono ?_; rintro e w1 ⟨rfl, hb1⟩; rw [HP1.out]; have HB1 : Hid (Below w.heap.size w w1) := (B0.out.alloc B0.out.size _).trans (hb1.mono (B0.out.alloc B0.out.size _).size); have X1 := Lib.hid (box_below (box_alloc X0.out) hb1); obtain ⟨u0, u1, u2, u3⟩ := box4_cells X1.out; clear hb1)
        | (go_at_call 20; refine (find_any a n cap xs x.t _ hn hok (h.below HB1.out)).mono ?_; rintro e w2 ⟨rfl, hb2⟩; rw [HF.out.1, HF.out.2]; have HB2 : Hid (Below w.heap.size w w2) := HB1.out.trans (hb2.mono HB1.out.size); have X2 := Lib.hid (box_below X1.out hb2); clear hb2 u0 u1 u2 u3)
        | (go_at_call 21; refine (clone_any a n cap xs _ (by omega) (h.below HB2.out)).mono ?_; rintro e w3 ⟨v, rfl, ho, hb3, -⟩; obtain ⟨g, cg, rfl, hg1, hg2⟩ := own_some (show V.Own 29 Ride.cod _ w3 v xs from ho) HNE.out; have HO : Hid (V.Own 29 Ride.cod w2.heap.size w3 (.slice (some ⟨g, 0, none⟩) xs.length cg) xs) := ho; have HB3 : Hid (Below w.heap.size w w3) := HB2.out.trans (hb3.mono HB2.out.size); have X3 := Lib.hid (box_below X2.out hb3); obtain ⟨u0, u1, u2, u3⟩ := box4_cells X3.out; obtain ⟨⟨c0, c1, c2, c3⟩, f0, f1, f2, f3⟩ := rown_cells HO.out rfl HK3.out; have hb23 := hb3.size; clear hb3 ho))
      obtain ⟨hown, hgr⟩ := rown_set HO.out rfl k x rfl
      go_ret2
      exact ⟨_, by rw [e1]; rfl, by rw [e2]; exact hown.lower HB2.out.size, HB3.out.grown hgr HB3.out.size (fun j hj => by cases hj; have := HB2.out.size; omega)⟩
end Go.Proofs.Ytgdhlhjflbinmaa
