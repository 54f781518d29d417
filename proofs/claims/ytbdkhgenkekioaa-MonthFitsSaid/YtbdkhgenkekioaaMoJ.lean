/- Months: where a trip's ride is, walked. -/
import Derived.Test.YtbdkhgenkekioaaMoB
namespace Go.Proofs.Ytbdkhgenkekioaa
open Go.RowKit Go.V Go.Sort Go.Shelf Go.Proofs Go.Maps
open Go.Proofs.Ytbdkhgenkekioaa.Ne (box_alloc box_new box_cell box_below box_lt box2_cells)

def findR : List Ride → Int → Int
  | [], _ => -1
  | r :: l, t => if r.t = t then 0 else if findR l t < 0 then -1 else findR l t + 1
theorem findR_none : ∀ (l : List Ride) (t : Int), (∀ r ∈ l, r.t ≠ t) → findR l t = -1
  | [], _, _ => rfl
  | r :: l, t, h => by
    unfold findR
    rw [if_neg (h r (by simp)), findR_none l t (fun x hx => h x (by simp [hx]))]
    simp
theorem findR_at : ∀ (l : List Ride) (t : Int) (k : Nat) (r : Ride), (∀ j x, j < k → l[j]? = some x → x.t ≠ t) → l[k]? = some r → r.t = t → findR l t = k
  | [], t, k, r, _, h, _ => by simp at h
  | y :: l, t, 0, r, _, h, e => by simp at h; subst h; unfold findR; rw [if_pos e]; rfl
  | y :: l, t, k + 1, r, h1, h2, e => by
    have h3 := findR_at l t k r (fun j x hj hx => h1 (j + 1) x (by omega) (by simpa using hx)) (by simpa using h2) e
    unfold findR
    rw [if_neg (h1 0 y (by omega) (by simp)), h3, if_neg (by omega)]; push_cast; rfl
theorem findR_cases : ∀ (l : List Ride) (t : Int), (findR l t = -1 ∧ ∀ r ∈ l, r.t ≠ t) ∨ ∃ (k : Nat) (r : Ride), findR l t = k ∧ k < l.length ∧ l[k]? = some r ∧ r.t = t ∧ ∀ j x, j < k → l[j]? = some x → x.t ≠ t
  | [], t => .inl ⟨rfl, fun r hr => by simp at hr⟩
  | y :: l, t => by
    by_cases e : y.t = t
    · exact .inr ⟨0, y, by unfold findR; rw [if_pos e]; rfl, by simp, by simp, e, fun j x hj => by omega⟩
    · rcases findR_cases l t with ⟨h1, h2⟩ | ⟨k, r, h1, h2, h3, h4, h5⟩
      · refine .inl ⟨by unfold findR; rw [if_neg e, h1]; simp, fun r hr => ?_⟩
        rcases List.mem_cons.1 hr with rfl | hr
        · exact e
        · exact h2 r hr
      · refine .inr ⟨k + 1, r, by unfold findR; rw [if_neg e, h1, if_neg (by omega)]; push_cast; rfl, by simp; omega, by simpa using h3, h4, fun j x hj hx => ?_⟩
        cases j with
        | zero => simp at hx; subst hx; exact e
        | succ j => exact h5 j x (by omega) (by simpa using hx)
set_option maxHeartbeats 1000000 in
theorem ride1_any (r : Ride) (g : Nat) (t : Int) (w : World) (hg : w.cell? ⟨g, 0, none⟩ = some (.int .i64 t)) :
    Calls Try.prog 92 #[r.val, .pointer (some ⟨g, 0, none⟩)] w fun e w' => e = .returned (.bool (decide (r.t = t))) ∧ Below w.heap.size w w' := by
  have hgb := World.block_lt_of_cell? w _ hg
  unfold Ride.val
  go_enter Try.func92, Try.ntmps92
  go_wp2_with fail
  go_ret
  exact ⟨ret_bool (by rw [Bool.eq_iff_iff]; simp), (Below.refl _ _).alloc (Nat.le_refl _) _⟩

set_option maxHeartbeats 1000000 in
theorem rindex_any (a : Option Addr) (n cap : Nat) (xs : List Ride) (g : Nat) (t : Int) (w : World) (hn : n ≤ 1000000) (h : Sl Ride.cod w a n cap xs) (hg : w.cell? ⟨g, 0, none⟩ = some (.int .i64 t)) :
    Calls Try.prog 91 #[.slice a n cap, .func (.func 92) #[] #[.pointer (some ⟨g, 0, none⟩)]] w fun e w' => e = .returned (.int .i64 (findR xs t)) ∧ Below w.heap.size w w' := by
  have hN := Lib.hid h.hlen
  have hgb := World.block_lt_of_cell? w _ hg
  have HG := Lib.hid hg
  clear hg
  go_enter Try.func91, Try.ntmps91
  go_wp2_with fail
  go_loopw [8] (fun i wr => ∃ k : Nat, i = .int .i64 k ∧ k ≤ n ∧ Hid (∀ j x, j < k → xs[j]? = some x → x.t ≠ t) ∧ Hid (Below w.heap.size w wr)) (fun i _ => n - (intOf i).toNat)
  case atStart => exact ⟨0, rfl, by omega, fun j x hj => by omega, Below.refl _ _⟩
  case round =>
    obtain ⟨k, rfl, hk, hnot, hB⟩ := hrel
    by_cases hlt : k < n
    · obtain ⟨b, off, r, rfl, hbl, hr, c0, c1, c2, c3⟩ := ride_at (h.below hB.out) hlt
      have kg : wr.cell? ⟨g, 0, none⟩ = some (.int .i64 t) := (hB.out.cell (p := ⟨g, 0, none⟩) hgb).trans HG.out
      have KG := Lib.hid kg
      have HR := Lib.hid hr
      obtain ⟨bb, hbb⟩ : ∃ bb, decide (r.t = t) = bb := ⟨_, rfl⟩
      have HBB := Lib.hid hbb
      clear hr kg
      have e0 : (Value.agg #[.int .i64 r.t, .int .i64 r.s, .int .i64 r.e, .int .i64 r.f]) = r.val := rfl
      cases bb with
      | true =>
        clear hbb
        go_wp2_with (go_at_call 92; refine (ride1_any r g t _ KG.out).mono ?_; rintro e w1 ⟨rfl, hb1⟩; rw [HBB.out]; have HB1 := Lib.hid (hB.out.trans (hb1.mono hB.out.size)); clear hb1)
        go_ret
        exact ⟨by rw [findR_at xs t k r hnot.out HR.out (of_decide_eq_true HBB.out)]; rfl, HB1.out⟩
      | false =>
        clear hbb
        go_wp2_with (go_at_call 92; refine (ride1_any r g t _ KG.out).mono ?_; rintro e w1 ⟨rfl, hb1⟩; rw [HBB.out]; have HB1 := Lib.hid (hB.out.trans (hb1.mono hB.out.size)); clear hb1)
        go_roundw
        case rel =>
          refine ⟨k + 1, by go_num, by omega, fun j x hj hx => ?_, HB1.out⟩
          by_cases ej : j = k
          · subst ej
            have := hx.symm.trans HR.out
            cases this
            exact of_decide_eq_false HBB.out
          · exact hnot.out j x (by omega) hx
        case measure => simp [intOf]; omega
    · have hk' : k = n := by omega
      subst hk'
      go_wp2_with fail
      go_ret
      refine ⟨?_, hB.out⟩
      rw [findR_none xs t (fun r hr => by
        obtain ⟨j, hj⟩ := List.mem_iff_getElem?.1 hr
        exact hnot.out j r (by have := (List.getElem?_eq_some_iff.1 hj).1; have := hN.out; omega) hj)]
      rfl


set_option maxHeartbeats 1000000 in
theorem ride_any (a : Option Addr) (n cap : Nat) (xs : List Ride) (t : Int) (w : World) (hn : n ≤ 1000000) (h : Sl Ride.cod w a n cap xs) :
    Calls Try.prog 49 #[.slice a n cap, .int .i64 t] w fun e w' => e = .returned (.int .i64 (findR xs t)) ∧ Below w.heap.size w w' := by
  have B0 : Hid (Below w.heap.size w (w.alloc (.cells #[.int .i64 t] 3))) := (Below.refl _ _).alloc (Nat.le_refl _) _
  have kg : Hid ((w.alloc (.cells #[.int .i64 t] 3)).cell? ⟨w.heap.size, 0, none⟩ = some (.int .i64 t)) := (box_cell (box_new w _) 0).1
  go_enter Try.func49, Try.ntmps49
  go_wp2_with (go_at_call 91; refine (rindex_any a n cap xs w.heap.size t _ hn (h.below B0.out) kg.out).mono ?_; rintro e w1 ⟨rfl, hb1⟩; have HB1 := Lib.hid (B0.out.trans (hb1.mono B0.out.size)); clear hb1)
  go_ret
  exact ⟨rfl, HB1.out⟩
end Go.Proofs.Ytbdkhgenkekioaa
