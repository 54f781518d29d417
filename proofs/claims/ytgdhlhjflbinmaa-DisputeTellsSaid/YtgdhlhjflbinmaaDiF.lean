/- Two rows of rides in one: slices.Grow at nil and slices.Concat, walked. -/
import Derived.Test.YtgdhlhjflbinmaaFaM
import Derived.Lib.AppendZerosOnto
namespace Go.Proofs.Ytgdhlhjflbinmaa
open Go.RowKit Go.V Go.Sort Go.Shelf Go.Proofs Go.Maps

theorem rsl_from {α : Type} {c : Cod α} {w : World} {a : Option Addr} {n cap : Nat} {xs : List α} (h : Sl c w a n cap xs) {q : Nat} (hq : q ≤ n) : Sl c w (if cap = q then a else a.map (·.add (q * c.k))) (n - q) (cap - q) (xs.drop q) := by
  have h1 := h.hlen
  have h2 := h.hcap
  have h3 := h.hmax
  by_cases e : cap = q
  · rw [if_pos e]
    have e2 : xs.drop q = [] := List.drop_eq_nil_of_le (by omega)
    rw [e2]
    refine ⟨by simp; omega, by omega, by omega, fun e3 => ⟨by omega, by omega⟩, fun d hd => ?_⟩
    obtain ⟨g1, g2, -⟩ := h.hat d hd
    exact ⟨g1, g2, fun j u hu => by simp at hu⟩
  · rw [if_neg e]
    refine ⟨by rw [List.length_drop]; omega, by omega, by omega, fun e3 => ?_, fun d hd => ?_⟩
    · cases a with
      | none => have := h.hnil rfl; omega
      | some d => cases e3
    · cases a with
      | none => cases hd
      | some d0 =>
        obtain ⟨g1, g2, g3⟩ := h.hat d0 rfl
        obtain ⟨b, off, sp⟩ := d0
        have g1 : sp = none := g1
        subst g1
        have hd : (⟨b, off, none⟩ : Addr).add (q * c.k) = d := Option.some.inj hd
        rw [add_addr] at hd
        subst hd
        refine ⟨rfl, g2, fun j u hu => ?_⟩
        have := g3 (q * c.k + j) u (by
          have e4 : xs = xs.take q ++ xs.drop q := (List.take_append_drop q xs).symm
          have e5 : ((xs.take q).flatMap c.enc).length = q * c.k := by rw [flat_len, List.length_take, Nat.min_eq_left (by omega)]
          rw [e4, List.flatMap_append, List.getElem?_append_right (by omega), e5, Nat.add_sub_cancel_left]
          exact hu)
        show w.cell? ⟨b, off + q * c.k + j, none⟩ = some u
        rw [Nat.add_assoc]; exact this
theorem rmap_add0 {α : Type} {c : Cod α} {w : World} {a : Option Addr} {n cap : Nat} {xs : List α} (h : Sl c w a n cap xs) (s : Nat) : a.map (·.add (0 * s)) = a := by
  cases a with
  | none => rfl
  | some d =>
    obtain ⟨g1, -, -⟩ := h.hat d rfl
    obtain ⟨b, off, sp⟩ := d
    have g1 : sp = none := g1
    subst g1
    show some ((⟨b, off, none⟩ : Addr).add (0 * s)) = some _
    rw [Nat.zero_mul, add_addr]; rfl

theorem rrun_upto {w : World} {a : Option Addr} {n cap q : Nat} {xs : List Ride} (h : Sl Ride.cod w a n cap xs) (hq : q ≤ n) (W : World) : (Instr.slice 27 (.slice a n cap) none (some (.int .i64 (q : Int))) none).run Try.prog W = .ok (.slice a q cap) W := by
  have hc := h.hcap
  rw [run_slice_h W 27 a n cap (by kernel_rfl) .i64 (q : Int) (by omega) (by omega)]
  have e : (sizeOf (Try.prog.elem 27)).run Try.prog W = .ok 4 W := by kernel_rfl
  rw [e]
  show Result.ok (sliced a 0 (q : Int).toNat cap 4) W = _
  unfold sliced
  rw [Int.toNat_natCast, rmap_add0 h, ite_self]; rfl
theorem rrun_from {w : World} {a : Option Addr} {n cap q : Nat} {xs : List Ride} (h : Sl Ride.cod w a n cap xs) (hq : q ≤ n) (W : World) : (Instr.slice 27 (.slice a n cap) (some (.int .i64 (q : Int))) none none).run Try.prog W = .ok (.slice (if cap = q then a else a.map (·.add (q * Ride.cod.k))) (n - q) (cap - q)) W := by
  have hc := h.hcap
  rw [run_slice_l W 27 a n cap (by kernel_rfl) .i64 (q : Int) (by omega) (by omega)]
  have e : (sizeOf (Try.prog.elem 27)).run Try.prog W = .ok 4 W := by kernel_rfl
  rw [e]
  show Result.ok (sliced a (q : Int).toNat n cap 4) W = _
  unfold sliced
  rw [Int.toNat_natCast]; rfl

/-! ### slices.Grow at nil -/
set_option maxHeartbeats 2000000 in
set_option maxRecDepth 100000 in
theorem grow_any (n : Nat) (w : World) (hn : n ≤ 1000000) : Calls Try.prog 32 #[.slice none 0 0, .int .i64 (n : Int)] w fun e w' => ∃ v, e = .returned v ∧ V.Own 29 Ride.cod w.heap.size w' v [] ∧ Below w.heap.size w w' := by
  have h1 : ¬ ((n : Int) < 0) := by omega
  by_cases h0 : n = 0
  · subst h0
    go_enter Try.func32, Try.ntmps32
    go_wp2
    go_ret
    exact ⟨_, rfl, V.Own.nil, Below.refl _ _⟩
  obtain ⟨i0, hi0, hz0, hs0, hb0⟩ := info_parts (P := Try.prog) (e := 29) (z := .agg #[.int .i64 0, .int .i64 0, .int .i64 0, .int .i64 0]) (size := 4) (bytes := 32) (by kernel_rfl)
  have hpos : (0 : Int) < (n : Int) := by omega
  obtain ⟨G, hG⟩ : ∃ G, grownCap w n 0 29 = G := ⟨_, rfl⟩
  have hGn : n ≤ G := by have := grownCap_ge w n 0 29; omega
  have hGm : G ≤ maxLen := by have := grownCap_le_maxLen w n 0 29 (by unfold maxLen; omega); omega
  have hold : (Builtin.firstCells i0.size 0 (.slice none 0 0)).run Try.prog w.drew = .ok ([] : List Value).toArray w.drew := run_firstCells_none w.drew i0.size 0 0 0
  have hrz : ∀ ty, (Builtin.append_ #[27, 3] ty #[.slice none 0 0, .int .i64 (n : Int)]).run Try.prog w = .ok (.slice (some ⟨w.heap.size, 0, none⟩) n G) (w.drew.alloc (.cells (Builtin.zeroCells (Value.agg #[.int .i64 0, .int .i64 0, .int .i64 0, .int .i64 0]).cells n ++ Builtin.zeroCells (Value.agg #[.int .i64 0, .int .i64 0, .int .i64 0, .int .i64 0]).cells (G - n)) 29)) := fun ty => by
    have h := Lib.run_append_grow_zeros w 27 3 ty 29 i0 _ .i64 .i64 Try.underlying27 Try.underlying3 hi0 hz0 none 0 0 [] hold n (by omega) (by rw [hs0]; omega) (by omega) (by omega) (by rw [hb0]; omega)
      (growslice_fits (by omega) (by rw [hb0]; omega))
    simp only [Nat.zero_add, hG, List.toArray] at h
    simpa using h
  have hG63 : G ≤ 9223372036854775807 := by unfold maxLen at hGm; omega
  have HGM := Lib.hid hGm
  have HGN := Lib.hid hGn
  clear hold hG hGm
  go_enter Try.func32, Try.ntmps32
  go_wp2_with (at_builtin; refine Lib.wpList_append_run _ rfl _ _ _ _ rfl _ _ rfl rfl _ _ (hrz _) ?_)
  go_ret
  refine ⟨_, rfl, World.ownsRow_made (e := 29) (size := 4) w.drew _ G (Nat.le_refl _) HGM.out ?_, Below.alloc (Below.drew (Below.refl _ _)) (Nat.le_refl _) _⟩
  show (Builtin.zeroCells _ n ++ Builtin.zeroCells _ (G - n)).size = G * 4
  rw [Array.size_append, size_zeroCells, size_zeroCells]
  show n * 4 + (G - n) * 4 = G * 4
  omega

/-! ### slices.Concat of two -/
theorem rown_lt {base : Nat} {w : World} {v : Value} {xs : List Ride} (h : V.Own 29 Ride.cod base w v xs) : ∀ j, v.ownBlock = some j → base ≤ j := fun j hj => (World.ownsRow.lt h j hj).1
def catTo (xs ys : List Ride) (k : Nat) : List Ride := if k = 0 then [] else if k = 1 then xs else xs ++ ys
set_option maxHeartbeats 4000000 in
theorem concat_any (b : Nat) (a : Option Addr) (n cap : Nat) (xs : List Ride) (a' : Option Addr) (n' cap' : Nat) (ys : List Ride) (w : World) (hn : n ≤ 100000) (hn' : n' ≤ 100000) (hc : w.heap[b]? = some (.cells #[.slice a n cap, .slice a' n' cap'] 27 (0, 0))) (h : Sl Ride.cod w a n cap xs) (h' : Sl Ride.cod w a' n' cap' ys) :
    Calls Try.prog 24 #[.slice (some ⟨b, 0, none⟩) 2 2] w fun e w' => ∃ v, e = .returned v ∧ V.Own 29 Ride.cod w.heap.size w' v (xs ++ ys) ∧ Below w.heap.size w w' := by
  have HN := Lib.hid h.hlen
  have HN' := Lib.hid h'.hlen
  have c0 : w.cell? ⟨b, 0, none⟩ = some (.slice a n cap) := (box_cell hc 0).1
  have c1 : w.cell? ⟨b, 1, none⟩ = some (.slice a' n' cap') := (box_cell hc 1).1
  go_enter Try.func24, Try.ntmps24
  go_wp2_with fail
  go_loop [3, 11] (fun s i => ∃ k : Nat, i = .int .i64 k ∧ k ≤ 2 ∧ s = .int .i64 (((if k = 0 then 0 else if k = 1 then n else n + n' : Nat) : Int))) (fun _ i => 2 - (intOf i).toNat)
  case atStart => exact ⟨0, rfl, by omega, rfl⟩
  case round =>
    obtain ⟨k, rfl, hk, rfl⟩ := hrel
    by_cases h0 : k = 0
    · subst h0
      go_wp2_with fail
      go_round
      case rel => exact ⟨1, by go_num, by omega, by simp⟩
      case measure => simp [intOf]
    by_cases h1 : k = 1
    · subst h1
      go_wp2_with fail
      go_round
      case rel => exact ⟨2, by go_num, by omega, by simp⟩
      case measure => simp [intOf]
    have h2 : k = 2 := by omega
    subst h2
    go_wp2_with (go_at_call 32; refine (grow_any (n + n') _ (by omega)).mono ?_; rintro e w1 ⟨v, rfl, ho, hb⟩; have HO := Lib.hid ho; have HB := Lib.hid hb; clear ho hb)
    have B1 := Lib.hid (box_below hc HB.out)
    go_loopw [6, 27] (fun s i wr => ∃ k : Nat, i = .int .i64 k ∧ k ≤ 2 ∧ Hid (V.Own 29 Ride.cod w.heap.size wr s (catTo xs ys k)) ∧ Hid (Below w.heap.size w wr)) (fun _ i _ => 2 - (intOf i).toNat)
    case atStart => exact ⟨0, rfl, by omega, HO.out, HB.out⟩
    case round =>
      obtain ⟨k, rfl, hk, ho, hb⟩ := hrel
      have hs := hb.out.size
      have B2 := Lib.hid (box_below hc hb.out)
      have c0 : wr.cell? ⟨b, 0, none⟩ = some (.slice a n cap) := (box_cell B2.out 0).1
      have c1 : wr.cell? ⟨b, 1, none⟩ = some (.slice a' n' cap') := (box_cell B2.out 1).1
      have HX := Lib.hid (h.below hb.out)
      have HY := Lib.hid (h'.below hb.out)
      by_cases h0 : k = 0
      · subst h0
        go_wp2_with (at_builtin; go_loud (refine wpList_app eltRide rfl (.tmp 31) (.tmp 32) rfl (base := w.heap.size) _ [] rfl ho.out _ n cap xs rfl HX.out (by unfold maxLen; simp; omega) (by simp; omega) hs ?_); intro v5 w5 hown5 hg5; have HO5 := Lib.hid hown5; have HB5 : Hid (Below w.heap.size w w5) := hb.out.grown hg5 hs (rown_lt ho.out); clear hown5 hg5)
        go_roundw
        case rel => exact ⟨1, by go_num, by omega, HO5.out, HB5.out⟩
        case measure => simp [intOf]
      by_cases h1 : k = 1
      · subst h1
        go_wp2_with (at_builtin; go_loud (refine wpList_app eltRide rfl (.tmp 31) (.tmp 32) rfl (base := w.heap.size) _ xs rfl ho.out _ n' cap' ys rfl HY.out (by have := HN.out; unfold maxLen; omega) (by have := HN.out; omega) hs ?_); intro v5 w5 hown5 hg5; have HO5 := Lib.hid hown5; have HB5 : Hid (Below w.heap.size w w5) := hb.out.grown hg5 hs (rown_lt ho.out); clear hown5 hg5)
        go_roundw
        case rel => exact ⟨2, by go_num, by omega, HO5.out, HB5.out⟩
        case measure => simp [intOf]
      have h2 : k = 2 := by omega
      subst h2
      go_wp2_with fail
      go_ret
      exact ⟨_, rfl, ho.out, hb.out⟩
end Go.Proofs.Ytgdhlhjflbinmaa
