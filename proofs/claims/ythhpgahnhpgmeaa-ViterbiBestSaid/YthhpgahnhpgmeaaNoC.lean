/- Costs: the square of a stop's point, walked, both sides. -/
import Derived.Test.YthhpgahnhpgmeaaNoB
namespace Go.V
open Go.RowKit

/-- What a slice reads as that may be empty at any address. -/
structure SlQ {α : Type} (c : Cod α) (w : World) (a : Option Addr) (n cap : Nat) (xs : List α) : Prop where
  hlen : n = xs.length
  hcap : n ≤ cap
  hmax : cap ≤ maxLen
  hat : 0 < n → Sl c w a n cap xs
theorem SlQ.below {α : Type} {c : Cod α} {w w' : World} {a : Option Addr} {n cap : Nat} {xs : List α} (h : SlQ c w a n cap xs) (hb : Below w.heap.size w w') : SlQ c w' a n cap xs := ⟨h.hlen, h.hcap, h.hmax, fun hn => (h.hat hn).below hb⟩
theorem Sl.q {α : Type} {c : Cod α} {w : World} {a : Option Addr} {n cap : Nat} {xs : List α} (h : Sl c w a n cap xs) : SlQ c w a n cap xs := ⟨h.hlen, h.hcap, h.hmax, fun _ => h⟩
end Go.V
namespace Go.Proofs.Ythhpgahnhpgmeaa.Ne
open Go.RowKit Go.V Go.Proofs Go.Sort Go.Maps

structure Pnt where
  stop : Int
  sq : Int
def pcod : Cod Pnt := ⟨2, fun p => [.int .i64 p.stop, .int .i64 p.sq], fun _ => rfl, by simp [Value.oneCell']⟩
abbrev Pnt.val (p : Pnt) : Value := .agg #[.int .i64 p.stop, .int .i64 p.sq]
theorem pnt_at {w : World} {a : Option Addr} {n cap : Nat} {l : List Pnt} (h : SlQ pcod w a n cap l) {i : Nat} (hi : i < n) :
   ∃ b off r, a = some ⟨b, off, none⟩ ∧ b < w.heap.size ∧ l[i]? = some r ∧ w.cell? ⟨b, off + i * 2, none⟩ = some (.int .i64 r.stop) ∧ w.cell? ⟨b, off + i * 2 + 1, none⟩ = some (.int .i64 r.sq) := by
  obtain ⟨b, off, rfl, hb, r, hr, hc⟩ := (h.hat (by omega)).some hi
  exact ⟨b, off, r, rfl, hb, hr, hc 0 _ rfl, hc 1 _ rfl⟩
/-- A stop's point's square. -/
def sqE : List Pnt → Int → Int × Bool
  | [], _ => (0, false)
  | p :: l, s => if p.stop = s then (p.sq, true) else sqE l s
theorem sqE_drop {l : List Pnt} {s : Int} {k : Nat} (h : ∀ j p, j < k → l[j]? = some p → p.stop ≠ s) : sqE l s = sqE (l.drop k) s := by
  induction k generalizing l with
  | zero => rfl
  | succ k ih =>
    cases l with
    | nil => rfl
    | cons p l =>
      have h0 := h 0 p (by omega) rfl
      show (if p.stop = s then (p.sq, true) else sqE l s) = sqE (l.drop k) s
      rw [if_neg h0]
      exact ih (fun j q hj hq => h (j + 1) q (by omega) (by simpa using hq))
theorem sqE_found {l : List Pnt} {s : Int} {k : Nat} {p : Pnt} (h : ∀ j p, j < k → l[j]? = some p → p.stop ≠ s) (hp : l[k]? = some p) (hs : p.stop = s) : sqE l s = (p.sq, true) := by
  rw [sqE_drop h, List.drop_eq_getElem?_toList_append, hp]
  simp [sqE, hs]
theorem sqE_none {l : List Pnt} {s : Int} (h : ∀ j p, j < l.length → l[j]? = some p → p.stop ≠ s) : sqE l s = (0, false) := by
  rw [sqE_drop h, List.drop_length]; rfl
theorem ne_next {l : List Pnt} {s : Int} {k : Nat} {p : Pnt} (h : ∀ j p, j < k → l[j]? = some p → p.stop ≠ s) (hp : l[k]? = some p) (hs : p.stop ≠ s) : ∀ j p, j < k + 1 → l[j]? = some p → p.stop ≠ s := by
  intro j q hj hq
  by_cases e : j = k
  · subst e; rw [hp] at hq; cases hq; exact hs
  · exact h j q (by omega) hq

set_option maxHeartbeats 400000 in
theorem csq1_any (p : Pnt) (s : Int) (g : Nat) (w : World) (hg : w.cell? ⟨g, 0, none⟩ = some (.int .i64 s)) : Calls Try.prog 109 #[p.val, .pointer (some ⟨g, 0, none⟩)] w fun e w' => e = .returned (.bool (decide (p.stop = s))) ∧ Below w.heap.size w w' := by
  obtain ⟨ps, pq⟩ := p
  have hgl := World.block_lt_of_cell? w _ hg
  have hgl : g < w.heap.size := hgl
  by_cases h : ps = s
  · go_enter Try.func109, Try.ntmps109
    go_wp2
    go_ret
    exact ⟨ret_bool (by simp), (Below.refl _ _).alloc (Nat.le_refl _) _⟩
  · have h' : (ps == s) = false := by simpa using h
    go_enter Try.func109, Try.ntmps109
    go_wp2
    go_ret
    exact ⟨ret_bool (by simp), (Below.refl _ _).alloc (Nat.le_refl _) _⟩

set_option maxHeartbeats 1000000 in
theorem pindex_any (a : Option Addr) (n cap : Nat) (l : List Pnt) (s : Int) (g : Nat) (w : World) (h : SlQ pcod w a n cap l) (hg : w.cell? ⟨g, 0, none⟩ = some (.int .i64 s)) :
    Calls Try.prog 108 #[.slice a n cap, .func (.func 109) #[] #[.pointer (some ⟨g, 0, none⟩)]] w fun e w' => Below w.heap.size w w' ∧ ((e = .returned (.int .i64 (-1)) ∧ sqE l s = (0, false)) ∨ ∃ (i : Nat) (p : Pnt), e = .returned (.int .i64 i) ∧ i < n ∧ l[i]? = some p ∧ sqE l s = (p.sq, true)) := by
  have hn : n ≤ 9223372036854775807 := by have := h.hcap; have := h.hmax; unfold maxLen at this; omega
  have hgl : g < w.heap.size := World.block_lt_of_cell? w _ hg
  have HG := Lib.hid hg
  have HH := Lib.hid h
  clear hg h
  go_enter Try.func108, Try.ntmps108
  go_wp2_with fail
  go_loopw [8] (fun i wr => ∃ k : Nat, i = .int .i64 k ∧ k ≤ n ∧ Hid (∀ j p, j < k → l[j]? = some p → p.stop ≠ s) ∧ Hid (Below w.heap.size w wr)) (fun i _ => n - (intOf i).toNat)
  case atStart => exact ⟨0, rfl, by omega, fun j p hj => absurd hj (by omega), Below.refl _ _⟩
  case round =>
    obtain ⟨k, rfl, hk, hall, hB⟩ := hrel
    by_cases hlt : k < n
    · obtain ⟨b, off, r, rfl, hbl, hr, c0, c1⟩ := pnt_at (HH.out.below hB.out) hlt
      have HR := Lib.hid hr
      have HGr : Hid (wr.cell? ⟨g, 0, none⟩ = some (.int .i64 s)) := ((bcell hB.out).1 g 0 hgl).trans HG.out
      obtain ⟨bb, hbb⟩ : ∃ bb, decide (r.stop = s) = bb := ⟨_, rfl⟩
      have HBB := Lib.hid hbb
      clear hr hbb
      have e0 : (Value.agg #[.int .i64 r.stop, .int .i64 r.sq]) = r.val := rfl
      cases bb with
      | false =>
        go_wp2_with (go_at_call 109; refine (csq1_any r s g _ HGr.out).mono ?_; rintro e w1 ⟨rfl, hb1⟩; rw [HBB.out]; have HB1 := Lib.hid (hB.out.trans (hb1.mono hB.out.size)); clear hb1)
        go_roundw
        case rel => exact ⟨k + 1, by go_num, by omega, ne_next hall.out HR.out (of_decide_eq_false HBB.out), HB1.out⟩
        case measure => simp [intOf]; omega
      | true =>
        go_wp2_with (go_at_call 109; refine (csq1_any r s g _ HGr.out).mono ?_; rintro e w1 ⟨rfl, hb1⟩; rw [HBB.out]; have HB1 := Lib.hid (hB.out.trans (hb1.mono hB.out.size)); clear hb1)
        go_ret
        exact ⟨HB1.out, .inr ⟨k, r, rfl, hlt, HR.out, sqE_found hall.out HR.out (of_decide_eq_true HBB.out)⟩⟩
    · have hk' : n = k := by omega
      subst hk'
      go_wp2_with fail
      go_ret
      exact ⟨hB.out, .inl ⟨rfl, sqE_none (by have e : n = l.length := HH.out.hlen; rw [← e]; exact hall.out)⟩⟩

set_option maxHeartbeats 1000000 in
theorem csquare_any (a : Option Addr) (n cap : Nat) (l : List Pnt) (s : Int) (w : World) (h : SlQ pcod w a n cap l) :
    Calls Try.prog 99 #[.slice a n cap, .int .i64 s] w fun e w' => e = .returned (.tuple #[.int .i64 (sqE l s).1, .bool (sqE l s).2]) ∧ Below w.heap.size w w' := by
  have hn : n ≤ 9223372036854775807 := by have := h.hcap; have := h.hmax; unfold maxLen at this; omega
  have HX := Lib.hid (box_new w (.cells #[.int .i64 s] 3))
  have HB0 : Hid (Below w.heap.size w (w.alloc (.cells #[.int .i64 s] 3))) := (Below.refl _ _).alloc (Nat.le_refl _) _
  have HH := Lib.hid h
  obtain ⟨W, hW⟩ : ∃ W, w.alloc (.cells #[.int .i64 s] 3) = W := ⟨_, rfl⟩
  rw [hW] at HX HB0
  have HC : Hid (W.cell? ⟨w.heap.size, 0, none⟩ = some (.int .i64 s)) := (box_cell HX.out 0).1
  clear h
  go_enter Try.func99, Try.ntmps99
  go_upto_region 2 with (go_at_call 108; go_loud (refine (pindex_any a n cap l s w.heap.size _ (HH.out.below HB0.out) HC.out).mono ?_); rintro e w1 ⟨hb1, hr⟩; have HB1 := Lib.hid (HB0.out.trans (hb1.mono HB0.out.size)); obtain ⟨i, rfl, hi⟩ : ∃ i : Int, e = .returned (.int .i64 i) ∧ ((i = -1 ∧ sqE l s = (0, false)) ∨ ∃ (j : Nat) (p : Pnt), i = j ∧ j < n ∧ l[j]? = some p ∧ sqE l s = (p.sq, true)) := (by
    rcases hr with ⟨rfl, h2⟩ | ⟨j, p, rfl, h2⟩
    · exact ⟨-1, rfl, .inl ⟨rfl, h2⟩⟩
    · exact ⟨j, rfl, .inr ⟨j, p, rfl, h2⟩⟩); have HI := Lib.hid hi; clear hb1 hr hi)
  rcases HI.out with ⟨rfl, h2⟩ | ⟨j, p, rfl, h2, h3, h4⟩
  · have HE := Lib.hid h2
    clear h2
    go_wp2_with fail
    go_ret2
    rw [HE.out]
    exact ⟨rfl, HB1.out⟩
  · obtain ⟨b, off, r, rfl, hbl, hr, c0, c1⟩ := pnt_at (HH.out.below HB1.out) h2
    rw [h3] at hr
    cases hr
    have dj : decide ((j : Int) < 0) = false := by simp
    have HE := Lib.hid h4
    clear h3 h4
    go_wp2_with fail
    go_ret2
    rw [HE.out]
    exact ⟨rfl, HB1.out⟩

set_option maxHeartbeats 1000000 in
theorem rsquare_any (a : Option Addr) (n cap : Nat) (l : List Pnt) (s : Int) (w : World) (h : SlQ pcod w a n cap l) :
    Calls Try.prog 84 #[.slice a n cap, .int .i64 s] w fun e w' => e = .returned (.tuple #[.int .i64 (sqE l s).1, .bool (sqE l s).2]) ∧ w = w' := by
  have hn : n ≤ 9223372036854775807 := by have := h.hcap; have := h.hmax; unfold maxLen at this; omega
  have HH := Lib.hid h
  clear h
  go_enter Try.func84, Try.ntmps84
  go_wp2_with fail
  go_loop [6] (fun i => ∃ k : Nat, i = .int .i64 k ∧ k ≤ n ∧ Hid (∀ j p, j < k → l[j]? = some p → p.stop ≠ s)) (fun i => n - (intOf i).toNat)
  case atStart => exact ⟨0, by go_num, by omega, fun j p hj => absurd hj (by omega)⟩
  case round =>
    obtain ⟨k, rfl, hk, hall⟩ := hrel
    by_cases hlt : k < n
    · obtain ⟨b, off, r, rfl, hbl, hr, c0, c1⟩ := pnt_at HH.out hlt
      have HR := Lib.hid hr
      clear hr
      by_cases hs : r.stop = s
      · have HE := Lib.hid (sqE_found hall.out HR.out hs)
        go_wp2_with fail
        go_ret2
        rw [HE.out]
        exact ⟨rfl, rfl⟩
      · have hs' : (r.stop == s) = false := by simpa using hs
        go_wp2_with fail
        go_round
        case rel => exact ⟨k + 1, by go_num, by omega, ne_next hall.out HR.out hs⟩
        case measure => simp [intOf]; omega
    · have hk' : n = k := by omega
      subst hk'
      have HE := Lib.hid (sqE_none (l := l) (s := s) (by have e : n = l.length := HH.out.hlen; rw [← e]; exact hall.out))
      go_wp2_with fail
      go_ret2
      rw [HE.out]
      exact ⟨rfl, rfl⟩
end Go.Proofs.Ythhpgahnhpgmeaa.Ne
