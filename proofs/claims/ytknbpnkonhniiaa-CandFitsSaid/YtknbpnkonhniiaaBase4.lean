/- Rows of rows: the last one is put anew. -/
import Derived.Test.YtknbpnkonhniiaaBase3
namespace Go.V
open Go.RowKit

theorem own_new {α : Type} {c : Cod α} (w : World) (cs : Array Value) (e : TypeId) (base : Nat) (xs : List α) (n : Nat) (hn : n = xs.length) (hb : base ≤ w.heap.size) (hm : n ≤ maxLen) (hc : cs.toList = xs.flatMap c.enc) :
    Own e c base (w.alloc (.cells cs e)) (.slice (some ⟨w.heap.size, 0, none⟩) n n) xs := by
  unfold Own
  rw [← hn, ← hc]
  exact World.ownsRow_lit w cs n hb hm (by rw [← Array.length_toList, hc, flat_len, hn])

theorem own_at {α : Type} {e : TypeId} {c : Cod α} {base : Nat} {w : World} {h : Hdr} {xs : List α} (ho : Own e c base w h.val xs) (hx : xs ≠ []) : Own e c h.blk w h.val xs := by
  obtain ⟨g, cap, cur, h1, h2, h3⟩ := own_ne ho hx
  obtain ⟨k1, k2⟩ := ho
  refine ⟨k1, ?_⟩
  rcases k2 with ⟨k2, _⟩ | ⟨g', cap', cur', k2, k3, k4⟩
  · rw [h1] at k2; cases k2
  · refine .inr ⟨g', cap', cur', k2, ?_, k4⟩
    obtain ⟨a, n, cp⟩ := h
    simp only [Hdr.val, Value.slice.injEq] at k2
    obtain ⟨rfl, -, -⟩ := k2
    exact Nat.le_refl _

theorem hdr_flat (hs : List Hdr) : hs.flatMap Hdr.cod.enc = hs.map Hdr.val := by
  induction hs with
  | nil => rfl
  | cons h hs ih => rw [List.flatMap_cons, ih]; rfl

section
variable {α : Type} {e1 e2 : TypeId} {c : Cod α} {base : Nat} {w : World} {v : Value} {hs : List Hdr} {gs : List (List α)}
theorem OwnG.replace (hne : e1 ≠ e2) {go n cap : Nat} (h : OwnG e1 e2 c base w (.slice (some ⟨go, 0, none⟩) n cap) hs gs) {G : Nat} {hh hh' : Hdr} {g' : List α} (hn : n = hs.length) (hi : hs[G]? = some hh) (hlast : hs.length = G + 1) {w2 : World} (hg1 : w.grownBy w2 hh.val.ownBlock) (ho : Own e1 c hh.blk w2 hh'.val g') (hg' : g' ≠ []) :
    OwnG e1 e2 c base (w2.setCell ⟨go, G, none⟩ hh'.val) (.slice (some ⟨go, 0, none⟩) n cap) (hs.set G hh') (gs.set G g') ∧ w2.grownBy (w2.setCell ⟨go, G, none⟩ hh'.val) (some go) := by
  obtain ⟨g, hgi, hown, hgne⟩ := h.get hi
  obtain ⟨b1, b2, b3, -⟩ := own_blk hown hgne
  obtain ⟨d1, d2, d3, -⟩ := own_blk ho hg'
  have hout : Own e2 Hdr.cod base w2 (.slice (some ⟨go, 0, none⟩) n cap) hs := h.own.kept hg1 (own_apart (fun e => hne e.symm) h.own hown)
  have hrow : w2.ownsRow base e2 1 (.slice (some ⟨go, 0, none⟩) n cap) n (hs.map Hdr.val) := by
    have := hout; unfold Own at this; rw [hdr_flat, ← hn] at this; exact this
  obtain ⟨s1, s2⟩ := hrow.stored G hh'.val
  refine ⟨⟨?_, by simp [h.len], fun i x y h1 h2 => ?_, fun i j x x' hij h1 h2 => ?_⟩, s2⟩
  · unfold Own
    rw [hdr_flat, List.map_set, List.length_set, ← hn]; exact s1
  · have hsep : ∀ {bb : Nat} {z : Hdr} {zs : List α}, Own e1 c bb w2 z.val zs → z.val.ownBlock = none ∨ z.val.ownBlock ≠ some go := fun hz => own_apart hne hz hout
    by_cases e : i = G
    · subst e
      rw [List.getElem?_set_self (by omega)] at h1
      rw [List.getElem?_set_self (by rw [← h.len]; omega)] at h2
      cases h1; cases h2
      exact ⟨(ho.lower b3).kept s2 (hsep ho), hg'⟩
    · rw [List.getElem?_set_ne (fun e' => e e'.symm)] at h1 h2
      obtain ⟨k1, k2⟩ := h.each i x y h1 h2
      have hlt : i < G := by have := (List.getElem?_eq_some_iff.1 h1).1; omega
      have k3 : Own e1 c base w2 x.val y := k1.kept hg1 (.inr (by
        rw [(own_blk k1 k2).1, b1]
        have := h.inc i G x hh hlt h1 hi
        intro e'; have := Option.some.inj e'; omega))
      exact ⟨k3.kept s2 (hsep k3), k2⟩
  · have hj : j < hs.length := by have := (List.getElem?_eq_some_iff.1 h2).1; simpa using this
    rw [List.getElem?_set_ne (by omega)] at h1
    by_cases e : j = G
    · subst e
      rw [List.getElem?_set_self hj] at h2
      cases h2
      have := h.inc i j x hh hij h1 hi
      omega
    · rw [List.getElem?_set_ne (fun e' => e e'.symm)] at h2
      exact h.inc i j x x' hij h1 h2
theorem OwnG.cell {go n cap : Nat} (h : OwnG e1 e2 c base w (.slice (some ⟨go, 0, none⟩) n cap) hs gs) (hn : n = hs.length) {G : Nat} {hh : Hdr} (hi : hs[G]? = some hh) : w.cell? ⟨go, G, none⟩ = some hh.val ∧ w.frozen? ⟨go, G, none⟩ = false := by
  have hrow : w.ownsRow base e2 1 (.slice (some ⟨go, 0, none⟩) n cap) n (hs.map Hdr.val) := by
    have := h.own; unfold Own at this; rw [hdr_flat, ← hn] at this; exact this
  refine ⟨?_, hrow.frozenAt G⟩
  rw [hrow.cellAt G (by rw [hn]; have := (List.getElem?_eq_some_iff.1 hi).1; omega), List.getElem?_map, hi]; rfl
theorem own_hdr {e : TypeId} {base : Nat} {w : World} {hs : List Hdr} {go n cap : Nat} (h : Own e Hdr.cod base w (.slice (some ⟨go, 0, none⟩) n cap) hs) (hn : n = hs.length) {G : Nat} {hh : Hdr} (hi : hs[G]? = some hh) : w.cell? ⟨go, G, none⟩ = some hh.val ∧ w.frozen? ⟨go, G, none⟩ = false := by
  have hrow : w.ownsRow base e 1 (.slice (some ⟨go, 0, none⟩) n cap) n (hs.map Hdr.val) := by
    have := h; unfold Own at this; rw [hdr_flat, ← hn] at this; exact this
  refine ⟨?_, hrow.frozenAt G⟩
  rw [hrow.cellAt G (by rw [hn]; have := (List.getElem?_eq_some_iff.1 hi).1; omega), List.getElem?_map, hi]; rfl
end
end Go.V
