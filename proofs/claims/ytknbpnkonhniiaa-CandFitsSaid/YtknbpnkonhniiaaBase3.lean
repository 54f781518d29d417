/- Slices of slices that a call made itself. -/
import Derived.Test.YtknbpnkonhniiaaBase2
namespace Go.V
open Go.RowKit

def Hdr.blk (h : Hdr) : Nat := match h.a with
  | some d => d.block
  | none => 0

theorem own_ne {α : Type} {e : TypeId} {c : Cod α} {base : Nat} {w : World} {v : Value} {xs : List α} (h : Own e c base w v xs) (hx : xs ≠ []) : ∃ g cap cur, v = .slice (some ⟨g, 0, none⟩) xs.length cap ∧ base ≤ g ∧ w.heap[g]? = some (.cells cur e (0, 0)) := by
  obtain ⟨h1, h2⟩ := h
  rcases h2 with ⟨_, hn⟩ | ⟨g, cap, cur, h2, h3, h4, _⟩
  · exact absurd (List.eq_nil_of_length_eq_zero hn) hx
  · exact ⟨g, cap, cur, h2, h3, h4⟩
theorem own_blk {α : Type} {e : TypeId} {c : Cod α} {base : Nat} {w : World} {h : Hdr} {xs : List α} (ho : Own e c base w h.val xs) (hx : xs ≠ []) : h.val.ownBlock = some h.blk ∧ h.blk < w.heap.size ∧ base ≤ h.blk ∧ ∃ cur, w.heap[h.blk]? = some (.cells cur e (0, 0)) := by
  obtain ⟨g, cap, cur, h1, h2, h3⟩ := own_ne ho hx
  obtain ⟨a, n, cp⟩ := h
  simp only [Hdr.val, Value.slice.injEq] at h1
  obtain ⟨rfl, -, -⟩ := h1
  exact ⟨rfl, (Array.getElem?_eq_some_iff.1 h3).1, h2, cur, h3⟩
/-- Rows of different element types are different rows. -/
theorem own_apart {α β : Type} {e e' : TypeId} {c : Cod α} {c' : Cod β} {base base' : Nat} {w : World} {v v' : Value} {xs : List α} {ys : List β} (hne : e ≠ e') (h : Own e c base w v xs) (h' : Own e' c' base' w v' ys) : v.ownBlock = none ∨ v.ownBlock ≠ v'.ownBlock := by
  obtain ⟨_, h2⟩ := h
  obtain ⟨_, h2'⟩ := h'
  rcases h2 with ⟨rfl, _⟩ | ⟨g, cap, cur, rfl, _, h4, _⟩
  · exact .inl rfl
  · rcases h2' with ⟨rfl, _⟩ | ⟨g', cap', cur', rfl, _, h4', _⟩
    · exact .inr (by simp [Value.ownBlock])
    · refine .inr (fun hh => ?_)
      simp [Value.ownBlock] at hh
      subst hh
      rw [h4] at h4'
      simp at h4'
      exact hne h4'.2

structure OwnG {α : Type} (e1 e2 : TypeId) (c : Cod α) (base : Nat) (w : World) (v : Value) (hs : List Hdr) (gs : List (List α)) : Prop where
  own : Own e2 Hdr.cod base w v hs
  len : hs.length = gs.length
  each : ∀ (i : Nat) (h : Hdr) (g : List α), hs[i]? = some h → gs[i]? = some g → Own e1 c base w h.val g ∧ g ≠ []
  inc : ∀ (i j : Nat) (h h' : Hdr), i < j → hs[i]? = some h → hs[j]? = some h' → h.blk < h'.blk

section
variable {α : Type} {e1 e2 : TypeId} {c : Cod α} {base : Nat} {w : World} {v : Value} {hs : List Hdr} {gs : List (List α)}
theorem OwnG.nil : OwnG e1 e2 c base w (.slice none 0 0) [] [] :=
  ⟨Own.nil, rfl, (fun i h g h1 => by simp at h1), (fun i j h h' _ h1 => by simp at h1)⟩
theorem OwnG.below (h : OwnG e1 e2 c base w v hs gs) {w' : World} (hb : Below w.heap.size w w') : OwnG e1 e2 c base w' v hs gs :=
  ⟨h.own.below hb, h.len, fun i hh g h1 h2 => ⟨(h.each i hh g h1 h2).1.below hb, (h.each i hh g h1 h2).2⟩, h.inc⟩
theorem OwnG.get (h : OwnG e1 e2 c base w v hs gs) {i : Nat} {hh : Hdr} (hi : hs[i]? = some hh) : ∃ g, gs[i]? = some g ∧ Own e1 c base w hh.val g ∧ g ≠ [] := by
  have : i < gs.length := by rw [← h.len]; exact (List.getElem?_eq_some_iff.1 hi).1
  exact ⟨gs[i], List.getElem?_eq_getElem this, h.each i hh _ hi (List.getElem?_eq_getElem this)⟩
theorem OwnG.lt (h : OwnG e1 e2 c base w v hs gs) : ∀ hh ∈ hs, hh.blk < w.heap.size := by
  intro hh hm
  obtain ⟨i, hi⟩ := List.mem_iff_getElem?.1 hm
  obtain ⟨g, -, ho, hne⟩ := h.get hi
  exact (own_blk ho hne).2.1
theorem OwnG.sls (h : OwnG e1 e2 c base w v hs gs) : ∃ a cap, v = .slice a gs.length cap ∧ Sls c w a gs.length cap hs gs := by
  obtain ⟨a, cap, h1, h2, -⟩ := h.own.slice
  rw [h.len] at h1 h2
  refine ⟨a, cap, h1, h2, h.len, fun i hh g g1 g2 => ?_⟩
  obtain ⟨a', cap', e', hs', -⟩ := (h.each i hh g g1 g2).1.slice
  obtain ⟨x, y, z⟩ := hh
  simp only [Hdr.val, Value.slice.injEq] at e'
  obtain ⟨rfl, rfl, rfl⟩ := e'
  exact hs'
/-- One more, behind all. -/
theorem OwnG.push (hne : e1 ≠ e2) (h : OwnG e1 e2 c base w v hs gs) {w' : World} {v' : Value} {hh : Hdr} {g : List α} (ho : Own e1 c base w hh.val g) (hg : g ≠ []) (hl : ∀ x ∈ hs, x.blk < hh.blk) (hv : Own e2 Hdr.cod base w' v' (hs ++ [hh])) (hgr : w.grownBy w' v.ownBlock) :
    OwnG e1 e2 c base w' v' (hs ++ [hh]) (gs ++ [g]) := by
  refine ⟨hv, by simp [h.len], fun i x y h1 h2 => ?_, fun i j x x' hij h1 h2 => ?_⟩
  · by_cases hi : i < hs.length
    · rw [List.getElem?_append_left hi] at h1
      rw [List.getElem?_append_left (by rw [← h.len]; exact hi)] at h2
      obtain ⟨k1, k2⟩ := h.each i x y h1 h2
      exact ⟨k1.kept hgr (own_apart hne k1 h.own), k2⟩
    · rw [List.getElem?_append_right (by omega)] at h1
      rw [List.getElem?_append_right (by rw [← h.len]; omega), ← h.len] at h2
      have : i - hs.length = 0 := by have := (List.getElem?_eq_some_iff.1 h1).1; simp at this; omega
      rw [this] at h1 h2
      simp at h1 h2
      subst h1; subst h2
      exact ⟨ho.kept hgr (own_apart hne ho h.own), hg⟩
  · by_cases hj : j < hs.length
    · rw [List.getElem?_append_left hj] at h2
      rw [List.getElem?_append_left (by omega)] at h1
      exact h.inc i j x x' hij h1 h2
    · rw [List.getElem?_append_right (by omega)] at h2
      have : j - hs.length = 0 := by have := (List.getElem?_eq_some_iff.1 h2).1; simp at this; omega
      rw [this] at h2
      simp at h2
      subst h2
      rw [List.getElem?_append_left (by omega)] at h1
      exact hl x (List.mem_of_getElem? h1)
theorem OwnG.lower (h : OwnG e1 e2 c base w v hs gs) {base' : Nat} (hb : base' ≤ base) : OwnG e1 e2 c base' w v hs gs :=
  ⟨h.own.lower hb, h.len, fun i hh g h1 h2 => ⟨(h.each i hh g h1 h2).1.lower hb, (h.each i hh g h1 h2).2⟩, h.inc⟩
/-- A row of the inner type that is none of them is written to. -/
theorem OwnG.kept (h : OwnG e1 e2 c base w v hs gs) {w' : World} {row : Option Nat} (hg : w.grownBy w' row) (hv : v.ownBlock = none ∨ v.ownBlock ≠ row) (hr : ∀ x ∈ hs, row ≠ some x.blk) : OwnG e1 e2 c base w' v hs gs :=
  ⟨h.own.kept hg hv, h.len, fun i hh g h1 h2 => by
    obtain ⟨k1, k2⟩ := h.each i hh g h1 h2
    exact ⟨k1.kept hg (.inr (by rw [(own_blk k1 k2).1]; exact (hr hh (List.mem_of_getElem? h1)).symm)), k2⟩, h.inc⟩
end
end Go.V
