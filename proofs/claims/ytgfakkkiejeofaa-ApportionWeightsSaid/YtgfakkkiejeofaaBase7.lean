/- Rows of rows at any place: each row is the call's own, or nil. -/
import Derived.Test.YtgfakkkiejeofaaBase6
namespace Go.V
open Go.RowKit

structure Tbl {α : Type} (e : TypeId) (c : Cod α) (t : TypeId) (base : Nat) (w : World) (b : Nat) (vs : List Value) (f : Nat → List α) : Prop where
  box : w.heap[b]? = some (.cells vs.toArray t (0, 0))
  own : ∀ i v, vs[i]? = some v → Own e c base w v (f i)
  apart : ∀ (i j : Nat) (u v : Value), vs[i]? = some u → vs[j]? = some v → i ≠ j → u.ownBlock = none ∨ u.ownBlock ≠ v.ownBlock
  ge : base ≤ b

section
variable {α : Type} {e : TypeId} {c : Cod α} {t : TypeId} {base : Nat} {w : World} {b : Nat} {vs : List Value} {f : Nat → List α}
theorem Own.not_box {v : Value} {xs : List α} (h : Own e c base w v xs) {cs : Array Value} (hb : w.heap[b]? = some (.cells cs t (0, 0))) (ht : e ≠ t) : v.ownBlock ≠ some b := by
  obtain ⟨-, h2⟩ := h
  rcases h2 with ⟨rfl, -⟩ | ⟨b', cap, cur, rfl, -, h4, -⟩
  · simp [Value.ownBlock]
  · intro q
    simp [Value.ownBlock] at q
    subst q
    rw [h4] at hb
    simp at hb
    exact ht hb.2
theorem Tbl.below (h : Tbl e c t base w b vs f) {w' : World} (hb : Below w.heap.size w w') : Tbl e c t base w' b vs f :=
  ⟨(hb.block b (Array.getElem?_eq_some_iff.1 h.box).1).trans h.box, fun i v hv => (h.own i v hv).below hb, h.apart, h.ge⟩
theorem Tbl.new (w : World) (k : Nat) (hb : base ≤ w.heap.size) : Tbl (α := α) e c t base (w.alloc (.cells (List.replicate k (Value.slice none 0 0)).toArray t)) w.heap.size (List.replicate k (Value.slice none 0 0)) (fun _ => []) := by
  have h0 : ∀ (i : Nat) (v : Value), (List.replicate k (Value.slice none 0 0))[i]? = some v → v = Value.slice none 0 0 := by
    intro i v hv
    rw [List.getElem?_replicate] at hv
    split at hv
    · cases hv; rfl
    · cases hv
  refine ⟨?_, fun i v hv => ?_, fun i j u v hu _ _ => .inl ?_, hb⟩
  · unfold World.alloc; simp
  · rw [h0 i v hv]; exact Own.nil
  · rw [h0 i u hu]; rfl
theorem Tbl.cell (h : Tbl e c t base w b vs f) {i : Nat} {v : Value} (hi : vs[i]? = some v) : w.cell? ⟨b, i, none⟩ = some v ∧ w.frozen? ⟨b, i, none⟩ = false := by
  constructor
  · simp [World.cell?, h.box, hi]
  · simp [World.frozen?, h.box]
/-- A row is appended to, and put anew. -/
theorem Tbl.app (h : Tbl e c t base w b vs f) (ht : e ≠ t) {i : Nat} {v v' : Value} (hi : vs[i]? = some v) {w1 : World} {xs : List α} (ho : Own e c base w1 v' xs) (hg : w.grownBy w1 v.ownBlock) (hat : v'.ownBlock = v.ownBlock ∨ v'.ownBlock = some w.heap.size) :
    Tbl e c t base (w1.setCell ⟨b, i, none⟩ v') b (vs.set i v') (fun j => if j = i then xs else f j) ∧ (base ≤ w.heap.size → Below base w (w1.setCell ⟨b, i, none⟩ v')) ∧ w1.cell? ⟨b, i, none⟩ = some v ∧ w1.frozen? ⟨b, i, none⟩ = false ∧ b < w1.heap.size := by
  have hvb : v.ownBlock ≠ some b := (h.own i v hi).not_box h.box ht
  have hblt := (Array.getElem?_eq_some_iff.1 h.box).1
  have hbx : w1.heap[b]? = some (.cells vs.toArray t (0, 0)) := (hg.block b hblt (fun q => hvb q.symm)).trans h.box
  have hvb' : v'.ownBlock ≠ some b := ho.not_box hbx ht
  have hgs : w1.grownBy (w1.setCell ⟨b, i, none⟩ v') (some b) := ⟨rfl, rfl, rfl, by simp, fun k _ hk => heap_setCell_other _ ⟨b, i, none⟩ k _ (fun q => hk (by simp [q]))⟩
  have hil : i < vs.length := (List.getElem?_eq_some_iff.1 hi).1
  have hcell : w1.cell? ⟨b, i, none⟩ = some v := by simp [World.cell?, hbx, hi]
  have hb2 := heap_setCell_same w1 b i _ _ v' hbx
  refine ⟨⟨?_, fun j u hu => ?_, fun j k u u' hu hu' hjk => ?_, h.ge⟩, fun hbase => ?_, hcell, by simp [World.frozen?, hbx], Nat.lt_of_lt_of_le hblt hg.size⟩
  · rw [hb2]; simp
  · rw [List.getElem?_set] at hu
    split at hu
    · next q =>
      subst q
      try rw [if_pos hil] at hu
      cases hu
      show Own e c base _ v' (if i = i then xs else f i)
      rw [if_pos rfl]
      exact ho.kept hgs (.inr hvb')
    · next q =>
      show Own e c base _ u (if j = i then xs else f j)
      rw [if_neg (fun q' => q q'.symm)]
      have ho' := h.own j u hu
      have hap := h.apart j i u v hu hi (fun q' => q q'.symm)
      exact (ho'.kept hg hap).kept hgs (.inr (fun q' => (ho'.not_box h.box ht) q'))
  · have key : ∀ m u1, vs[m]? = some u1 → m ≠ i → u1.ownBlock = none ∨ u1.ownBlock ≠ v'.ownBlock := by
      intro m u1 hm hmi
      rcases h.apart m i u1 v hm hi hmi with q | q
      · exact .inl q
      · rcases hat with a | a
        · rw [a]; exact .inr q
        · rw [a]
          refine .inr fun q2 => ?_
          have := (World.ownsRow.lt (h.own m u1 hm) _ q2).2
          omega
    rw [List.getElem?_set] at hu hu'
    split at hu
    · next q =>
      subst q
      try rw [if_pos hil] at hu
      cases hu
      rw [if_neg hjk] at hu'
      rcases key k u' hu' (fun q => hjk q.symm) with q | q
      · cases hn : v'.ownBlock with
        | none => exact .inl rfl
        | some z => exact .inr (by rw [q]; simp)
      · exact .inr (fun q2 => q q2.symm)
    · next q =>
      split at hu'
      · next q2 =>
        subst q2
        try rw [if_pos hil] at hu'
        cases hu'
        exact key j u hu (fun q3 => q q3.symm)
      · exact h.apart j k u u' hu hu' hjk
  · have h1 : Below base w w1 := ⟨hg.os, hg.tape, hg.output, hg.size, fun k hk => hg.block k (by omega) (fun q => by
      have := (World.ownsRow.lt (h.own i v hi) k q.symm).1
      omega)⟩
    exact h1.trans ⟨hgs.os, hgs.tape, hgs.output, hgs.size, fun k hk => hgs.block k (by have := hg.size; omega) (fun q => by
      have := Option.some.inj q
      have := h.ge
      omega)⟩
/-- What it reads as. -/
theorem Tbl.row (h : Tbl e c t base w b vs f) {i : Nat} (hi : i < vs.length) : ∃ a cap, vs[i]? = some (.slice a (f i).length cap) ∧ w.cell? ⟨b, i, none⟩ = some (.slice a (f i).length cap) ∧ Sl c w a (f i).length cap (f i) := by
  have hv := List.getElem?_eq_getElem hi
  obtain ⟨a, cap, e1, e2, -⟩ := (h.own i _ hv).slice
  have hc := (h.cell hv).1
  rw [e1] at hv hc
  exact ⟨a, cap, hv, hc, e2⟩
end
end Go.V
