/- A whole array is loaded, or stored, inside a fence. -/
import Derived.Test.YthhpgahnhpgmeaaRange
import Derived.Deep.MidRow
namespace Go.V
open Go.RowKit Go

theorem wpListIn_load_mid {F : Fence} {n : Nat} {P : Program} {ops : Array Oper} {rest : List Oper} {op : Oper} {a : Act} {w : World} {Q : Exit → Act → World → Prop} (hgd : op.guard = none) (ty : TypeId) (x : Operand) (ho : op.op = .load ty x)
    (b o : Nat) (hx : a.eval x = .pointer (some ⟨b, o, none⟩)) (cs : List Value) (d : TypeDesc) (hc : w.rangeAt b o cs)
    (hu : P.underlying ty = some d) (hd : d.isRow = true) (hi : (P.info? ty).map (·.size) = some cs.length)
    (h : wpListIn F n P ops Q rest (a.put op.dst (.agg cs.toArray)) w) : wpListIn F n P ops Q (op :: rest) a w := by
  refine wpListIn_plain hgd fun K hK' => ?_
  unfold Oper.wpIn
  refine ⟨?_, ?_⟩
  · simp [Oper.about, ho]
  · rw [Oper.semAt_plain F _ _ (by rw [ho]; intro c hc'; cases hc')]
    simp only [execOp, ho, hx, Instr.loadAt, Instr.sureAddr, Sem.run_bind, Sem.run_pure, Result.andThen_ok, run_loadVar_mid w b o ty cs d hc hu hd hi]
    exact hK' _ _ h
theorem wpListIn_store_mid {F : Fence} {n : Nat} {P : Program} {ops : Array Oper} {rest : List Oper} {op : Oper} {a : Act} {w : World} {Q : Exit → Act → World → Prop} (hgd : op.guard = none) (ty : TypeId) (x y : Operand) (ho : op.op = .store ty x y)
    (b o : Nat) (cells : Array Value) (hx : a.eval x = .pointer (some ⟨b, o, none⟩)) (hy : a.eval y = .agg cells)
    (ht : w.there b o cells.size) (hi : (P.info? ty).map (·.size) = some cells.size) (h1 : cells.all (·.oneCell') = true)
    (h : wpListIn F n P ops Q rest (a.put op.dst undef) (w.setCells b o cells.toList)) : wpListIn F n P ops Q (op :: rest) a w := by
  refine wpListIn_plain hgd fun K hK' => ?_
  unfold Oper.wpIn
  refine ⟨?_, ?_⟩
  · simp [Oper.about, ho]
  · rw [Oper.semAt_plain F _ _ (by rw [ho]; intro c hc'; cases hc')]
    simp only [execOp, ho, hx, hy, Instr.storeAt, Instr.sureAddr, Sem.run_bind, Sem.run_pure, Result.andThen_ok, run_storeVar_mid w b o ty cells ht hi h1]
    exact hK' _ _ h

/-- A block of one's own, put anew from its begin on. -/
theorem setCells_block {w : World} {b : Nat} {C : Array Value} {t : TypeId} (hb : w.heap[b]? = some (.cells C t (0, 0))) : ∀ (vs : List Value), vs.length = C.size → (w.setCells b 0 vs).heap[b]? = some (.cells vs.toArray t (0, 0)) := by
  have key : ∀ (vs : List Value) (o : Nat) (w : World) (C : Array Value), w.heap[b]? = some (.cells C t (0, 0)) → o + vs.length = C.size → ∃ D : Array Value, (w.setCells b o vs).heap[b]? = some (.cells D t (0, 0)) ∧ D.size = C.size ∧ (∀ j, j < o → D[j]? = C[j]?) ∧ ∀ j v, vs[j]? = some v → D[o + j]? = some v := by
    intro vs
    induction vs with
    | nil => intro o w C h hl; exact ⟨C, h, rfl, fun _ _ => rfl, fun j v hv => by simp at hv⟩
    | cons x vs ih =>
      intro o w C h hl
      have h1 : (w.setCell ⟨b, o, none⟩ x).heap[b]? = some (.cells (C.setIfInBounds o x) t (0, 0)) := heap_setCell_same w b o C t x h
      obtain ⟨D, d1, d2, d3, d4⟩ := ih (o + 1) _ _ h1 (by simp at hl ⊢; omega)
      refine ⟨D, d1, by rw [d2]; simp, fun j hj => ?_, fun j v hv => ?_⟩
      · rw [d3 j (by omega), Array.getElem?_setIfInBounds_ne (by omega)]
      · cases j with
        | zero =>
          simp at hv; subst hv
          rw [Nat.add_zero, d3 o (by omega), Array.getElem?_setIfInBounds_self_of_lt (by simp at hl; omega)]
        | succ j =>
          have := d4 j v (by simpa using hv)
          rw [show o + (j + 1) = o + 1 + j by omega]; exact this
  intro vs hl
  obtain ⟨D, d1, d2, -, d4⟩ := key vs 0 w C hb (by omega)
  rw [d1]
  congr 2
  apply Array.ext_getElem?
  intro j
  by_cases hj : j < vs.length
  · have := d4 j vs[j] (List.getElem?_eq_getElem hj)
    rw [Nat.zero_add] at this
    rw [this]; simp [hj]
  · rw [Array.getElem?_eq_none (by omega)]
    symm; rw [Array.getElem?_eq_none (by simp; omega)]
theorem setCells_other {b k : Nat} (h : k ≠ b) : ∀ (vs : List Value) (o : Nat) (w : World), (w.setCells b o vs).heap[k]? = w.heap[k]?
  | [], _, _ => rfl
  | x :: vs, o, w => (setCells_other h vs (o + 1) (w.setCell ⟨b, o, none⟩ x)).trans (heap_setCell_other w ⟨b, o, none⟩ k x h)
theorem setCells_rest (b : Nat) : ∀ (vs : List Value) (o : Nat) (w : World), (w.setCells b o vs).os = w.os ∧ (w.setCells b o vs).tape = w.tape ∧ (w.setCells b o vs).output = w.output ∧ (w.setCells b o vs).heap.size = w.heap.size
  | [], _, _ => ⟨rfl, rfl, rfl, rfl⟩
  | x :: vs, o, w => by
    have h := setCells_rest b vs (o + 1) (w.setCell ⟨b, o, none⟩ x)
    exact ⟨h.1, h.2.1, h.2.2.1, h.2.2.2.trans (by simp)⟩
end Go.V
