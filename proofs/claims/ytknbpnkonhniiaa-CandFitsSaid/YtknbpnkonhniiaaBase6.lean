/- An append to a row of the call's own, as a step of a region that draws; rows made shorter; what is kept beside. -/
import Derived.Test.YtknbpnkonhniiaaBase5
import Derived.Deep.RegionLaw
namespace Go.V
open Go.RowKit

theorem step_app_at {α : Type} {e : TypeId} {c : Cod α} {base : Nat} {w : World} {P : Program} {t : TypeId} {bytes : Nat} (E : Elt P t e c bytes) {ops : Array Oper} {o : Oper} {a : Act} {K : Act → World → Prop} {Q : Exit → Act → World → Prop} {Z : Prop} (hgd : o.guard = none) (s x : Operand)
    (ho : o.op = Op.call { callee := Callee.builtin Builtin.append, args := #[s, x], argTypes := #[t, t] }) (v : Value) (xs : List α) (hs : a.eval s = v) (hown : Own e c base w v xs)
    (d : Addr) (m cx : Nat) (ys : List α) (hx : a.eval x = .slice (some d) m cx) (hsl : Sl c w (some d) m cx ys) (hm : xs.length + m ≤ maxLen) (hb : (xs.length + m) * bytes ≤ 140737488355328) (hbase : base ≤ w.heap.size)
    (h : ∀ v' w', Own e c base w' v' (xs ++ ys) → w.grownBy w' v.ownBlock → (v'.ownBlock = v.ownBlock ∨ v'.ownBlock = some w.heap.size) → K (a.put o.dst v') w') :
    if Region.wanted o (yielded ops a.tmps) = true then Oper.wp P o a w K Q else Z := by
  have hw : Region.wanted o (yielded ops a.tmps) = true := by simp [Region.wanted, hgd]
  rw [if_pos hw]
  obtain ⟨i, z, h1, h2, h3, h4, h5⟩ := E.row
  obtain ⟨v', w', hrun, k1, k2, -, k3⟩ := run_append_own_at (P := P) w base t o.type e i z c.k bytes E.ht h1 h2 h3 h4 h5 E.pos v xs.length _ hown d m cx (ys.flatMap c.enc) (by rw [flat_len, hsl.hlen]) hsl.src (fun u hu => by obtain ⟨y, -, hy⟩ := List.mem_flatMap.1 hu; exact c.one y u hy) hm hb hbase
  unfold Oper.wp
  simp [execOp, ho, resolve, invoke, builtin, hs, hx, hrun, Result.andThen]
  refine h v' w' ?_ k2 k3
  unfold Own
  rw [List.length_append, List.flatMap_append, ← hsl.hlen]; exact k1

section
variable {α : Type} {e : TypeId} {c : Cod α} {base : Nat} {w : World} {xs : List α}
/-- A row made shorter. -/
theorem Own.cut {g n cap m : Nat} (h : Own e c base w (.slice (some ⟨g, 0, none⟩) n cap) xs) (hn : n = xs.length) (hm : m ≤ n) : Own e c base w (.slice (some ⟨g, 0, none⟩) m cap) (xs.take m) := by
  subst hn
  obtain ⟨h1, h2⟩ := h
  rcases h2 with ⟨h2, -⟩ | ⟨g', cap', cur, h2, h3, h4, h5, h6, h7, h8⟩
  · cases h2
  · cases h2
    have hl : (xs.take m).length = m := by rw [List.length_take]; omega
    refine ⟨by rw [flat_len, hl], .inr ⟨g, cap, cur, by rw [hl], h3, h4, by rw [hl]; omega, h6, h7, ?_⟩⟩
    rw [hl]
    have e1 : xs.flatMap c.enc = (xs.take m).flatMap c.enc ++ (xs.drop m).flatMap c.enc := by rw [← List.flatMap_append, List.take_append_drop]
    have e2 : cur.toList.take (m * c.k) = (cur.toList.take (xs.length * c.k)).take (m * c.k) := by
      rw [List.take_take, Nat.min_eq_left (Nat.mul_le_mul_right _ hm)]
    rw [e2, h8, e1, List.take_append_of_le_length (by rw [flat_len, hl]; exact Nat.le_refl _), List.take_of_length_le (by rw [flat_len, hl]; exact Nat.le_refl _)]
/-- A cell of it. -/
theorem Own.at {g n cap : Nat} (h : Own e c base w (.slice (some ⟨g, 0, none⟩) n cap) xs) (hn : n = xs.length) {i : Nat} {x : α} (hi : xs[i]? = some x) : (∀ j u, (c.enc x)[j]? = some u → w.cell? ⟨g, i * c.k + j, none⟩ = some u) ∧ ∀ j, w.frozen? ⟨g, j, none⟩ = false := by
  subst hn
  have h' : w.ownsRow base e c.k (.slice (some ⟨g, 0, none⟩) xs.length cap) xs.length (xs.flatMap c.enc) := h
  refine ⟨fun j u hu => ?_, fun j => h'.frozenAt j⟩
  have hj : j < c.k := by rw [← c.len x]; exact (List.getElem?_eq_some_iff.1 hu).1
  have hl := (List.getElem?_eq_some_iff.1 hi).1
  have hlt : i * c.k + j < xs.length * c.k := by
    have : (i + 1) * c.k ≤ xs.length * c.k := Nat.mul_le_mul_right _ hl
    rw [Nat.add_mul] at this; omega
  rw [h'.cellAt _ hlt, flat_get c xs i j hj, hi]; exact hu
/-- One of its cells is put anew. -/
theorem Own.put {g n cap : Nat} (h : Own e c base w (.slice (some ⟨g, 0, none⟩) n cap) xs) (hn : n = xs.length) (j : Nat) (u : Value) (ys : List α) (hy : ys.length = xs.length) (he : (xs.flatMap c.enc).set j u = ys.flatMap c.enc) :
    Own e c base (w.setCell ⟨g, j, none⟩ u) (.slice (some ⟨g, 0, none⟩) n cap) ys ∧ w.grownBy (w.setCell ⟨g, j, none⟩ u) (some g) := by
  subst hn
  have h' : w.ownsRow base e c.k (.slice (some ⟨g, 0, none⟩) xs.length cap) xs.length (xs.flatMap c.enc) := h
  obtain ⟨h1, h2⟩ := h'.stored j u
  refine ⟨?_, h2⟩
  unfold Own
  rw [hy, ← he]; exact h1
end

/-- All is kept but two blocks and what is new. -/
structure Chg (w w' : World) (g : Nat) (r : Option Nat) : Prop where
  os : w'.os = w.os
  tape : w'.tape = w.tape
  output : w'.output = w.output
  size : w.heap.size ≤ w'.heap.size
  block : ∀ k, k < w.heap.size → k ≠ g → some k ≠ r → w'.heap[k]? = w.heap[k]?
section
variable {w w' w'' : World} {g : Nat} {r : Option Nat}
theorem Chg.refl (w : World) (g : Nat) (r : Option Nat) : Chg w w g r := ⟨rfl, rfl, rfl, Nat.le_refl _, fun _ _ _ _ => rfl⟩
theorem Chg.of_below (h : Below w.heap.size w w') (g : Nat) (r : Option Nat) : Chg w w' g r := ⟨h.os, h.tape, h.output, h.size, fun k hk _ _ => h.block k hk⟩
theorem Chg.of_grown {row : Option Nat} (h : w.grownBy w' row) (g : Nat) (r : Option Nat) (hr : ∀ k, row = some k → k = g ∨ some k = r) : Chg w w' g r :=
  ⟨h.os, h.tape, h.output, h.size, fun k hk h1 h2 => h.block k hk (fun e => by rcases hr k e.symm with q | q; exact h1 q; exact h2 q)⟩
/-- One after the other; the second row is the first one, or a new one. -/
theorem Chg.trans {r' : Option Nat} (h : Chg w w' g r) (h' : Chg w' w'' g r') (hr : r' = r ∨ ∃ k, r' = some k ∧ w.heap.size ≤ k) : Chg w w'' g r :=
  ⟨h'.os.trans h.os, h'.tape.trans h.tape, h'.output.trans h.output, Nat.le_trans h.size h'.size, fun k hk h1 h2 => (h'.block k (Nat.lt_of_lt_of_le hk h.size) h1 (fun e => by
    rcases hr with q | ⟨j, q, q2⟩
    · exact h2 (e.trans q)
    · rw [q] at e; have := Option.some.inj e; omega)).trans (h.block k hk h1 h2)⟩
theorem Chg.below {B : Nat} (h : Chg w w' g r) (hg : B ≤ g) (hr : ∀ k, r = some k → B ≤ k) (hB : B ≤ w.heap.size) : Below B w w' :=
  ⟨h.os, h.tape, h.output, h.size, fun k hk => h.block k (by omega) (by omega) (fun e => by have := hr k e.symm; omega)⟩
theorem Chg.box {k : Nat} {ob : Obj} (h : Chg w w' g r) (hk : w.heap[k]? = some ob) (h1 : k ≠ g) (h2 : some k ≠ r) : w'.heap[k]? = some ob :=
  (h.block k (Array.getElem?_eq_some_iff.1 hk).1 h1 h2).trans hk
end
end Go.V
