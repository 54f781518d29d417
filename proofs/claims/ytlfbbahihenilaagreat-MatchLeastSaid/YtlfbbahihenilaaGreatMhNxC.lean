/- Networks: viterbi: what is left to be paid, row by row, as an iterator tells it: what it has in memory. -/
import Derived.Test.YtlfbbahihenilaaGreatMg22
namespace Go.Proofs.YtlfbbahihenilaaGreat.Ne
open Go.RowKit Go.V Go.Shelf Go.Proofs Go.Sort Go.Maps

/-- What stands in an array of sixteen. -/
def padV (l : List Int) : List Value := l.map (Value.int .i64) ++ List.replicate (16 - l.length) (.int .i64 0)
theorem padV_len {l : List Int} (h : l.length ≤ 16) : (padV l).length = 16 := by unfold padV; simp; omega
theorem padV_one (l : List Int) : ∀ v ∈ padV l, v.oneCell' = true := by
  intro v hv
  unfold padV at hv
  rcases List.mem_append.1 hv with h | h
  · obtain ⟨x, -, rfl⟩ := List.mem_map.1 h; rfl
  · rw [List.eq_of_mem_replicate h]; rfl
theorem padV_at {l : List Int} {j : Nat} {x : Int} (h : l[j]? = some x) : (padV l)[j]? = some (.int .i64 x) := by
  unfold padV
  have := (List.getElem?_eq_some_iff.1 h).1
  rw [List.getElem?_append_left (by simpa using this), List.getElem?_map, h]; rfl
theorem padV_snoc {l : List Int} {x : Int} (h : l.length < 16) : (padV l).set l.length (.int .i64 x) = padV (l ++ [x]) := by
  unfold padV
  rw [List.set_append_right _ _ (by simp), List.length_map, Nat.sub_self]
  have e : 16 - l.length = (16 - (l ++ [x]).length) + 1 := by simp; omega
  rw [e, List.replicate_succ, List.set_cons_zero, List.map_append]
  simp
theorem padV_nil : padV [] = List.replicate 16 (.int .i64 0) := rfl
abbrev arrO (l : List Int) : Obj := .cells (padV l).toArray 139 (0, 0)
/-- The array's slot is put anew, twice. -/
theorem arr_set {w : World} {g : Nat} {l : List Int} {x : Int} (h : w.heap[g]? = some (arrO l)) (hl : l.length < 16) : (w.setCell ⟨g, l.length, none⟩ (.int .i64 x)).heap[g]? = some (arrO (l ++ [x])) := by
  rw [heap_setCell_same w g l.length _ _ _ h]
  congr 2
  rw [← padV_snoc hl]
  simp
theorem arr_set2 {w : World} {g : Nat} {l : List Int} {x y : Int} (h : w.heap[g]? = some (arrO l)) (hl : l.length < 16) : ((w.setCell ⟨g, l.length, none⟩ (.int .i64 y)).setCell ⟨g, l.length, none⟩ (.int .i64 x)).heap[g]? = some (arrO (l ++ [x])) := by
  have h1 := heap_setCell_same w g l.length _ _ (.int .i64 y) h
  rw [heap_setCell_same _ g l.length _ _ _ h1]
  congr 2
  rw [← padV_snoc hl]
  simp

theorem arr_reset {w : World} {g : Nat} {l : List Int} {x y : Int} (h : w.heap[g]? = some (arrO (l ++ [y]))) (hl : l.length < 16) : (w.setCell ⟨g, l.length, none⟩ (.int .i64 x)).heap[g]? = some (arrO (l ++ [x])) := by
  rw [heap_setCell_same w g l.length _ _ _ h]
  congr 2
  rw [← padV_snoc hl, ← padV_snoc hl]
  simp
theorem arr_cell {w : World} {g : Nat} {l : List Int} (h : w.heap[g]? = some (arrO l)) (hl : l.length ≤ 16) {j : Nat} (hj : j < 16) : ∃ v, w.cell? ⟨g, j, none⟩ = some v ∧ w.frozen? ⟨g, j, none⟩ = false := by
  have h1 := (box_cell h j).1
  have h2 : j < (padV l).toArray.size := by rw [List.size_toArray, padV_len hl]; exact hj
  exact ⟨_, h1.trans (Array.getElem?_eq_getElem h2), (box_cell h j).2⟩
theorem arr_int {w : World} {g : Nat} {l : List Int} (h : w.heap[g]? = some (arrO l)) {j : Nat} {x : Int} (hx : l[j]? = some x) : w.cell? ⟨g, j, none⟩ = some (.int .i64 x) := by
  rw [(box_cell h j).1, List.getElem?_toArray]; exact padV_at hx

/-- Old memory is kept but for one block. -/
structure Kq (z mg : Nat) (W W' : World) : Prop where
  os : W'.os = W.os
  tape : W'.tape = W.tape
  output : W'.output = W.output
  size : W.heap.size ≤ W'.heap.size
  block : ∀ k, k < z → k ≠ mg → W'.heap[k]? = W.heap[k]?
theorem Kq.of_chg {z mg : Nat} {W W' : World} (h : Chg W W' mg none) (hz : z ≤ W.heap.size) : Kq z mg W W' := ⟨h.os, h.tape, h.output, h.size, fun k hk h1 => h.block k (by omega) h1 (by simp)⟩
theorem Kq.trans {z mg : Nat} {W W' W'' : World} (h : Kq z mg W W') (h' : Kq z mg W' W'') : Kq z mg W W'' :=
  ⟨h'.os.trans h.os, h'.tape.trans h.tape, h'.output.trans h.output, Nat.le_trans h.size h'.size, fun k hk h1 => (h'.block k hk h1).trans (h.block k hk h1)⟩
theorem Kq.set {z mg g i : Nat} {W : World} {v : Value} (h : z ≤ g) : Kq z mg W (W.setCell ⟨g, i, none⟩ v) := ⟨rfl, rfl, rfl, by simp, fun k hk _ => heap_setCell_other _ _ _ _ (by show k ≠ g; omega)⟩
/-- What is kept but for three blocks. -/
structure Kp (W0 W : World) (mg A l : Nat) : Prop where
  os : W.os = W0.os
  tape : W.tape = W0.tape
  output : W.output = W0.output
  size : W0.heap.size ≤ W.heap.size
  block : ∀ k, k < W0.heap.size → k ≠ mg → k ≠ A → k ≠ l → W.heap[k]? = W0.heap[k]?
theorem Kp.refl (W : World) (mg A l : Nat) : Kp W W mg A l := ⟨rfl, rfl, rfl, Nat.le_refl _, fun _ _ _ _ _ => rfl⟩
theorem Kp.kq {W0 W W' : World} {mg A l : Nat} (h : Kp W0 W mg A l) (h' : Kq W0.heap.size mg W W') : Kp W0 W' mg A l :=
  ⟨h'.os.trans h.os, h'.tape.trans h.tape, h'.output.trans h.output, Nat.le_trans h.size h'.size, fun k hk h1 h2 h3 => (h'.block k hk h1).trans (h.block k hk h1 h2 h3)⟩
/-- All is kept but two blocks (what a round of the loop does). -/
structure Ky (W W' : World) (A l : Nat) : Prop where
  os : W'.os = W.os
  tape : W'.tape = W.tape
  output : W'.output = W.output
  size : W.heap.size ≤ W'.heap.size
  block : ∀ k, k < W.heap.size → k ≠ A → k ≠ l → W'.heap[k]? = W.heap[k]?
theorem Kp.ky {W0 W W' : World} {mg A l : Nat} (h : Kp W0 W mg A l) (h' : Ky W W' A l) : Kp W0 W' mg A l :=
  ⟨h'.os.trans h.os, h'.tape.trans h.tape, h'.output.trans h.output, Nat.le_trans h.size h'.size, fun k hk h1 h2 h3 => (h'.block k (Nat.lt_of_lt_of_le hk h.size) h2 h3).trans (h.block k hk h1 h2 h3)⟩

theorem left_int : (139 : TypeId) ≠ 3 := by decide
theorem TabIn.set {w : World} {base tg mg N g i : Nat} {n : Net} {hs hl : Hdr} {cs : Array Value} {v : Value} (h : TabIn w base tg mg N n hs hl) (hg : w.heap[g]? = some (.cells cs 139 (0, 0))) (hb : base ≤ g) (h1 : tg ≠ g) (h2 : mg ≠ g) : TabIn (w.setCell ⟨g, i, none⟩ v) base tg mg N n hs hl :=
  h.keep hg left_int hg (fun cur e => left_int (by injection e)) rfl rfl rfl (by simp) (fun k hk h1 _ => heap_setCell_other _ _ _ _ h1) hb hb ⟨h1, h1⟩ ⟨h2, h2⟩
theorem TabIn.sets {w : World} {base tg mg N g i : Nat} {n : Net} {hs hl : Hdr} {cs : Array Value} {vs : List Value} (h : TabIn w base tg mg N n hs hl) (hg : w.heap[g]? = some (.cells cs 139 (0, 0))) (hb : base ≤ g) (h1 : tg ≠ g) (h2 : mg ≠ g) : TabIn (w.setCells g i vs) base tg mg N n hs hl := by
  obtain ⟨r1, r2, r3, r4⟩ := setCells_rest g vs i w
  exact h.keep hg left_int hg (fun cur e => left_int (by injection e)) r1 r2 r3 (by omega) (fun k hk h1 _ => setCells_other h1 _ _ _) hb hb ⟨h1, h1⟩ ⟨h2, h2⟩

/-- What the iterator has in memory between its statements. -/
structure BK (W0 W : World) (base tg mg N A l Bn : Nat) (n : Net) (hs hl : Hdr) (J : World → Prop) (nx : List Int) : Prop where
  tab : TabIn W base tg mg N n hs hl
  nxt : W.heap[Bn]? = some (arrO nx)
  kp : Kp W0 W mg A l
  j : J W
  off : (TOff W mg A ∧ TOff W mg l) ∧ A < W0.heap.size ∧ l < W0.heap.size ∧ mg ≠ A ∧ mg ≠ l
section
variable {W0 W W' : World} {base tg mg N N' A l Bn : Nat} {n : Net} {hs hl : Hdr} {J : World → Prop} {nx : List Int}
theorem BK.chg (h : BK W0 W base tg mg N A l Bn n hs hl J nx) (hJ : ∀ W W', J W → Kq W0.heap.size mg W W' → J W') (ht : TabIn W' base tg mg N' n hs hl) (hc : ChgT W W' mg) (hne : Bn ≠ mg) : BK W0 W' base tg mg N' A l Bn n hs hl J nx :=
  ⟨ht, hc.chg.box h.nxt hne (by simp), h.kp.kq (Kq.of_chg hc.chg h.kp.size), hJ _ _ h.j (Kq.of_chg hc.chg h.kp.size), ⟨⟨hc.rows A (Nat.lt_of_lt_of_le h.off.2.1 h.kp.size) h.off.1.1, hc.rows l (Nat.lt_of_lt_of_le h.off.2.2.1 h.kp.size) h.off.1.2⟩, h.off.2⟩⟩
theorem BK.below (h : BK W0 W base tg mg N A l Bn n hs hl J nx) (hJ : ∀ W W', J W → Kq W0.heap.size mg W W' → J W') (hb : RowKit.Below W.heap.size W W') (hne : Bn ≠ mg) : BK W0 W' base tg mg N A l Bn n hs hl J nx :=
  h.chg hJ (h.tab.below hb) (ChgT.of_below hb h.tab.mg_lt) hne
theorem BK.set {g i : Nat} {cs : Array Value} {v : Value} (h : BK W0 W base tg mg N A l Bn n hs hl J nx) (hJ : ∀ W W', J W → Kq W0.heap.size mg W W' → J W') (hg : W.heap[g]? = some (.cells cs 139 (0, 0))) (hz : W0.heap.size ≤ g) (hb : base ≤ g) (h1 : tg ≠ g) (h2 : mg ≠ g) (hn : Bn ≠ g) : BK W0 (W.setCell ⟨g, i, none⟩ v) base tg mg N A l Bn n hs hl J nx :=
  ⟨h.tab.set hg hb h1 h2, (heap_setCell_other _ _ _ _ hn).trans h.nxt, h.kp.kq (Kq.set hz), hJ _ _ h.j (Kq.set hz), ⟨⟨h.off.1.1.same (heap_setCell_other _ _ _ _ h2), h.off.1.2.same (heap_setCell_other _ _ _ _ h2)⟩, h.off.2⟩⟩
theorem BK.sets {ny : List Int} (h : BK W0 W base tg mg N A l Bn n hs hl J nx) (hJ : ∀ W W', J W → Kq W0.heap.size mg W W' → J W') (hz : W0.heap.size ≤ Bn) (hb : base ≤ Bn) (h1 : tg ≠ Bn) (h2 : mg ≠ Bn) (hx : nx.length ≤ 16) (hy : ny.length ≤ 16) : BK W0 (W.setCells Bn 0 (padV ny).toArray.toList) base tg mg N A l Bn n hs hl J ny := by
  obtain ⟨r1, r2, r3, r4⟩ := setCells_rest Bn (padV ny).toArray.toList 0 W
  have hq : Kq W0.heap.size mg W (W.setCells Bn 0 (padV ny).toArray.toList) := ⟨r1, r2, r3, by omega, fun k hk _ => setCells_other (by omega) _ _ _⟩
  refine ⟨h.tab.sets h.nxt hb h1 h2, ?_, h.kp.kq hq, hJ _ _ h.j hq, ⟨⟨h.off.1.1.same (setCells_other h2 _ _ _), h.off.1.2.same (setCells_other h2 _ _ _)⟩, h.off.2⟩⟩
  have := setCells_block h.nxt (padV ny).toArray.toList (by simp [padV_len hx, padV_len hy])
  rw [this]
theorem BK.yields {J' : World → Prop} (h : BK W0 W base tg mg N A l Bn n hs hl J nx) (hj : J' W') (hk : Ky W W' A l) (hb : base ≤ A ∧ base ≤ l) (h1 : tg ≠ A ∧ tg ≠ l) (h3 : Bn ≠ A ∧ Bn ≠ l) : BK W0 W' base tg mg N A l Bn n hs hl J' nx :=
  have hm := hk.block mg h.tab.mg_lt h.off.2.2.2.1 h.off.2.2.2.2
  ⟨h.tab.keepT h.off.1.1 h.off.1.2 hk.os hk.tape hk.output hk.size hk.block hb.1 hb.2 h1 h.off.2.2.2, (hk.block Bn (box_lt h.nxt) h3.1 h3.2).trans h.nxt, h.kp.ky hk, hj, ⟨⟨h.off.1.1.same hm, h.off.1.2.same hm⟩, h.off.2⟩⟩
theorem arr_range {w : World} {g : Nat} {l : List Int} (h : w.heap[g]? = some (arrO l)) : w.rangeAt g 0 (padV l) := fun j v hv => by
  rw [Nat.zero_add, (box_cell h j).1, List.getElem?_toArray]; exact hv
theorem arr_there {w : World} {g : Nat} {l : List Int} (h : w.heap[g]? = some (arrO l)) (hl : l.length ≤ 16) {m : Nat} (hm : m ≤ 16) : w.there g 0 m := fun j hj => by
  obtain ⟨v, h1, h2⟩ := arr_cell h hl (show j < 16 by omega)
  rw [Nat.zero_add]
  exact ⟨by rw [h1]; rfl, h2⟩
theorem infoLeft : (Tryz.prog.info? 139).map (·.size) = some 16 := by kernel_rfl
theorem BK.upto (h : BK W0 W base tg mg N A l Bn n hs hl J nx) (hN : N ≤ N') : BK W0 W base tg mg N' A l Bn n hs hl J nx := ⟨h.tab.upto hN, h.nxt, h.kp, h.j, h.off⟩
end
end Go.Proofs.YtlfbbahihenilaaGreat.Ne
