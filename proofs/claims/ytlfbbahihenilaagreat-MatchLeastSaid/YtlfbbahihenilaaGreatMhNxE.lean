/- Networks: viterbi: what Best has in memory; the iterator's value. -/
import Derived.Test.YtlfbbahihenilaaGreatMhNxD
import Derived.Laws.MakeOwn
namespace Go.Proofs.YtlfbbahihenilaaGreat.Ne
open Go.RowKit Go.V Go.Shelf Go.Proofs Go.Sort Go.Maps
attribute [local go_sem] Oper.semAt_some

theorem vback_any (tg : Nat) (x : Wgh) (hp : Hdr) (w : World) : Calls Tryz.prog 75 #[.pointer (some ⟨tg, 0, none⟩), x.val, .slice hp.a hp.n hp.cap] w fun e w' =>
    e = .returned (.func (.func 97) #[] #[.pointer (some ⟨w.heap.size + 2, 0, none⟩), .pointer (some ⟨w.heap.size, 0, none⟩), .pointer (some ⟨w.heap.size + 1, 0, none⟩)]) ∧
    w' = ((w.alloc (.cells #[.pointer (some ⟨tg, 0, none⟩)] 47)).alloc x.box).alloc (.cells #[.slice hp.a hp.n hp.cap] 63) := by
  go_enter Tryz.func75, Tryz.ntmps75
  go_wp2
  go_ret
  exact ⟨by simp, rfl⟩

theorem infoLeft3 : (Tryz.prog.info? 139).map (fun i => (i.zero, i.size, i.bytes)) = some (some (.agg (List.replicate 16 (Value.int .i64 0)).toArray), 16, 128) := by kernel_rfl
theorem make_left (n : Nat) (hn : n ≤ 2048) (w : World) : (Instr.makeSlice 134 (.int .i64 (n : Int)) (.int .i64 (n : Int))).run Tryz.prog w = .ok (.slice (some ⟨w.heap.size, 0, none⟩) n n) (w.alloc (.cells (madeCells (List.replicate 16 (Value.int .i64 0)).toArray (n * 16)) 139)) := by
  obtain ⟨i, hi, hz, hs, hb⟩ := info_parts infoLeft3
  have hr := run_make (P := Tryz.prog) w 134 139 i (.agg (List.replicate 16 (Value.int .i64 0)).toArray) Tryz.underlying134 hi hz .i64 .i64 n n (by omega) (Int.le_refl _) (by rw [hb]; omega) (by omega)
  simp only [Int.toNat_natCast, hs] at hr
  exact hr

/-- A block of so many cells. -/
theorem there_block {w : World} {g : Nat} {cs : Array Value} {t : TypeId} (h : w.heap[g]? = some (.cells cs t (0, 0))) : w.there g 0 cs.size := fun j hj => by
  rw [Nat.zero_add]
  exact ⟨by rw [(box_cell h j).1, Array.getElem?_eq_getElem hj]; rfl, (box_cell h j).2⟩
theorem there_part {w : World} {g m o k : Nat} (h : w.there g 0 m) (hk : o + k ≤ m) : w.there g o k := fun j hj => by
  have := h (o + j) (by omega)
  rwa [Nat.zero_add] at this
theorem cells_kind {g : Nat} {t : TypeId} : ∀ (vs : List Value) (o : Nat) (w : World) (cs : Array Value), w.heap[g]? = some (.cells cs t (0, 0)) → ∃ cs', (w.setCells g o vs).heap[g]? = some (.cells cs' t (0, 0)) ∧ cs'.size = cs.size
  | [], _, _, cs, h => ⟨cs, h, rfl⟩
  | x :: vs, o, w, cs, h => by
    obtain ⟨cs', h1, h2⟩ := cells_kind vs (o + 1) (w.setCell ⟨g, o, none⟩ x) _ (heap_setCell_same w g o cs t x h)
    exact ⟨cs', h1, by rw [h2]; simp⟩
theorem range_of_heap {w w' : World} {g o : Nat} {cs : List Value} (h : w.rangeAt g o cs) (he : w'.heap[g]? = w.heap[g]?) : w'.rangeAt g o cs := fun j v hv => by
  have e : w'.cell? ⟨g, o + j, none⟩ = w.cell? ⟨g, o + j, none⟩ := by simp [World.cell?, he]
  rw [e]; exact h j v hv

/-- What Best has in memory between two rounds of the iterator. -/
structure BJ (w W1 : World) (mg A Hb l D pn : Nat) (o : Obj) (Ls : Nat → List Int) (i : Nat) (W : World) : Prop where
  arr : ∃ cs, W.heap[A]? = some (.cells cs 139 (0, 0)) ∧ cs.size = pn * 16
  rng : ∀ j, i ≤ j → j < pn → W.rangeAt A (j * 16) (padV (Ls j))
  hdr : W.heap[Hb]? = some (.cells #[.slice (some ⟨A, 0, none⟩) pn pn] 134 (0, 0))
  rcd : W.heap[l]? = some o
  def_ : W.heap[D]? = some (.deferred (some []))
  chg : Chg w W mg none
  sz : W1.heap.size ≤ W.heap.size
  kp : ∀ k, k < W1.heap.size → k ≠ A → k ≠ l → k ≠ mg → W.heap[k]? = W1.heap[k]?
structure BL (w W1 : World) (mg A Hb l D : Nat) : Prop where
  old : w.heap.size ≤ A ∧ w.heap.size ≤ l
  lt : A < W1.heap.size ∧ Hb < W1.heap.size ∧ l < W1.heap.size ∧ D < W1.heap.size
  ne : A ≠ mg ∧ Hb ≠ mg ∧ l ≠ mg ∧ D ≠ mg
  na : Hb ≠ A ∧ l ≠ A ∧ D ≠ A
  nl : Hb ≠ l ∧ D ≠ l
  w1 : w.heap.size ≤ W1.heap.size
section
variable {w W1 W W' : World} {mg A Hb l D pn : Nat} {o : Obj} {Ls : Nat → List Int} {i : Nat}
theorem BJ.kq (hL : BL w W1 mg A Hb l D) (h : BJ w W1 mg A Hb l D pn o Ls i W) (hk : Kq W1.heap.size mg W W') : BJ w W1 mg A Hb l D pn o Ls i W' := by
  obtain ⟨cs, a1, a2⟩ := h.arr
  obtain ⟨l1, l2, l3, l4⟩ := hL.lt
  obtain ⟨n1, n2, n3, n4⟩ := hL.ne
  refine ⟨⟨cs, (hk.block A l1 n1).trans a1, a2⟩, fun j h1 h2 => range_of_heap (h.rng j h1 h2) (hk.block A l1 n1), (hk.block Hb l2 n2).trans h.hdr, (hk.block l l3 n3).trans h.rcd, (hk.block D l4 n4).trans h.def_, ?_, Nat.le_trans h.sz hk.size, fun k h1 h2 h3 h4 => (hk.block k h1 h4).trans (h.kp k h1 h2 h3 h4)⟩
  exact ⟨hk.os.trans h.chg.os, hk.tape.trans h.chg.tape, hk.output.trans h.chg.output, Nat.le_trans h.chg.size hk.size, fun k h1 h2 h3 => (hk.block k (by have := hL.w1; omega) h2).trans (h.chg.block k h1 h2 h3)⟩
/-- One row more is told: it goes into its place. -/
theorem BJ.put {V : World} {o' : Obj} (hL : BL w W1 mg A Hb l D) (h : BJ w W1 mg A Hb l D pn o Ls (i + 1) W) (hi : i < pn) (hlen : (Ls i).length ≤ 16)
    (hA : V.heap[A]? = W.heap[A]?) (hV : ∀ k, k < W.heap.size → k ≠ l → V.heap[k]? = W.heap[k]?) (hsz : W.heap.size ≤ V.heap.size) (hos : V.os = W.os) (htp : V.tape = W.tape) (hou : V.output = W.output)
    (h' : ∀ k, k ≠ l → W'.heap[k]? = (V.setCells A (i * 16) (padV (Ls i))).heap[k]?) (hl : W'.heap[l]? = some o') (hsz' : W'.heap.size = V.heap.size) (hos' : W'.os = V.os) (htp' : W'.tape = V.tape) (hou' : W'.output = V.output) :
    BJ w W1 mg A Hb l D pn o' Ls i W' ∧ Ky W W' A l := by
  obtain ⟨cs, a1, a2⟩ := h.arr
  obtain ⟨l1, l2, l3, l4⟩ := hL.lt
  obtain ⟨n1, n2, n3⟩ := hL.na
  obtain ⟨m1, m2⟩ := hL.nl
  have hs := h.sz
  have aV : V.heap[A]? = some (.cells cs 139 (0, 0)) := hA.trans a1
  obtain ⟨cs', b1, b2⟩ := cells_kind (padV (Ls i)) (i * 16) V cs aV
  have hth : V.there A (i * 16) (padV (Ls i)).length := there_part (there_block aV) (by rw [padV_len hlen, a2]; omega)
  have hA' : W'.heap[A]? = (V.setCells A (i * 16) (padV (Ls i))).heap[A]? := h' A (fun e => n2 e.symm)
  have hkk : ∀ k, k < W.heap.size → k ≠ A → k ≠ l → W'.heap[k]? = W.heap[k]? := fun k h1 h2 h3 => (h' k h3).trans ((setCells_other h2 _ _ _).trans (hV k h1 h3))
  have hky : Ky W W' A l := ⟨hos'.trans hos, htp'.trans htp, hou'.trans hou, by omega, hkk⟩
  refine ⟨⟨⟨cs', hA'.trans b1, by rw [b2, a2]⟩, fun j h1 h2 => ?_, (hkk Hb (by omega) n1 m1).trans h.hdr, hl, (hkk D (by omega) n3 m2).trans h.def_, ?_, by omega, fun k h1 h2 h3 h4 => (hkk k (by omega) h2 h3).trans (h.kp k h1 h2 h3 h4)⟩, hky⟩
  · by_cases hj : j = i
    · subst hj
      exact range_of_heap (World.rangeAt_setCells_same V A (j * 16) (padV (Ls j)) hth) hA'
    · have r := range_of_heap (h.rng j (by omega) h2) hA
      have : (V.setCells A (i * 16) (padV (Ls i))).rangeAt A (j * 16) (padV (Ls j)) := World.rangeAt_setCells_apart r A (i * 16) (padV (Ls i)) (.inr (.inr (by rw [padV_len hlen]; omega)))
      exact range_of_heap this hA'
  · obtain ⟨q1, q2⟩ := hL.old
    exact ⟨hky.os.trans h.chg.os, hky.tape.trans h.chg.tape, hky.output.trans h.chg.output, Nat.le_trans h.chg.size hky.size, fun k h1 h2 h3 => (hkk k (Nat.lt_of_lt_of_le h1 h.chg.size) (by omega) (by omega)).trans (h.chg.block k h1 h2 h3)⟩
end
end Go.Proofs.YtlfbbahihenilaaGreat.Ne
