/- Ways: a trace's way, by a table: walked. -/
import Derived.Test.YtlfbbahihenilaaGreatMg29
namespace Go.Proofs.YtlfbbahihenilaaGreat.Ne
open Go.RowKit Go.V Go.Proofs

theorem alloc9 (w : World) (o0 o1 o2 o3 o4 o5 o6 o7 o8 : Obj) : ∃ W, ((((((((w.alloc o0).alloc o1).alloc o2).alloc o3).alloc o4).alloc o5).alloc o6).alloc o7).alloc o8 = W ∧ W.heap.size = w.heap.size + 9 ∧ Below w.heap.size w W ∧
    W.heap[w.heap.size]? = some o0 ∧ W.heap[w.heap.size + 1]? = some o1 ∧ W.heap[w.heap.size + 1 + 1]? = some o2 ∧ W.heap[w.heap.size + 1 + 1 + 1]? = some o3 ∧ W.heap[w.heap.size + 1 + 1 + 1 + 1]? = some o4 ∧ W.heap[w.heap.size + 1 + 1 + 1 + 1 + 1]? = some o5 ∧ W.heap[w.heap.size + 1 + 1 + 1 + 1 + 1 + 1]? = some o6 ∧ W.heap[w.heap.size + 1 + 1 + 1 + 1 + 1 + 1 + 1]? = some o7 ∧ W.heap[w.heap.size + 1 + 1 + 1 + 1 + 1 + 1 + 1 + 1]? = some o8 := by
  refine ⟨_, rfl, by simp, ((((((((((Below.refl _ _).alloc (Nat.le_refl _) _).alloc (by simp) _).alloc (by simp; omega) _).alloc (by simp; omega) _).alloc (by simp; omega) _).alloc (by simp; omega) _).alloc (by simp; omega) _).alloc (by simp; omega) _).alloc (by simp; omega) _), ?_⟩
  have nx : ∀ (W : World) (o : Obj) (k : Nat), W.heap.size = k → (W.alloc o).heap[k]? = some o := fun W o k h => by subst h; exact World.alloc_heap_new W o
  refine ⟨?_, ?_, ?_, ?_, ?_, ?_, ?_, ?_, ?_⟩
  · exact box_alloc (box_alloc (box_alloc (box_alloc (box_alloc (box_alloc (box_alloc (box_alloc (nx _ _ _ rfl))))))))
  · exact box_alloc (box_alloc (box_alloc (box_alloc (box_alloc (box_alloc (box_alloc (nx _ _ _ (by simp))))))))
  · exact box_alloc (box_alloc (box_alloc (box_alloc (box_alloc (box_alloc (nx _ _ _ (by simp)))))))
  · exact box_alloc (box_alloc (box_alloc (box_alloc (box_alloc (nx _ _ _ (by simp))))))
  · exact box_alloc (box_alloc (box_alloc (box_alloc (nx _ _ _ (by simp)))))
  · exact box_alloc (box_alloc (box_alloc (nx _ _ _ (by simp))))
  · exact box_alloc (box_alloc (nx _ _ _ (by simp)))
  · exact box_alloc (nx _ _ _ (by simp))
  · exact nx _ _ _ (by simp)

/-- A way's rows are a call's own. -/
structure WayOwn (B : Nat) (w : World) (s r l : Hdr) (ss : List Int) (R : List Rn) (L : List Lg) : Prop where
  s : V.Own 3 icod B w (.slice s.a s.n s.cap) ss
  r : V.Own 57 Rn.cod B w (.slice r.a r.n r.cap) R
  l : V.Own 53 Lg.cod B w (.slice l.a l.n l.cap) L
theorem own_sl {α : Type} {e : TypeId} {c : Cod α} {B : Nat} {w : World} {a : Option Addr} {n cap : Nat} {xs : List α} (h : V.Own e c B w (.slice a n cap) xs) : Sl c w a n cap xs := by
  obtain ⟨a', c', e1, hs, -⟩ := h.slice
  cases e1
  exact hs
theorem WayOwn.in_ {B : Nat} {w : World} {s r l : Hdr} {ss : List Int} {R : List Rn} {L : List Lg} (h : WayOwn B w s r l ss R L) : WayIn w s r l ss R L := ⟨own_sl h.s, own_sl h.r, own_sl h.l⟩
theorem WayOwn.nil (B : Nat) (w : World) : WayOwn B w ⟨none, 0, 0⟩ ⟨none, 0, 0⟩ ⟨none, 0, 0⟩ [] [] [] := ⟨Own.nil, Own.nil, Own.nil⟩
theorem WayOwn.lower {B B' : Nat} {w : World} {s r l : Hdr} {ss : List Int} {R : List Rn} {L : List Lg} (h : WayOwn B w s r l ss R L) (hB : B' ≤ B) : WayOwn B' w s r l ss R L := ⟨h.s.lower hB, h.r.lower hB, h.l.lower hB⟩

/-- The boxes of a call. -/
structure WS (W : World) (B0 B1 B2 B3 B4 B5 B6 B7 B8 tg : Nat) (n : Net) (hs hl : Hdr) (r : Rul) (la : Option Addr) (ln lc : Nat) (k g v0 v1 v2 v3 : Value) : Prop where
  b0 : W.heap[B0]? = some (.cells #[.pointer (some ⟨tg, 0, none⟩)] 47 (0, 0))
  b1 : W.heap[B1]? = some (n.box hs hl)
  b2 : W.heap[B2]? = some r.box
  b3 : W.heap[B3]? = some (.cells #[.slice la ln lc] 32 (0, 0))
  b4 : W.heap[B4]? = some (.cells #[.slice none 0 0, .int .i64 0, .slice none 0 0, .slice none 0 0] 39 (0, 0))
  b5 : W.heap[B5]? = some (.cells #[k] 32 (0, 0))
  b6 : W.heap[B6]? = some (.cells #[g] 63 (0, 0))
  b7 : W.heap[B7]? = some (.cells #[v0, v1, v2, v3] 39 (0, 0))
  b8 : W.heap[B8]? = some (.cells #[.func (.func 36) #[] #[.pointer (some ⟨B1, 0, none⟩)], .func (.func 37) #[] #[.pointer (some ⟨B2, 0, none⟩), .pointer (some ⟨B0, 0, none⟩), .pointer (some ⟨B1, 0, none⟩)], .func (.func 40) #[] #[.pointer (some ⟨B2, 0, none⟩), .pointer (some ⟨B3, 0, none⟩), .pointer (some ⟨B5, 0, none⟩)], .func (.func 41) #[] #[.pointer (some ⟨B1, 0, none⟩), .pointer (some ⟨B2, 0, none⟩), .pointer (some ⟨B5, 0, none⟩), .pointer (some ⟨B6, 0, none⟩)], .func (.func 42) #[] #[.pointer (some ⟨B0, 0, none⟩), .pointer (some ⟨B2, 0, none⟩), .pointer (some ⟨B6, 0, none⟩), .pointer (some ⟨B7, 0, none⟩)], .func (.func 44) #[] #[.pointer (some ⟨B7, 0, none⟩), .pointer (some ⟨B5, 0, none⟩)], .func (.func 46) #[] #[.pointer (some ⟨B7, 0, none⟩), .pointer (some ⟨B2, 0, none⟩)]] 94 (0, 0))
section
variable {W W' : World} {B0 B1 B2 B3 B4 B5 B6 B7 B8 tg mg : Nat} {n : Net} {hs hl : Hdr} {r : Rul} {la : Option Addr} {ln lc : Nat} {k g v0 v1 v2 v3 : Value}
theorem WS.below (h : WS W B0 B1 B2 B3 B4 B5 B6 B7 B8 tg n hs hl r la ln lc k g v0 v1 v2 v3) (hb : Below W.heap.size W W') : WS W' B0 B1 B2 B3 B4 B5 B6 B7 B8 tg n hs hl r la ln lc k g v0 v1 v2 v3 :=
  ⟨box_below h.b0 hb, box_below h.b1 hb, box_below h.b2 hb, box_below h.b3 hb, box_below h.b4 hb, box_below h.b5 hb, box_below h.b6 hb, box_below h.b7 hb, box_below h.b8 hb⟩
/-- The boxes' numbers. -/
def Nine (B B0 B1 B2 B3 B4 B5 B6 B7 B8 : Nat) : Prop := B0 = B ∧ B1 = B + 1 ∧ B2 = B + 2 ∧ B3 = B + 3 ∧ B4 = B + 4 ∧ B5 = B + 5 ∧ B6 = B + 6 ∧ B7 = B + 7 ∧ B8 = B + 8
theorem WS.chg (h : WS W B0 B1 B2 B3 B4 B5 B6 B7 B8 tg n hs hl r la ln lc k g v0 v1 v2 v3) {B : Nat} (hN : Nine B B0 B1 B2 B3 B4 B5 B6 B7 B8) (hc : Chg W W' mg none) (hm : mg < B) : WS W' B0 B1 B2 B3 B4 B5 B6 B7 B8 tg n hs hl r la ln lc k g v0 v1 v2 v3 := by
  unfold Nine at hN
  exact ⟨hc.box h.b0 (by omega) (by simp), hc.box h.b1 (by omega) (by simp), hc.box h.b2 (by omega) (by simp), hc.box h.b3 (by omega) (by simp), hc.box h.b4 (by omega) (by simp), hc.box h.b5 (by omega) (by simp), hc.box h.b6 (by omega) (by simp), hc.box h.b7 (by omega) (by simp), hc.box h.b8 (by omega) (by simp)⟩
theorem set_oth (W : World) {p q i : Nat} (u : Value) (h : q ≠ p) : (W.setCell ⟨p, i, none⟩ u).heap[q]? = W.heap[q]? := heap_setCell_other _ ⟨p, i, none⟩ q u h
theorem WS.set5 (h : WS W B0 B1 B2 B3 B4 B5 B6 B7 B8 tg n hs hl r la ln lc k g v0 v1 v2 v3) {B : Nat} (hN : Nine B B0 B1 B2 B3 B4 B5 B6 B7 B8) (u : Value) : WS (W.setCell ⟨B5, 0, none⟩ u) B0 B1 B2 B3 B4 B5 B6 B7 B8 tg n hs hl r la ln lc u g v0 v1 v2 v3 := by
  unfold Nine at hN
  exact ⟨(set_oth W u (by omega)).trans h.b0, (set_oth W u (by omega)).trans h.b1, (set_oth W u (by omega)).trans h.b2, (set_oth W u (by omega)).trans h.b3, (set_oth W u (by omega)).trans h.b4, by rw [heap_setCell_same W B5 0 _ _ u h.b5]; rfl, (set_oth W u (by omega)).trans h.b6, (set_oth W u (by omega)).trans h.b7, (set_oth W u (by omega)).trans h.b8⟩
theorem WS.set6 (h : WS W B0 B1 B2 B3 B4 B5 B6 B7 B8 tg n hs hl r la ln lc k g v0 v1 v2 v3) {B : Nat} (hN : Nine B B0 B1 B2 B3 B4 B5 B6 B7 B8) (u : Value) : WS (W.setCell ⟨B6, 0, none⟩ u) B0 B1 B2 B3 B4 B5 B6 B7 B8 tg n hs hl r la ln lc k u v0 v1 v2 v3 := by
  unfold Nine at hN
  exact ⟨(set_oth W u (by omega)).trans h.b0, (set_oth W u (by omega)).trans h.b1, (set_oth W u (by omega)).trans h.b2, (set_oth W u (by omega)).trans h.b3, (set_oth W u (by omega)).trans h.b4, (set_oth W u (by omega)).trans h.b5, by rw [heap_setCell_same W B6 0 _ _ u h.b6]; rfl, (set_oth W u (by omega)).trans h.b7, (set_oth W u (by omega)).trans h.b8⟩
theorem WS.set70 (h : WS W B0 B1 B2 B3 B4 B5 B6 B7 B8 tg n hs hl r la ln lc k g v0 v1 v2 v3) {B : Nat} (hN : Nine B B0 B1 B2 B3 B4 B5 B6 B7 B8) (u : Value) : WS (W.setCell ⟨B7, 0, none⟩ u) B0 B1 B2 B3 B4 B5 B6 B7 B8 tg n hs hl r la ln lc k g u v1 v2 v3 := by
  unfold Nine at hN
  exact ⟨(set_oth W u (by omega)).trans h.b0, (set_oth W u (by omega)).trans h.b1, (set_oth W u (by omega)).trans h.b2, (set_oth W u (by omega)).trans h.b3, (set_oth W u (by omega)).trans h.b4, (set_oth W u (by omega)).trans h.b5, (set_oth W u (by omega)).trans h.b6, by rw [heap_setCell_same W B7 0 _ _ u h.b7]; rfl, (set_oth W u (by omega)).trans h.b8⟩
theorem WS.set71 (h : WS W B0 B1 B2 B3 B4 B5 B6 B7 B8 tg n hs hl r la ln lc k g v0 v1 v2 v3) {B : Nat} (hN : Nine B B0 B1 B2 B3 B4 B5 B6 B7 B8) (u : Value) : WS (W.setCell ⟨B7, 1, none⟩ u) B0 B1 B2 B3 B4 B5 B6 B7 B8 tg n hs hl r la ln lc k g v0 u v2 v3 := by
  unfold Nine at hN
  exact ⟨(set_oth W u (by omega)).trans h.b0, (set_oth W u (by omega)).trans h.b1, (set_oth W u (by omega)).trans h.b2, (set_oth W u (by omega)).trans h.b3, (set_oth W u (by omega)).trans h.b4, (set_oth W u (by omega)).trans h.b5, (set_oth W u (by omega)).trans h.b6, by rw [heap_setCell_same W B7 1 _ _ u h.b7]; rfl, (set_oth W u (by omega)).trans h.b8⟩
theorem WS.set72 (h : WS W B0 B1 B2 B3 B4 B5 B6 B7 B8 tg n hs hl r la ln lc k g v0 v1 v2 v3) {B : Nat} (hN : Nine B B0 B1 B2 B3 B4 B5 B6 B7 B8) (u : Value) : WS (W.setCell ⟨B7, 2, none⟩ u) B0 B1 B2 B3 B4 B5 B6 B7 B8 tg n hs hl r la ln lc k g v0 v1 u v3 := by
  unfold Nine at hN
  exact ⟨(set_oth W u (by omega)).trans h.b0, (set_oth W u (by omega)).trans h.b1, (set_oth W u (by omega)).trans h.b2, (set_oth W u (by omega)).trans h.b3, (set_oth W u (by omega)).trans h.b4, (set_oth W u (by omega)).trans h.b5, (set_oth W u (by omega)).trans h.b6, by rw [heap_setCell_same W B7 2 _ _ u h.b7]; rfl, (set_oth W u (by omega)).trans h.b8⟩
theorem WS.set73 (h : WS W B0 B1 B2 B3 B4 B5 B6 B7 B8 tg n hs hl r la ln lc k g v0 v1 v2 v3) {B : Nat} (hN : Nine B B0 B1 B2 B3 B4 B5 B6 B7 B8) (u : Value) : WS (W.setCell ⟨B7, 3, none⟩ u) B0 B1 B2 B3 B4 B5 B6 B7 B8 tg n hs hl r la ln lc k g v0 v1 v2 u := by
  unfold Nine at hN
  exact ⟨(set_oth W u (by omega)).trans h.b0, (set_oth W u (by omega)).trans h.b1, (set_oth W u (by omega)).trans h.b2, (set_oth W u (by omega)).trans h.b3, (set_oth W u (by omega)).trans h.b4, (set_oth W u (by omega)).trans h.b5, (set_oth W u (by omega)).trans h.b6, by rw [heap_setCell_same W B7 3 _ _ u h.b7]; rfl, (set_oth W u (by omega)).trans h.b8⟩
end
theorem TabIn.setBox {W : World} {base tg mg N A i : Nat} {n : Net} {hs hl : Hdr} {cs : Array Value} {ta : TypeId} (h : TabIn W base tg mg N n hs hl) (hA : W.heap[A]? = some (.cells cs ta (0, 0))) (hta : ta ≠ 3) (hb : base ≤ A) (h1 : tg ≠ A) (h2 : mg ≠ A) (u : Value) : TabIn (W.setCell ⟨A, i, none⟩ u) base tg mg N n hs hl := by
  have hg := mt_set W A i u
  exact h.keep hA hta hA (fun cur e => hta (by cases e; rfl)) hg.os hg.tape hg.output hg.size (fun k hk h1 _ => set_oth W u h1) hb hb ⟨h1, h1⟩ ⟨h2, h2⟩
end Go.Proofs.YtlfbbahihenilaaGreat.Ne
