/- Networks: what a law on a network, a weighing and a play has boxed. -/
import Derived.Test.YtjejpaladjfegaaNfA
namespace Go.Proofs.Ytjejpaladjfegaa.Ne
open Go.RowKit Go.V Go.Proofs Go.Sort Go.Maps

abbrev playV (hp hq : Hdr) (a b : Int) : Value := .agg #[.slice hp.a hp.n hp.cap, .slice hq.a hq.n hq.cap, .int .i64 a, .int .i64 b]
abbrev playB (hp hq : Hdr) (a b : Int) : Obj := .cells #[.slice hp.a hp.n hp.cap, .slice hq.a hq.n hq.cap, .int .i64 a, .int .i64 b] 51
/-- What the law has boxed. -/
structure L22 (w : World) (g : Nat) (n : Net) (hs hl : Hdr) (x : Wgh) (hp hq : Hdr) (a b : Int) : Prop where
  n : w.heap[g]? = some (n.box hs hl)
  x : w.heap[g + 1]? = some x.box
  p : w.heap[g + 2]? = some (playB hp hq a b)
theorem L22.below {w w' : World} {g : Nat} {n : Net} {hs hl : Hdr} {x : Wgh} {hp hq : Hdr} {a b : Int} (h : L22 w g n hs hl x hp hq a b) (hb : Below w.heap.size w w') : L22 w' g n hs hl x hp hq a b := ⟨box_below h.n hb, box_below h.x hb, box_below h.p hb⟩
theorem L22.chg {w w' : World} {g mg : Nat} {n : Net} {hs hl : Hdr} {x : Wgh} {hp hq : Hdr} {a b : Int} (h : L22 w g n hs hl x hp hq a b) (hc : Chg w w' mg none) (hg : g + 2 < mg) : L22 w' g n hs hl x hp hq a b :=
  ⟨hc.box h.n (by omega) (by simp), hc.box h.x (by omega) (by simp), hc.box h.p (by omega) (by simp)⟩
theorem L22.cells {w : World} {g : Nat} {n : Net} {hs hl : Hdr} {x : Wgh} {hp hq : Hdr} {a b : Int} (h : L22 w g n hs hl x hp hq a b) :
    w.cell? ⟨g, 0, none⟩ = some (.int .i64 n.ver) ∧ w.cell? ⟨g, 1, none⟩ = some (.slice hs.a hs.n hs.cap) ∧ w.cell? ⟨g, 2, none⟩ = some (.slice hl.a hl.n hl.cap) ∧
    w.cell? ⟨g + 1, 0, none⟩ = some (.int .i64 x.reach) ∧ w.cell? ⟨g + 1, 1, none⟩ = some (.int .i64 x.most) ∧ w.cell? ⟨g + 1, 2, none⟩ = some (.int .i64 x.factor) ∧ w.cell? ⟨g + 1, 3, none⟩ = some (.int .i64 x.change) ∧
    w.cell? ⟨g + 2, 0, none⟩ = some (.slice hp.a hp.n hp.cap) ∧ w.cell? ⟨g + 2, 1, none⟩ = some (.slice hq.a hq.n hq.cap) ∧ w.cell? ⟨g + 2, 2, none⟩ = some (.int .i64 a) ∧ w.cell? ⟨g + 2, 3, none⟩ = some (.int .i64 b) :=
  ⟨(box_cell h.n 0).1, (box_cell h.n 1).1, (box_cell h.n 2).1, (box_cell h.x 0).1, (box_cell h.x 1).1, (box_cell h.x 2).1, (box_cell h.x 3).1, (box_cell h.p 0).1, (box_cell h.p 1).1, (box_cell h.p 2).1, (box_cell h.p 3).1⟩
theorem L22.new (w : World) (n : Net) (hs hl : Hdr) (x : Wgh) (hp hq : Hdr) (a b : Int) : L22 (((w.alloc (n.box hs hl)).alloc x.box).alloc (playB hp hq a b)) w.heap.size n hs hl x hp hq a b := by
  refine ⟨box_alloc (box_alloc (box_new _ _)), box_alloc ?_, ?_⟩
  · have := box_new (w.alloc (n.box hs hl)) x.box
    simpa using this
  · have := box_new ((w.alloc (n.box hs hl)).alloc x.box) (playB hp hq a b)
    simpa using this

end Go.Proofs.Ytjejpaladjfegaa.Ne
