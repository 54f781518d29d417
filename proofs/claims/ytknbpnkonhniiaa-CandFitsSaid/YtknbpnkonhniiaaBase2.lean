/- Slices of slices: what they read as. -/
import Derived.Test.YtknbpnkonhniiaaBase
namespace Go.V
open Go.RowKit

structure Hdr where
  a : Option Addr
  n : Nat
  cap : Nat
deriving Inhabited
def Hdr.enc (h : Hdr) : List Value := [.slice h.a h.n h.cap]
def Hdr.cod : Cod Hdr := ⟨1, Hdr.enc, fun _ => rfl, by simp [Hdr.enc, Value.oneCell']⟩
abbrev Hdr.val (h : Hdr) : Value := .slice h.a h.n h.cap

/-- The slice (a, n, cap) of slices reads as xss. -/
structure Sls {α : Type} (c : Cod α) (w : World) (a : Option Addr) (n cap : Nat) (hs : List Hdr) (xss : List (List α)) : Prop where
  hd : Sl Hdr.cod w a n cap hs
  len : hs.length = xss.length
  each : ∀ (i : Nat) (h : Hdr) (xs : List α), hs[i]? = some h → xss[i]? = some xs → Sl c w h.a h.n h.cap xs

section
variable {α : Type} {c : Cod α} {w : World} {a : Option Addr} {n cap : Nat} {hs : List Hdr} {xss : List (List α)}
theorem Sls.below {w' : World} (h : Sls c w a n cap hs xss) (hb : Below w.heap.size w w') : Sls c w' a n cap hs xss :=
  ⟨h.hd.below hb, h.len, fun i hh xs h1 h2 => (h.each i hh xs h1 h2).below hb⟩
theorem Sls.n_eq (h : Sls c w a n cap hs xss) : n = xss.length := by rw [h.hd.hlen, h.len]
theorem Sls.at {i : Nat} (h : Sls c w a n cap hs xss) (hi : i < n) : ∃ b off g xs, a = some ⟨b, off, none⟩ ∧ b < w.heap.size ∧ hs[i]? = some g ∧ xss[i]? = some xs ∧ w.cell? ⟨b, off + i, none⟩ = some (.slice g.a g.n g.cap) ∧ Sl c w g.a g.n g.cap xs := by
  obtain ⟨b, off, e, hb, g, hg, hc⟩ := h.hd.some hi
  have hx : i < xss.length := by rw [← h.n_eq]; exact hi
  refine ⟨b, off, g, xss[i], e, hb, hg, List.getElem?_eq_getElem hx, ?_, h.each i g _ hg (List.getElem?_eq_getElem hx)⟩
  have := hc 0 _ rfl
  simpa [Hdr.cod] using this
end
end Go.V
