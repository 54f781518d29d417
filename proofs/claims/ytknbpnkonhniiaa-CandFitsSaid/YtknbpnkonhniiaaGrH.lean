/- Grids: the stops of a cell: walked. -/
import Derived.Test.YtknbpnkonhniiaaGrG
namespace Go.Proofs.Ytknbpnkonhniiaa.Ne
open Go.RowKit Go.V Go.Proofs
open Go.Maps (Keyed)

theorem GMap.looks {w : World} {b : Nat} {f : Int → Int → List Int} (h : GMap w b f) {x y : Int} (hx : Iok x) (hy : Iok y) :
    ∃ q : Hdr, ∀ w', Below w.heap.size w w' → (Instr.lookup 64 (.map (some b)) (Gr.cellV x y) false).run Try.prog w' = .ok (.slice q.a q.n q.cap) w' ∧ Sl icod w' q.a q.n q.cap (f x y) := by
  obtain ⟨n, D, U, h1, h2⟩ := h
  refine ⟨U x y, fun w' hb => ?_⟩
  have h1' := h1.kept (w' := w') (row := none) ⟨hb.os, hb.tape, hb.output, hb.size, fun i hi _ => hb.block i hi⟩ (by simp)
  obtain ⟨v, ps, r1, r2⟩ := h1'.lookup (Keyed.of_law Gr.lawCell) Try.underlying64 (zero_ints w') (show Gr.heldR noRow = some (.held noRow, []) from rfl) (key_of hx hy)
  obtain ⟨h3, h4⟩ := h2 x y hx hy
  rw [h3] at r2
  unfold Gr.heldR at r2
  cases r2
  exact ⟨r1, h4.below hb⟩

end Go.Proofs.Ytknbpnkonhniiaa.Ne
