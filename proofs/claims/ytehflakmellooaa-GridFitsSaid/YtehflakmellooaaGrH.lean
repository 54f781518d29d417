/- Grids: the stops of a cell: walked. -/
import Derived.Test.YtehflakmellooaaGrG
namespace Go.Proofs.Ytehflakmellooaa.Ne
open Go.RowKit Go.V Go.Proofs
open Go.Maps (Keyed)

theorem GMap.looks {w : World} {b : Nat} {f : Int → Int → List Int} (h : GMap w b f) {x y : Int} (hx : Iok x) (hy : Iok y) :
    ∃ q : Hdr, ∀ w', Below w.heap.size w w' → (Instr.lookup 54 (.map (some b)) (Gr.cellV x y) false).run Try.prog w' = .ok (.slice q.a q.n q.cap) w' ∧ Sl icod w' q.a q.n q.cap (f x y) := by
  obtain ⟨n, D, U, h1, h2⟩ := h
  refine ⟨U x y, fun w' hb => ?_⟩
  have h1' := h1.kept (w' := w') (row := none) ⟨hb.os, hb.tape, hb.output, hb.size, fun i hi _ => hb.block i hi⟩ (by simp)
  obtain ⟨v, ps, r1, r2⟩ := h1'.lookup (Keyed.of_law Gr.lawCell) Try.underlying54 (zero_ints w') (show Gr.heldR noRow = some (.held noRow, []) from rfl) (key_of hx hy)
  obtain ⟨h3, h4⟩ := h2 x y hx hy
  rw [h3] at r2
  unfold Gr.heldR at r2
  cases r2
  exact ⟨r1, h4.below hb⟩

set_option maxHeartbeats 4000000 in
theorem grcell_any (g : Nat) (hs : Hdr) (z : Int) (b : Nat) (f : Int → Int → List Int) (x y : Int) (w : World) (h : GBox w g hs z b) (hm : GMap w b f) (hx : Iok x) (hy : Iok y) (hl : (f x y).length ≤ 1000000) :
    Calls Try.prog 8 #[gP g, Gr.cellV x y] w fun e w' => ∃ v, e = .returned v ∧ V.Own 3 icod w.heap.size w' v (f x y) ∧ Below w.heap.size w w' := by
  obtain ⟨q, hq⟩ := hm.looks hx hy
  have HQ := Lib.hid hq
  have HB0 : Hid (Below w.heap.size w (w.alloc (.cells #[.int .i64 x, .int .i64 y] 34))) := (Below.refl _ _).alloc (Nat.le_refl _) _
  have HB1 : Hid (Below w.heap.size w (w.alloc (.cells #[.int .i64 x, .int .i64 y] 34)).drew) := Below.drew HB0.out
  have HN := Lib.hid ((hq _ HB0.out).2.hlen)
  have HX0 := Lib.hid (box_new w (.cells #[.int .i64 x, .int .i64 y] 34))
  have HG0 := Lib.hid (h.below HB0.out)
  have hgr := gris_any g hs z b _ HG0.out
  have HI := Lib.hid hgr
  clear hq hgr
  go_enter Try.func8, Try.ntmps8
  go_upto_region 3 with (go_at_call 16; refine HI.out.mono ?_; rintro e w1 ⟨rfl, rfl⟩)
  obtain ⟨h0, h1, h2, h3⟩ := HG0.out.cells
  obtain ⟨y0, y1, -, -⟩ := box2_cells HX0.out
  have HK : Hid (∀ w', Below (w.alloc (.cells #[.int .i64 x, .int .i64 y] 34)).heap.size (w.alloc (.cells #[.int .i64 x, .int .i64 y] 34)) w' → w'.cell? ⟨g, 2, none⟩ = some (.map (some b)) ∧ w'.cell? ⟨w.heap.size, 0, none⟩ = some (.int .i64 x) ∧ w'.cell? ⟨w.heap.size, 1, none⟩ = some (.int .i64 y) ∧ (Instr.lookup 54 (.map (some b)) (.agg #[.int .i64 x, .int .i64 y]) false).run Try.prog w' = .ok (.slice q.a q.n q.cap) w') := fun w' hb => ⟨((hb.cell (p := ⟨g, 2, none⟩) h0).trans h3), ((hb.cell (p := ⟨w.heap.size, 0, none⟩) (by simp)).trans y0), ((hb.cell (p := ⟨w.heap.size, 1, none⟩) (by simp)).trans y1), (HQ.out _ (HB0.out.trans (hb.mono (by simp)))).1⟩
  go_region_held3 (fun w' => w'.cell? ⟨g, 2, none⟩ = some (.map (some b)) ∧ w'.cell? ⟨w.heap.size, 0, none⟩ = some (.int .i64 x) ∧ w'.cell? ⟨w.heap.size, 1, none⟩ = some (.int .i64 y) ∧ (Instr.lookup 54 (.map (some b)) (.agg #[.int .i64 x, .int .i64 y]) false).run Try.prog w' = .ok (.slice q.a q.n q.cap) w') (first | exact HK.out _ (Below.refl _ _) | exact HK.out _ (Below.drew (Below.refl _ _)) | exact HK.out _ ((Below.drew (Below.refl _ _)).trans HC1.out)) (first | (go_at_call 21; go_fit (iclone_any q.a q.n q.cap (f x y) _ (by have := HN.out; omega) (HQ.out _ HB1.out).2); rintro e w1 ⟨v, rfl, ho1, hb1⟩; have HO1 := Lib.hid ho1; have HC1 := Lib.hid hb1; clear ho1 hb1))
  all_goals
    go_wp2_with fail
    go_ret
    exact ⟨_, rfl, HO1.out.lower (by simp), HB1.out.trans (HC1.out.mono HB1.out.size)⟩
set_option maxHeartbeats 400000 in
theorem grcelln_any (x y : Int) (w : World) :
    Calls Try.prog 8 #[.pointer none, Gr.cellV x y] w fun e w' => e = .returned (.slice none 0 0) ∧ Below w.heap.size w w' := by
  go_enter Try.func8, Try.ntmps8
  go_wp2_with (go_at_call 16; refine (grisn_any _).mono ?_; rintro e w1 ⟨rfl, rfl⟩)
  go_ret
  exact ⟨rfl, (Below.refl _ _).alloc (Nat.le_refl _) _⟩
end Go.Proofs.Ytehflakmellooaa.Ne
