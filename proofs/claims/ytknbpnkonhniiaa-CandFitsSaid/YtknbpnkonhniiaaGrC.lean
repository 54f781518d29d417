/- Grids: cells, lengths; the document's square: walked. -/
import Derived.Test.YtknbpnkonhniiaaGrB
import Derived.Test.YtknbpnkonhniiaaGrA
namespace Go.Proofs.Ytknbpnkonhniiaa.Ne
open Go.RowKit Go.V Go.Proofs

theorem box_drew {w : World} {g : Nat} {o : Obj} (h : w.heap[g]? = some o) : w.drew.heap[g]? = some o := h
theorem box2_put {w : World} {g : Nat} {e : TypeId} {u0 u1 : Value} (h : w.heap[g]? = some (.cells #[u0, u1] e (0, 0))) (v0 v1 : Value) : ((w.setCell ⟨g, 0, none⟩ v0).setCell ⟨g, 1, none⟩ v1).heap[g]? = some (.cells #[v0, v1] e (0, 0)) := by
  have h1 := heap_setCell_same w g 0 _ e v0 h
  have h2 := heap_setCell_same _ g 1 _ e v1 h1
  rw [h2]; rfl
theorem below_put2 {w wr : World} {B g : Nat} (hb : Below B w wr) (hg : B ≤ g) (v0 v1 : Value) : Below B w ((wr.setCell ⟨g, 0, none⟩ v0).setCell ⟨g, 1, none⟩ v1) :=
  (hb.setCell (p := ⟨g, 0, none⟩) hg v0).setCell (p := ⟨g, 1, none⟩) hg v1
def GBox (w : World) (g : Nat) (hs : Hdr) (z : Int) (b : Nat) : Prop := w.heap[g]? = some (.cells #[.slice hs.a hs.n hs.cap, .int .i64 z, .map (some b)] 66 (0, 0))
theorem GBox.below {w w' : World} {g : Nat} {hs : Hdr} {z : Int} {b : Nat} (h : GBox w g hs z b) (hb : Below w.heap.size w w') : GBox w' g hs z b := box_below h hb
theorem GBox.cells {w : World} {g : Nat} {hs : Hdr} {z : Int} {b : Nat} (h : GBox w g hs z b) : g < w.heap.size ∧ w.cell? ⟨g, 0, none⟩ = some (.slice hs.a hs.n hs.cap) ∧ w.cell? ⟨g, 1, none⟩ = some (.int .i64 z) ∧ w.cell? ⟨g, 2, none⟩ = some (.map (some b)) :=
  ⟨box_lt h, (box_cell h 0).1, (box_cell h 1).1, (box_cell h 2).1⟩
abbrev gP (g : Nat) : Value := .pointer (some ⟨g, 0, none⟩)

set_option maxHeartbeats 400000 in
theorem gris_any (g : Nat) (hs : Hdr) (z : Int) (b : Nat) (w : World) (h : GBox w g hs z b) :
    Calls Try.prog 37 #[gP g] w fun e w' => e = .returned (.bool true) ∧ w = w' := by
  obtain ⟨h0, h1, h2, h3⟩ := h.cells
  have qT : ∀ (w : World) (r : Option Nat), (binOp .neq 64 (.map r) (.map none)).run Try.prog w = .ok (.bool (!r.isNone)) w := fun w r => run_neq_map_nil w _ _ _ r Try.underlying64
  go_enter Try.func37, Try.ntmps37
  go_wp2_with fail
  go_ret
  exact ⟨rfl, rfl⟩
set_option maxHeartbeats 400000 in
theorem grisn_any (w : World) :
    Calls Try.prog 37 #[.pointer none] w fun e w' => e = .returned (.bool false) ∧ w = w' := by
  go_enter Try.func37, Try.ntmps37
  go_wp2_with fail
  go_ret
  exact ⟨rfl, rfl⟩
set_option maxHeartbeats 400000 in
theorem grlen_any (g : Nat) (hs : Hdr) (z : Int) (b : Nat) (w : World) (h : GBox w g hs z b) :
    Calls Try.prog 27 #[gP g] w fun e w' => e = .returned (.int .i64 hs.n) ∧ w = w' := by
  obtain ⟨h0, h1, h2, h3⟩ := h.cells
  go_enter Try.func27, Try.ntmps27
  go_wp2_with (go_at_call 37; refine (gris_any g hs z b _ h).mono ?_; rintro e w1 ⟨rfl, rfl⟩)
  go_ret
  exact ⟨rfl, rfl⟩
set_option maxHeartbeats 400000 in
theorem grlenn_any (w : World) :
    Calls Try.prog 27 #[.pointer none] w fun e w' => e = .returned (.int .i64 0) ∧ w = w' := by
  go_enter Try.func27, Try.ntmps27
  go_wp2_with (go_at_call 37; refine (grisn_any _).mono ?_; rintro e w1 ⟨rfl, rfl⟩)
  go_ret
  exact ⟨rfl, rfl⟩
set_option maxHeartbeats 1000000 in
theorem grat_any (g : Nat) (hs : Hdr) (z : Int) (b : Nat) (x y : Int) (w : World) (h : GBox w g hs z b) (hz : 1 ≤ z) (hx : 0 ≤ x ∧ x < 67108864) (hy : 0 ≤ y ∧ y < 67108864) :
    Calls Try.prog 26 #[gP g, .int .i64 x, .int .i64 y] w fun e w' => e = .returned (.agg #[.int .i64 (x / z), .int .i64 (y / z)]) ∧ Below w.heap.size w w' := by
  obtain ⟨h0, h1, h2, h3⟩ := h.cells
  obtain ⟨x0, x1⟩ := hx
  obtain ⟨y0, y1⟩ := hy
  have HB0 : Hid (Below w.heap.size w (w.alloc (.cells #[.int .i64 0, .int .i64 0] 67))) := (Below.refl _ _).alloc (Nat.le_refl _) _
  have HX0 := Lib.hid (box_new w (.cells #[.int .i64 0, .int .i64 0] 67))
  have hz0 : z ≠ 0 := by omega
  obtain ⟨cx, hcx⟩ : ∃ c, x / z = c := ⟨_, rfl⟩
  obtain ⟨cy, hcy⟩ : ∃ c, y / z = c := ⟨_, rfl⟩
  have bx : 0 ≤ cx ∧ cx < 67108864 := by rw [← hcx]; exact ⟨Int.ediv_nonneg x0 (by omega), by have := Int.ediv_le_self z x0; omega⟩
  have bY : 0 ≤ cy ∧ cy < 67108864 := by rw [← hcy]; exact ⟨Int.ediv_nonneg y0 (by omega), by have := Int.ediv_le_self z y0; omega⟩
  have hwx : IntKind.i64.wrap (x.tdiv z) = cx := by rw [Int.tdiv_eq_ediv_of_nonneg x0, hcx, IntKind.wrap_i64]; omega
  have hwy : IntKind.i64.wrap (y.tdiv z) = cy := by rw [Int.tdiv_eq_ediv_of_nonneg y0, hcy, IntKind.wrap_i64]; omega
  have hn1 := World.new_ne w ⟨g, 1, none⟩ h2
  go_enter Try.func26, Try.ntmps26
  go_upto_region 1 with fail
  go_region_held3 (fun w' => w'.cell? ⟨g, 1, none⟩ = some (.int .i64 z)) (go_keep) (fail)
  all_goals
    go_wp2_with fail
    try simp only [hwx, hwy]
    refine bodyPost_ret (results_cell_row rfl _ _ w.heap.size _ _ _ _ rfl (box_drew (box_new w _)) Try.underlying67 rfl (by kernel_rfl)) rfl ?_
    exact ⟨rfl, Below.drew ((Below.refl _ _).alloc (Nat.le_refl _) _)⟩
end Go.Proofs.Ytknbpnkonhniiaa.Ne
