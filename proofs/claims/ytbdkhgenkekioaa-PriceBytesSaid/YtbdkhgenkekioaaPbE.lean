/- Tariffs out of bytes: the document's Take, walked (printed by gen_XPbD.py). -/
import Derived.Test.YtbdkhgenkekioaaPbD
import Derived.Test.YtbdkhgenkekioaaWiZ
import Derived.Test.YtbdkhgenkekioaaWiO
namespace Go.Proofs.Ytbdkhgenkekioaa.Pb
open Go.RowKit Go.V Go.Proofs Go.Sort Go.Proofs.Ytbdkhgenkekioaa.Wi
open Go.Proofs.Ytbdkhgenkekioaa.Ne (box_alloc box_new box_cell box_below box_lt box2_cells)

structure PR (w1 W : World) (g y : Nat) (va : Option Addr) (vn vc : Nat) (c : List Int) (s : Rs) (tt : Tar) (bv sv rv : Value) : Prop where
  rd : Rb W g va vn vc s.1 s.2
  hat : s.1 ≤ vn
  bx : W.heap[y]? = some (.cells #[.int .i64 tt.ver, bv, .int .i64 tt.over, .int .i64 tt.full, sv, .int .i64 tt.unit, .int .i64 tt.window, .int .i64 tt.chain, rv] 61 (0, 0))
  b : V.Own 112 Pair.cod (y + 1) W bv tt.bands
  s : V.Own 3 icod (y + 1) W sv tt.shares
  r : V.Own 114 Pair.cod (y + 1) W rv tt.rungs
  bl : Below g w1 W
  sz : w1.heap.size = g
  gy : g < y
  sl : Sl bcod w1 va vn vc c
section
variable {w1 W W' : World} {g y : Nat} {va : Option Addr} {vn vc : Nat} {c : List Int} {s : Rs} {tt : Tar} {bv sv rv : Value}
theorem PR.grown (h : PR w1 W g y va vn vc c s tt bv sv rv) (hg : W.grownBy W' (some g)) {s' : Rs} (hr : Rb W' g va vn vc s'.1 s'.2) (ha : s'.1 ≤ vn) : PR w1 W' g y va vn vc c s' tt bv sv rv :=
  ⟨hr, ha, (hg.block y (box_lt h.bx) (fun q => by have := Option.some.inj q; have := h.gy; omega)).trans h.bx, h.b.kept hg (own_lt_ne h.b (by have := h.gy; omega)), h.s.kept hg (own_lt_ne h.s (by have := h.gy; omega)), h.r.kept hg (own_lt_ne h.r (by have := h.gy; omega)),
    h.bl.grown hg (by have := h.sz; have := h.bl.size; omega) (fun k hk => by have := Option.some.inj hk; omega), h.sz, h.gy, h.sl⟩
theorem PR.drew (h : PR w1 W g y va vn vc c s tt bv sv rv) : PR w1 W.drew g y va vn vc c s tt bv sv rv := h.grown (drew_grown W _) h.rd h.hat
theorem PR.below (h : PR w1 W g y va vn vc c s tt bv sv rv) (hb : Below W.heap.size W W') : PR w1 W' g y va vn vc c s tt bv sv rv :=
  ⟨(hb.block g (box_lt h.rd)).trans h.rd, h.hat, (hb.block y (box_lt h.bx)).trans h.bx, h.b.below hb, h.s.below hb, h.r.below hb, h.bl.trans (hb.mono (by have := box_lt h.rd; omega)), h.sz, h.gy, h.sl⟩
theorem PR.alloc (h : PR w1 W g y va vn vc c s tt bv sv rv) (o : Obj) : PR w1 (W.alloc o) g y va vn vc c s tt bv sv rv := h.below ((Below.refl _ _).alloc (Nat.le_refl _) _)
theorem PR.num (h : PR w1 W g y va vn vc c s tt bv sv rv) (hB : Byt c) (hn : vn ≤ 1000000000) (most : Int) (h0 : 0 ≤ most) (h1 : most < 9223372036854775808) :
    Calls Try.prog 67 #[.pointer (some ⟨g, 0, none⟩), .int .i64 most] W fun e W' => e = .returned (.int .i64 (rdN c most s.1 s.2).1) ∧ PR w1 W' g y va vn vc c (rdN c most s.1 s.2).2 tt bv sv rv ∧ W.grownBy W' (some g) := by
  have := h0
  have := h1
  refine (rrnum_any g va vn vc s.1 s.2 most c W h.rd (h.sl.below (by have := h.bl; rw [← h.sz] at this; exact this)) hB hn h.hat h0 h1).mono ?_
  rintro e W' ⟨rfl, hr, hg⟩
  exact ⟨rfl, h.grown hg hr (by rw [h.sl.hlen]; exact rdN_at hB (by rw [← h.sl.hlen]; exact h.hat)), hg⟩
theorem PR.apart (h : PR w1 W g y va vn vc c s tt bv sv rv) : (bv.ownBlock = none ∨ bv.ownBlock ≠ some W.heap.size) ∧ (sv.ownBlock = none ∨ sv.ownBlock ≠ some W.heap.size) ∧ (rv.ownBlock = none ∨ rv.ownBlock ≠ some W.heap.size) :=
  ⟨.inr (fun q => by have := (World.ownsRow.lt h.b _ q).2; omega), .inr (fun q => by have := (World.ownsRow.lt h.s _ q).2; omega), .inr (fun q => by have := (World.ownsRow.lt h.r _ q).2; omega)⟩
theorem PR.set (h : PR w1 W g y va vn vc c s tt bv sv rv) {z : Nat} (hz : y < z) (ha : (bv.ownBlock = none ∨ bv.ownBlock ≠ some z) ∧ (sv.ownBlock = none ∨ sv.ownBlock ≠ some z) ∧ (rv.ownBlock = none ∨ rv.ownBlock ≠ some z)) (i : Nat) (v : Value) : PR w1 (W.setCell ⟨z, i, none⟩ v) g y va vn vc c s tt bv sv rv :=
  ⟨(heap_setCell_other W ⟨z, i, none⟩ g v (by show g ≠ z; have := h.gy; omega)).trans h.rd, h.hat, (heap_setCell_other W ⟨z, i, none⟩ y v (by show y ≠ z; omega)).trans h.bx, h.b.kept (set_grown W z i v) ha.1, h.s.kept (set_grown W z i v) ha.2.1, h.r.kept (set_grown W z i v) ha.2.2,
    h.bl.setCell (p := ⟨z, i, none⟩) (by show g ≤ z; have := h.gy; omega) _, h.sz, h.gy, h.sl⟩
theorem PR.over (h : PR w1 W g y va vn vc c s tt bv sv rv) (n : Int) : PR w1 (W.setCell ⟨y, 2, none⟩ (.int .i64 n)) g y va vn vc c s { tt with over := n } bv sv rv :=
  ⟨(heap_setCell_other W ⟨y, 2, none⟩ g _ (by show g ≠ y; have := h.gy; omega)).trans h.rd, h.hat, heap_setCell_same W y 2 _ _ _ h.bx, h.b.kept (set_grown W y 2 _) (own_lt_ne h.b (by omega)), h.s.kept (set_grown W y 2 _) (own_lt_ne h.s (by omega)), h.r.kept (set_grown W y 2 _) (own_lt_ne h.r (by omega)),
    h.bl.setCell (p := ⟨y, 2, none⟩) (by show g ≤ y; have := h.gy; omega) _, h.sz, h.gy, h.sl⟩
theorem PR.full (h : PR w1 W g y va vn vc c s tt bv sv rv) (n : Int) : PR w1 (W.setCell ⟨y, 3, none⟩ (.int .i64 n)) g y va vn vc c s { tt with full := n } bv sv rv :=
  ⟨(heap_setCell_other W ⟨y, 3, none⟩ g _ (by show g ≠ y; have := h.gy; omega)).trans h.rd, h.hat, heap_setCell_same W y 3 _ _ _ h.bx, h.b.kept (set_grown W y 3 _) (own_lt_ne h.b (by omega)), h.s.kept (set_grown W y 3 _) (own_lt_ne h.s (by omega)), h.r.kept (set_grown W y 3 _) (own_lt_ne h.r (by omega)),
    h.bl.setCell (p := ⟨y, 3, none⟩) (by show g ≤ y; have := h.gy; omega) _, h.sz, h.gy, h.sl⟩
theorem PR.unit (h : PR w1 W g y va vn vc c s tt bv sv rv) (n : Int) : PR w1 (W.setCell ⟨y, 5, none⟩ (.int .i64 n)) g y va vn vc c s { tt with unit := n } bv sv rv :=
  ⟨(heap_setCell_other W ⟨y, 5, none⟩ g _ (by show g ≠ y; have := h.gy; omega)).trans h.rd, h.hat, heap_setCell_same W y 5 _ _ _ h.bx, h.b.kept (set_grown W y 5 _) (own_lt_ne h.b (by omega)), h.s.kept (set_grown W y 5 _) (own_lt_ne h.s (by omega)), h.r.kept (set_grown W y 5 _) (own_lt_ne h.r (by omega)),
    h.bl.setCell (p := ⟨y, 5, none⟩) (by show g ≤ y; have := h.gy; omega) _, h.sz, h.gy, h.sl⟩
theorem PR.window (h : PR w1 W g y va vn vc c s tt bv sv rv) (n : Int) : PR w1 (W.setCell ⟨y, 6, none⟩ (.int .i64 n)) g y va vn vc c s { tt with window := n } bv sv rv :=
  ⟨(heap_setCell_other W ⟨y, 6, none⟩ g _ (by show g ≠ y; have := h.gy; omega)).trans h.rd, h.hat, heap_setCell_same W y 6 _ _ _ h.bx, h.b.kept (set_grown W y 6 _) (own_lt_ne h.b (by omega)), h.s.kept (set_grown W y 6 _) (own_lt_ne h.s (by omega)), h.r.kept (set_grown W y 6 _) (own_lt_ne h.r (by omega)),
    h.bl.setCell (p := ⟨y, 6, none⟩) (by show g ≤ y; have := h.gy; omega) _, h.sz, h.gy, h.sl⟩
theorem PR.chain (h : PR w1 W g y va vn vc c s tt bv sv rv) (n : Int) : PR w1 (W.setCell ⟨y, 7, none⟩ (.int .i64 n)) g y va vn vc c s { tt with chain := n } bv sv rv :=
  ⟨(heap_setCell_other W ⟨y, 7, none⟩ g _ (by show g ≠ y; have := h.gy; omega)).trans h.rd, h.hat, heap_setCell_same W y 7 _ _ _ h.bx, h.b.kept (set_grown W y 7 _) (own_lt_ne h.b (by omega)), h.s.kept (set_grown W y 7 _) (own_lt_ne h.s (by omega)), h.r.kept (set_grown W y 7 _) (own_lt_ne h.r (by omega)),
    h.bl.setCell (p := ⟨y, 7, none⟩) (by show g ≤ y; have := h.gy; omega) _, h.sz, h.gy, h.sl⟩
theorem PR.app_b (h : PR w1 W g y va vn vc c s tt bv sv rv) (o : Obj) {W4 : World} {bv' : Value} {xs' : List Pair} (ho : V.Own 112 Pair.cod (y + 1) W4 bv' xs') (hg : (W.alloc o).grownBy W4 bv.ownBlock) :
    PR w1 (W4.setCell ⟨y, 1, none⟩ bv') g y va vn vc c s { tt with bands := xs' } bv' sv rv := by
  have hgy := h.gy
  have hba := box_alloc (o := o) h.bx
  have hra := box_alloc (o := o) h.rd
  have hnb : ∀ k, k < y + 1 → some k ≠ bv.ownBlock := fun k hk q => by have := (World.ownsRow.lt h.b k q.symm).1; omega
  have hb4 : W4.heap[y]? = some (.cells #[.int .i64 tt.ver, bv, .int .i64 tt.over, .int .i64 tt.full, sv, .int .i64 tt.unit, .int .i64 tt.window, .int .i64 tt.chain, rv] 61 (0, 0)) := (hg.block y (box_lt hba) (hnb y (by omega))).trans hba
  have hr4 : W4.heap[g]? = _ := (hg.block g (box_lt hra) (hnb g (by omega))).trans hra
  have hs := set_grown W4 y 1 bv'
  refine ⟨?_, h.hat, heap_setCell_same W4 y 1 _ _ _ hb4, ho.kept hs (own_lt_ne ho (by omega)), ((h.s.alloc o).kept hg (own_apart (h.s.alloc o) (h.b.alloc o) (by decide))).kept hs (own_lt_ne h.s (by omega)), ((h.r.alloc o).kept hg (own_apart (h.r.alloc o) (h.b.alloc o) (by decide))).kept hs (own_lt_ne h.r (by omega)), ?_, h.sz, hgy, h.sl⟩
  · exact (heap_setCell_other W4 ⟨y, 1, none⟩ g bv' (by show g ≠ y; omega)).trans hr4
  · have hb1 : Below g w1 (W.alloc o) := h.bl.alloc (by have := h.sz; have := h.bl.size; omega) o
    have hb2 : Below g w1 W4 := hb1.grown hg (by have := h.sz; have := hb1.size; omega) (fun k hk => by have := (World.ownsRow.lt h.b k hk).1; omega)
    exact hb2.setCell (p := ⟨y, 1, none⟩) (by show g ≤ y; omega) _
theorem PR.app_s (h : PR w1 W g y va vn vc c s tt bv sv rv) (o : Obj) {W4 : World} {sv' : Value} {xs' : List Int} (ho : V.Own 3 icod (y + 1) W4 sv' xs') (hg : (W.alloc o).grownBy W4 sv.ownBlock) :
    PR w1 (W4.setCell ⟨y, 4, none⟩ sv') g y va vn vc c s { tt with shares := xs' } bv sv' rv := by
  have hgy := h.gy
  have hba := box_alloc (o := o) h.bx
  have hra := box_alloc (o := o) h.rd
  have hnb : ∀ k, k < y + 1 → some k ≠ sv.ownBlock := fun k hk q => by have := (World.ownsRow.lt h.s k q.symm).1; omega
  have hb4 : W4.heap[y]? = some (.cells #[.int .i64 tt.ver, bv, .int .i64 tt.over, .int .i64 tt.full, sv, .int .i64 tt.unit, .int .i64 tt.window, .int .i64 tt.chain, rv] 61 (0, 0)) := (hg.block y (box_lt hba) (hnb y (by omega))).trans hba
  have hr4 : W4.heap[g]? = _ := (hg.block g (box_lt hra) (hnb g (by omega))).trans hra
  have hs := set_grown W4 y 4 sv'
  refine ⟨?_, h.hat, heap_setCell_same W4 y 4 _ _ _ hb4, ((h.b.alloc o).kept hg (own_apart (h.b.alloc o) (h.s.alloc o) (by decide))).kept hs (own_lt_ne h.b (by omega)), ho.kept hs (own_lt_ne ho (by omega)), ((h.r.alloc o).kept hg (own_apart (h.r.alloc o) (h.s.alloc o) (by decide))).kept hs (own_lt_ne h.r (by omega)), ?_, h.sz, hgy, h.sl⟩
  · exact (heap_setCell_other W4 ⟨y, 4, none⟩ g sv' (by show g ≠ y; omega)).trans hr4
  · have hb1 : Below g w1 (W.alloc o) := h.bl.alloc (by have := h.sz; have := h.bl.size; omega) o
    have hb2 : Below g w1 W4 := hb1.grown hg (by have := h.sz; have := hb1.size; omega) (fun k hk => by have := (World.ownsRow.lt h.s k hk).1; omega)
    exact hb2.setCell (p := ⟨y, 4, none⟩) (by show g ≤ y; omega) _
theorem PR.app_r (h : PR w1 W g y va vn vc c s tt bv sv rv) (o : Obj) {W4 : World} {rv' : Value} {xs' : List Pair} (ho : V.Own 114 Pair.cod (y + 1) W4 rv' xs') (hg : (W.alloc o).grownBy W4 rv.ownBlock) :
    PR w1 (W4.setCell ⟨y, 8, none⟩ rv') g y va vn vc c s { tt with rungs := xs' } bv sv rv' := by
  have hgy := h.gy
  have hba := box_alloc (o := o) h.bx
  have hra := box_alloc (o := o) h.rd
  have hnb : ∀ k, k < y + 1 → some k ≠ rv.ownBlock := fun k hk q => by have := (World.ownsRow.lt h.r k q.symm).1; omega
  have hb4 : W4.heap[y]? = some (.cells #[.int .i64 tt.ver, bv, .int .i64 tt.over, .int .i64 tt.full, sv, .int .i64 tt.unit, .int .i64 tt.window, .int .i64 tt.chain, rv] 61 (0, 0)) := (hg.block y (box_lt hba) (hnb y (by omega))).trans hba
  have hr4 : W4.heap[g]? = _ := (hg.block g (box_lt hra) (hnb g (by omega))).trans hra
  have hs := set_grown W4 y 8 rv'
  refine ⟨?_, h.hat, heap_setCell_same W4 y 8 _ _ _ hb4, ((h.b.alloc o).kept hg (own_apart (h.b.alloc o) (h.r.alloc o) (by decide))).kept hs (own_lt_ne h.b (by omega)), ((h.s.alloc o).kept hg (own_apart (h.s.alloc o) (h.r.alloc o) (by decide))).kept hs (own_lt_ne h.s (by omega)), ho.kept hs (own_lt_ne ho (by omega)), ?_, h.sz, hgy, h.sl⟩
  · exact (heap_setCell_other W4 ⟨y, 8, none⟩ g rv' (by show g ≠ y; omega)).trans hr4
  · have hb1 : Below g w1 (W.alloc o) := h.bl.alloc (by have := h.sz; have := h.bl.size; omega) o
    have hb2 : Below g w1 W4 := hb1.grown hg (by have := h.sz; have := hb1.size; omega) (fun k hk => by have := (World.ownsRow.lt h.r k hk).1; omega)
    exact hb2.setCell (p := ⟨y, 8, none⟩) (by show g ≤ y; omega) _
end

set_option maxHeartbeats 8000000 in
set_option maxRecDepth 100000 in
theorem rtaket_any (a : Option Addr) (n cap : Nat) (b : List Int) (w : World) (h : Sl bcod w a n cap b) (hB : Byt b) (hn : n ≤ 1000000) :
    Calls Try.prog 34 #[.slice a n cap] w fun e w' => ∃ hb hs hr, e = .returned (.tuple #[(takeT b).1.val hb hs hr, .int .i64 (takeT b).2]) ∧ TarIn w' (takeT b).1 hb hs hr ∧ Below w.heap.size w w' := by
  have HLN : Hid (n = b.length) := h.hlen
  have HS := Lib.hid h
  have HB0 : Hid (Below w.heap.size w (w.alloc (.cells #[.int .i64 0, .slice none 0 0, .int .i64 0, .int .i64 0, .slice none 0 0, .int .i64 0, .int .i64 0, .int .i64 0, .slice none 0 0] 61))) := (Below.refl _ _).alloc (Nat.le_refl _) _
  have HZ0 : Hid ((w.alloc (.cells #[.int .i64 0, .slice none 0 0, .int .i64 0, .int .i64 0, .slice none 0 0, .int .i64 0, .int .i64 0, .int .i64 0, .slice none 0 0] 61)).heap[w.heap.size]? = some (.cells #[.int .i64 0, .slice none 0 0, .int .i64 0, .int .i64 0, .slice none 0 0, .int .i64 0, .int .i64 0, .int .i64 0, .slice none 0 0] 61 (0, 0))) := box_new _ _
  have HSUB := Lib.hid (wholeF_sub 4 hB)
  have HW := Lib.hid (rwhole_any 4 a n cap b (w.alloc (.cells #[.int .i64 0, .slice none 0 0, .int .i64 0, .int .i64 0, .slice none 0 0, .int .i64 0, .int .i64 0, .int .i64 0, .slice none 0 0] 61)) (HS.out.below HB0.out) hB (by omega))
  obtain ⟨C, hC⟩ : ∃ C, wholeF 4 b = C := ⟨_, rfl⟩
  rw [hC] at HW HSUB
  obtain ⟨c, ce⟩ := C
  have HTN := Lib.hid (takeT_of hC)
  simp only [] at HW HSUB
  clear h hB hC
  by_cases h0 : ce = 0
  case neg =>
    have hd : (ce != 0) = true := by simpa using h0
    have HR : Hid (takeT b = (tar0, ce)) := by show _ = _; rw [HTN.out, if_pos h0]
    clear h0
    go_enter Try.func34, Try.ntmps34
    go_upto_region 3 with (go_at_call 82; go_loud (refine HW.out.mono ?_); rintro e w1 ⟨va, vn, vc, rfl, -, -, hb1⟩; have HB1 := Lib.hid (HB0.out.trans (hb1.mono HB0.out.size)); have HZ1 := Lib.hid (box_below HZ0.out hb1); clear hb1)
    have z0 : w1.cell? ⟨w.heap.size, 0, none⟩ = some (.int .i64 0) := (box_cell HZ1.out 0).1
    have z0f : w1.frozen? ⟨w.heap.size, 0, none⟩ = false := (box_cell HZ1.out 0).2
    have z1 : w1.cell? ⟨w.heap.size, 1, none⟩ = some (.slice none 0 0) := (box_cell HZ1.out 1).1
    have z1f : w1.frozen? ⟨w.heap.size, 1, none⟩ = false := (box_cell HZ1.out 1).2
    have z2 : w1.cell? ⟨w.heap.size, 2, none⟩ = some (.int .i64 0) := (box_cell HZ1.out 2).1
    have z2f : w1.frozen? ⟨w.heap.size, 2, none⟩ = false := (box_cell HZ1.out 2).2
    have z3 : w1.cell? ⟨w.heap.size, 3, none⟩ = some (.int .i64 0) := (box_cell HZ1.out 3).1
    have z3f : w1.frozen? ⟨w.heap.size, 3, none⟩ = false := (box_cell HZ1.out 3).2
    have z4 : w1.cell? ⟨w.heap.size, 4, none⟩ = some (.slice none 0 0) := (box_cell HZ1.out 4).1
    have z4f : w1.frozen? ⟨w.heap.size, 4, none⟩ = false := (box_cell HZ1.out 4).2
    have z5 : w1.cell? ⟨w.heap.size, 5, none⟩ = some (.int .i64 0) := (box_cell HZ1.out 5).1
    have z5f : w1.frozen? ⟨w.heap.size, 5, none⟩ = false := (box_cell HZ1.out 5).2
    have z6 : w1.cell? ⟨w.heap.size, 6, none⟩ = some (.int .i64 0) := (box_cell HZ1.out 6).1
    have z6f : w1.frozen? ⟨w.heap.size, 6, none⟩ = false := (box_cell HZ1.out 6).2
    have z7 : w1.cell? ⟨w.heap.size, 7, none⟩ = some (.int .i64 0) := (box_cell HZ1.out 7).1
    have z7f : w1.frozen? ⟨w.heap.size, 7, none⟩ = false := (box_cell HZ1.out 7).2
    have z8 : w1.cell? ⟨w.heap.size, 8, none⟩ = some (.slice none 0 0) := (box_cell HZ1.out 8).1
    have z8f : w1.frozen? ⟨w.heap.size, 8, none⟩ = false := (box_cell HZ1.out 8).2
    go_wp2_with fail
    refine bodyPost_ret (results_row_tmp rfl _ _ w.heap.size _ _ _ _ rfl (box9_set HZ1.out _ _ _ _ _ _ _ _ _) Try.underlying61 rfl (by kernel_rfl)) rfl ?_
    rw [HR.out]
    exact ⟨⟨none, 0, 0⟩, ⟨none, 0, 0⟩, ⟨none, 0, 0⟩, rfl, tar0_in _, below_set9 HB1.out (Nat.le_refl _) _ _ _ _ _ _ _ _ _⟩
  subst h0
  rw [if_neg (by simp)] at HTN
  go_enter Try.func34, Try.ntmps34
  go_upto_region 4 with (go_at_call 82; go_loud (refine HW.out.mono ?_); rintro e w1 ⟨va, vn, vc, rfl, -, hsl1, hb1⟩; have HB1 := Lib.hid (HB0.out.trans (hb1.mono HB0.out.size)); have HZ1 := Lib.hid (box_below HZ0.out hb1); have HSL1 := Lib.hid hsl1; clear hb1 hsl1)
  have HVN : Hid (c.length = vn) := HSL1.out.hlen.symm
  have hvn : vn ≤ 1000000000 := by have := HSUB.out.2; have := HLN.out; have := HVN.out; omega
  have HBC := Lib.hid HSUB.out.1
  obtain ⟨v0, hv0⟩ : ∃ v0, rdN c 1048576 0 0 = v0 := ⟨_, rfl⟩
  have HV0 := Lib.hid hv0
  clear hv0
  go_upto_region 6 with (first
    | (go_at_call 66; go_loud (refine (rread_any va vn vc w1).mono ?_); rintro e w2 ⟨rfl, hf2, hb2⟩; have HF2 := Lib.hid hf2; have HB2 := Lib.hid hb2; clear hf2 hb2)
    | (go_at_call 67; go_loud (refine (rrnum_any w1.heap.size va vn vc 0 0 1048576 c w2 HF2.out (HSL1.out.below HB2.out) HBC.out hvn (Nat.zero_le _) (by omega) (by omega)).mono ?_); rintro e w3 ⟨rfl, hf3, hg3⟩; rw [HV0.out] at hf3 ⊢; have HF3 := Lib.hid hf3; have HG3 := Lib.hid hg3; clear hf3 hg3))
  have hgy : w1.heap.size < w3.heap.size := Nat.lt_of_lt_of_le (box_lt HF2.out) HG3.out.size
  have HG : Hid (PR w1 (w3.alloc (.cells #[.int .i64 v0.1, .slice none 0 0, .int .i64 0, .int .i64 0, .slice none 0 0, .int .i64 0, .int .i64 0, .int .i64 0, .slice none 0 0] 61)) w1.heap.size w3.heap.size va vn vc c v0.2 ⟨v0.1, [], 0, 0, [], 0, 0, 0, []⟩ (.slice none 0 0) (.slice none 0 0) (.slice none 0 0)) :=
    ⟨box_alloc HF3.out, by have := rdN_at (most := 1048576) (at_ := 0) (bad := 0) HBC.out (Nat.zero_le _); rw [HV0.out, HVN.out] at this; exact this, box_new _ _, Own.nil, Own.nil, Own.nil,
      (HB2.out.grown HG3.out HB2.out.size (fun k hk => by have := Option.some.inj hk; omega)).alloc (by omega) _, rfl, hgy, HSL1.out⟩
  obtain ⟨W, hW⟩ : ∃ W, w3.alloc (.cells #[.int .i64 v0.1, .slice none 0 0, .int .i64 0, .int .i64 0, .slice none 0 0, .int .i64 0, .int .i64 0, .int .i64 0, .slice none 0 0] 61) = W := ⟨_, rfl⟩
  obtain ⟨g, hg⟩ : ∃ g, w1.heap.size = g := ⟨_, rfl⟩
  obtain ⟨y, hy⟩ : ∃ y, w3.heap.size = y := ⟨_, rfl⟩
  rw [hW] at HG ⊢
  rw [hg] at HG hgy ⊢
  rw [hy] at HG hgy ⊢
  have HGE := Lib.hid hg
  clear hW hg hy HF2 HB2 HF3 HG3
  obtain ⟨K, hK, hK2⟩ := rdN_most c 64 v0.2.1 v0.2.2 (by omega)
  obtain ⟨kK, hkK⟩ : ∃ k, rdN c 64 v0.2.1 v0.2.2 = k := ⟨_, rfl⟩
  have HKE := Lib.hid hkK
  rw [hkK] at hK
  obtain ⟨kvK, ks⟩ := kK
  have hK : kvK = (K : Int) := hK
  subst hK
  clear hkK
  go_upto_region 8 with (go_at_call 67; go_loud (refine (HG.out.num HBC.out hvn 64 (by omega) (by omega)).mono ?_); rintro e W1 ⟨rfl, hg1, -⟩; rw [HKE.out] at hg1 ⊢; have HG1 := Lib.hid hg1; clear hg1)
  clear HG
  have HGBi := Lib.hid HG1.out.bl
  go_loopw [9] (fun vi wr => ∃ (i : Nat) (V1 : Value), vi = .int .i64 ((i : Nat) : Int) ∧ i ≤ K ∧ Hid (PR w1 wr g y va vn vc c (rdMany (rdPair c 4294967296 16777216) i ks).2 ⟨v0.1, (rdMany (rdPair c 4294967296 16777216) i ks).1, 0, 0, [], 0, 0, 0, []⟩ V1 (.slice none 0 0) (.slice none 0 0))) (fun vi _ => K - (intOf vi).toNat)
  case atStart => exact ⟨0, _, rfl, Nat.zero_le _, HG1.out⟩
  case round =>
    obtain ⟨i, V1, rfl, hi, HGIi⟩ := hrel
    have HSNi := Lib.hid (rdMany_snoc (rdPair c 4294967296 16777216) i ks)
    have HLNi := Lib.hid (rdMany_len (rdPair c 4294967296 16777216) i ks)
    obtain ⟨Ri, hRi⟩ : ∃ R, rdMany (rdPair c 4294967296 16777216) i ks = R := ⟨_, rfl⟩
    rw [hRi] at HGIi HSNi HLNi
    obtain ⟨bs, bt⟩ := Ri
    have HRIi := Lib.hid hRi
    simp only [] at HGIi HSNi HLNi
    clear hRi HG1
    by_cases hlt : i < K
    · have hii : (i : Int) < (K : Int) := by omega
      obtain ⟨x, hx⟩ : ∃ x, rdN c 4294967296 bt.1 bt.2 = x := ⟨_, rfl⟩
      have HX := Lib.hid hx
      obtain ⟨z, hz⟩ : ∃ z, rdN c 16777216 x.2.1 x.2.2 = z := ⟨_, rfl⟩
      have HZ := Lib.hid hz
      have HNX : Hid (rdMany (rdPair c 4294967296 16777216) (i + 1) ks = (bs ++ [⟨x.1, z.1⟩], z.2)) := by
        show _ = _
        rw [HSNi.out]; unfold rdPair; simp only []; rw [hx, hz]
      obtain ⟨da, dc, hdv, -, -⟩ := HGIi.out.b.slice
      replace hdv : V1 = .slice da bs.length dc := hdv
      rw [HLNi.out] at hdv
      subst hdv
      have HM1 : Hid (bs.length + 1 ≤ maxLen) := by show _ ≤ _; rw [HLNi.out]; unfold maxLen; omega
      have HM2 : Hid ((bs.length + 1) * 16 ≤ 140737488355328) := by show _ ≤ _; rw [HLNi.out]; omega
      have HLA : Hid ((bs ++ [(⟨x.1, z.1⟩ : Pair)]).length = i + 1) := by show _ = _; rw [List.length_append, HLNi.out]; rfl
      clear hx hz
      go_upto_region 11 with (go_at_call 67; go_loud (refine (HGIi.out.num HBC.out hvn 4294967296 (by omega) (by omega)).mono ?_); rintro e W2 ⟨rfl, hg2, -⟩; rw [HX.out] at hg2 ⊢; have HG2 := Lib.hid hg2; clear hg2)
      have HG2A := Lib.hid (HG2.out.alloc (.cells #[.int .i64 x.1, .int .i64 0] 112))
      have HBX2 := Lib.hid (box_new W2 (.cells #[.int .i64 x.1, .int .i64 0] 112))
      have HAP := Lib.hid HG2.out.apart
      have hyz : y < W2.heap.size := box_lt HG2.out.bx
      obtain ⟨V, hV⟩ : ∃ V, W2.alloc (.cells #[.int .i64 x.1, .int .i64 0] 112) = V := ⟨_, rfl⟩
      obtain ⟨bq, hbq⟩ : ∃ bq, W2.heap.size = bq := ⟨_, rfl⟩
      rw [hV] at HG2A HBX2 ⊢
      rw [hbq] at HBX2 HAP hyz ⊢
      clear hV hbq
      go_upto_region 12 with (go_at_call 67; go_loud (refine (HG2A.out.num HBC.out hvn 16777216 (by omega) (by omega)).mono ?_); rintro e W3 ⟨rfl, hg3, hw3⟩; rw [HZ.out] at hg3 ⊢; have HG3 := Lib.hid hg3; have HBX3 := Lib.hid ((hw3.block bq (box_lt HBX2.out) (fun e => by have := Option.some.inj e; have := HG2A.out.gy; omega)).trans HBX2.out); obtain ⟨-, k1, -, k2⟩ := box2_cells HBX3.out; clear hg3 hw3)
      clear k1 k2
      have HG4 := Lib.hid (HG3.out.set hyz HAP.out 1 (.int .i64 z.1))
      have HBX4 : Hid ((W3.setCell ⟨bq, 1, none⟩ (.int .i64 z.1)).heap[bq]? = some (.cells #[.int .i64 x.1, .int .i64 z.1] 112 (0, 0))) := heap_setCell_same W3 bq 1 _ _ _ HBX3.out
      obtain ⟨V4, hV4⟩ : ∃ V, W3.setCell ⟨bq, 1, none⟩ (.int .i64 z.1) = V := ⟨_, rfl⟩
      rw [hV4] at HG4 HBX4 ⊢
      clear hV4
      obtain ⟨k0, k1, -, -⟩ := box2_cells HBX4.out
      have c1 : V4.cell? ⟨y, 1, none⟩ = some (.slice da i dc) := (box_cell HG4.out.bx 1).1
      have hy4 := box_lt HG4.out.bx
      go_wp2_with (at_builtin; go_loud (refine wpList_app_at eltBand rfl (.tmp 42) (.tmp 44) rfl (.slice da i dc) bs rfl (HG4.out.b.alloc _) _ 1 1 [⟨x.1, z.1⟩] rfl (sl_new (c := Pair.cod) V4 #[.int .i64 x.1, .int .i64 z.1] 112 [⟨x.1, z.1⟩] 1 rfl (by unfold maxLen; omega) rfl) HM1.out HM2.out (by have := box_lt HG4.out.bx; simp; omega) ?_); rintro v4 W4 ho4 hg4 -; obtain ⟨a4, k4, ev4, -⟩ := ho4.slice; rw [HLA.out] at ev4; subst ev4; have HO4 := Lib.hid ho4; have HG5 := Lib.hid hg4; have hb4 := (hg4.block y (by have := box_lt HG4.out.bx; simp; omega) (fun q => by have := (World.ownsRow.lt HG4.out.b y q.symm).1; omega)).trans (box_alloc HG4.out.bx); have c4 : W4.cell? ⟨y, 1, none⟩ = some (.slice da i dc) := (box_cell hb4 1).1; have f4 : W4.frozen? ⟨y, 1, none⟩ = false := (box_cell hb4 1).2; clear ho4 hg4 hb4)
      go_roundw
      case rel => exact ⟨i + 1, _, by go_num, by omega, by show PR _ _ _ _ _ _ _ _ _ _ _ _ _; rw [HNX.out]; exact HG4.out.app_b _ HO4.out HG5.out⟩
      case measure => simp [intOf]; omega
    · have hie : K = i := by omega
      subst hie
      have hii : ¬ (K : Int) < (K : Int) := by omega
      obtain ⟨o, ho⟩ : ∃ o, rdN c 16777216 bt.1 bt.2 = o := ⟨_, rfl⟩
      have HOE := Lib.hid ho
      clear ho
      obtain ⟨f, hf⟩ : ∃ f, rdN c 16777216 o.2.1 o.2.2 = f := ⟨_, rfl⟩
      have HFE := Lib.hid hf
      clear hf
      go_upto_region 13 with fail
      go_upto_region 14 with (go_at_call 67; go_loud (refine (HGIi.out.num HBC.out hvn 16777216 (by omega) (by omega)).mono ?_); rintro e U1 ⟨rfl, hgn, -⟩; rw [HOE.out] at hgn ⊢; have HN1 := Lib.hid hgn; have e2 : U1.cell? ⟨y, 2, none⟩ = some (.int .i64 0) := (box_cell hgn.bx 2).1; have e2f : U1.frozen? ⟨y, 2, none⟩ = false := (box_cell hgn.bx 2).2; clear hgn)
      clear e2 e2f
      have HM1 := Lib.hid (HN1.out.over o.1)
      obtain ⟨T1, hT1⟩ : ∃ U, U1.setCell ⟨y, 2, none⟩ (.int .i64 o.1) = U := ⟨_, rfl⟩
      rw [hT1] at HM1 ⊢
      clear hT1 HN1
      go_upto_region 15 with (go_at_call 67; go_loud (refine (HM1.out.num HBC.out hvn 16777216 (by omega) (by omega)).mono ?_); rintro e U2 ⟨rfl, hgn, -⟩; rw [HFE.out] at hgn ⊢; have HN2 := Lib.hid hgn; have e3 : U2.cell? ⟨y, 3, none⟩ = some (.int .i64 0) := (box_cell hgn.bx 3).1; have e3f : U2.frozen? ⟨y, 3, none⟩ = false := (box_cell hgn.bx 3).2; clear hgn)
      clear e3 e3f
      have HM2 := Lib.hid (HN2.out.full f.1)
      obtain ⟨T2, hT2⟩ : ∃ U, U2.setCell ⟨y, 3, none⟩ (.int .i64 f.1) = U := ⟨_, rfl⟩
      rw [hT2] at HM2 ⊢
      clear hT2 HN2
      obtain ⟨M, hM, hM2⟩ := rdN_most c 16 f.2.1 f.2.2 (by omega)
      obtain ⟨kM, hkM⟩ : ∃ k, rdN c 16 f.2.1 f.2.2 = k := ⟨_, rfl⟩
      have HME := Lib.hid hkM
      rw [hkM] at hM
      obtain ⟨kvM, ms⟩ := kM
      have hM : kvM = (M : Int) := hM
      subst hM
      clear hkM
      go_upto_region 17 with (go_at_call 67; go_loud (refine (HM2.out.num HBC.out hvn 16 (by omega) (by omega)).mono ?_); rintro e U4 ⟨rfl, hg1, -⟩; rw [HME.out] at hg1 ⊢; have HN4 := Lib.hid hg1; clear hg1)
      clear HM1 HM2
      have HGBj := Lib.hid HN4.out.bl
      go_loopw [11] (fun vi wr => ∃ (j : Nat) (V2 : Value), vi = .int .i64 ((j : Nat) : Int) ∧ j ≤ M ∧ Hid (PR w1 wr g y va vn vc c (rdMany (rdInt c 1000) j ms).2 ⟨v0.1, bs, o.1, f.1, (rdMany (rdInt c 1000) j ms).1, 0, 0, 0, []⟩ V1 V2 (.slice none 0 0))) (fun vi _ => M - (intOf vi).toNat)
      case atStart => exact ⟨0, _, rfl, Nat.zero_le _, HN4.out⟩
      case round =>
        obtain ⟨j, V2, rfl, hj, HGIj⟩ := hrel
        have HSNj := Lib.hid (rdMany_snoc (rdInt c 1000) j ms)
        have HLNj := Lib.hid (rdMany_len (rdInt c 1000) j ms)
        obtain ⟨Rj, hRj⟩ : ∃ R, rdMany (rdInt c 1000) j ms = R := ⟨_, rfl⟩
        rw [hRj] at HGIj HSNj HLNj
        obtain ⟨ss, st⟩ := Rj
        have HRIj := Lib.hid hRj
        simp only [] at HGIj HSNj HLNj
        clear hRj HN4
        by_cases hlt : j < M
        · have hii : (j : Int) < (M : Int) := by omega
          obtain ⟨x, hx⟩ : ∃ x, rdN c 1000 st.1 st.2 = x := ⟨_, rfl⟩
          have HX := Lib.hid hx
          have HNX : Hid (rdMany (rdInt c 1000) (j + 1) ms = (ss ++ [x.1], x.2)) := by
            show _ = _
            rw [HSNj.out]; unfold rdInt; rw [hx]
          obtain ⟨da, dc, hdv, -, -⟩ := HGIj.out.s.slice
          replace hdv : V2 = .slice da ss.length dc := hdv
          rw [HLNj.out] at hdv
          subst hdv
          have HM1 : Hid (ss.length + 1 ≤ maxLen) := by show _ ≤ _; rw [HLNj.out]; unfold maxLen; omega
          have HM2 : Hid ((ss.length + 1) * 8 ≤ 140737488355328) := by show _ ≤ _; rw [HLNj.out]; omega
          have HLA : Hid ((ss ++ [(x.1 : Int)]).length = j + 1) := by show _ = _; rw [List.length_append, HLNj.out]; rfl
          clear hx
          have hyl1 : y < wr.heap.size := box_lt HGIj.out.bx
          have c1 : wr.cell? ⟨y, 4, none⟩ = some (.slice da j dc) := (box_cell HGIj.out.bx 4).1
          go_upto_region 19 with fail
          go_region_law (first
            | (go_simp; go_at_call 67; go_fit (HGIj.out.drew.num HBC.out hvn 1000 (by omega) (by omega)); rintro e W2 ⟨rfl, hg2, -⟩; rw [HX.out] at hg2 ⊢; have HG2 := Lib.hid hg2; have c2 : W2.cell? ⟨y, 4, none⟩ = some (.slice da j dc) := (box_cell hg2.bx 4).1; have f2 : W2.frozen? ⟨y, 4, none⟩ = false := (box_cell hg2.bx 4).2; have hyl2 : y < W2.heap.size := box_lt hg2.bx; clear hg2)
            | (go_loud (refine step_app_at eltInt rfl (.tmp 61) (.tmp 64) rfl (.slice da j dc) ss (by simp [Act.eval]) (HG2.out.s.alloc _) ⟨W2.heap.size, 0, none⟩ 1 1 [x.1] (by simp [Act.eval]) (sl_new (c := icod) W2 #[.int .i64 x.1] 3 [x.1] 1 rfl (by unfold maxLen; omega) rfl) HM1.out HM2.out (by have := box_lt HG2.out.bx; simp; omega) ?_); rintro v4 W4 ho4 hg4 -; obtain ⟨a4, k4, ev4, -⟩ := ho4.slice; rw [HLA.out] at ev4; subst ev4; have HO4 := Lib.hid ho4; have HG4 := Lib.hid hg4; have hb4 := (hg4.block y (by have := box_lt HG2.out.bx; simp; omega) (fun q => by have := (World.ownsRow.lt HG2.out.s y q.symm).1; omega)).trans (box_alloc HG2.out.bx); have c4 : W4.cell? ⟨y, 4, none⟩ = some (.slice da j dc) := (box_cell hb4 4).1; have f4 : W4.frozen? ⟨y, 4, none⟩ = false := (box_cell hb4 4).2; clear ho4 hg4 hb4))
          all_goals
            go_wp2_with fail
            go_roundw
            case rel => exact ⟨j + 1, _, by go_num, by omega, by show PR _ _ _ _ _ _ _ _ _ _ _ _ _; rw [HNX.out]; exact HG2.out.app_s _ HO4.out HG4.out⟩
            case measure => simp [intOf]; omega
        · have hie : M = j := by omega
          subst hie
          have hii : ¬ (M : Int) < (M : Int) := by omega
          obtain ⟨u, hu⟩ : ∃ u, rdN c 16777216 st.1 st.2 = u := ⟨_, rfl⟩
          have HUE := Lib.hid hu
          clear hu
          obtain ⟨wn, hwn⟩ : ∃ wn, rdN c 1099511627776 u.2.1 u.2.2 = wn := ⟨_, rfl⟩
          have HWE := Lib.hid hwn
          clear hwn
          obtain ⟨ch, hch⟩ : ∃ ch, rdN c 16 wn.2.1 wn.2.2 = ch := ⟨_, rfl⟩
          have HCE := Lib.hid hch
          clear hch
          go_upto_region 20 with fail
          go_upto_region 21 with (go_at_call 67; go_loud (refine (HGIj.out.num HBC.out hvn 16777216 (by omega) (by omega)).mono ?_); rintro e U5 ⟨rfl, hgn, -⟩; rw [HUE.out] at hgn ⊢; have HN5 := Lib.hid hgn; have e5 : U5.cell? ⟨y, 5, none⟩ = some (.int .i64 0) := (box_cell hgn.bx 5).1; have e5f : U5.frozen? ⟨y, 5, none⟩ = false := (box_cell hgn.bx 5).2; clear hgn)
          clear e5 e5f
          have HM5 := Lib.hid (HN5.out.unit u.1)
          obtain ⟨T5, hT5⟩ : ∃ U, U5.setCell ⟨y, 5, none⟩ (.int .i64 u.1) = U := ⟨_, rfl⟩
          rw [hT5] at HM5 ⊢
          clear hT5 HN5
          go_upto_region 22 with (go_at_call 67; go_loud (refine (HM5.out.num HBC.out hvn 1099511627776 (by omega) (by omega)).mono ?_); rintro e U6 ⟨rfl, hgn, -⟩; rw [HWE.out] at hgn ⊢; have HN6 := Lib.hid hgn; have e6 : U6.cell? ⟨y, 6, none⟩ = some (.int .i64 0) := (box_cell hgn.bx 6).1; have e6f : U6.frozen? ⟨y, 6, none⟩ = false := (box_cell hgn.bx 6).2; clear hgn)
          clear e6 e6f
          have HM6 := Lib.hid (HN6.out.window wn.1)
          obtain ⟨T6, hT6⟩ : ∃ U, U6.setCell ⟨y, 6, none⟩ (.int .i64 wn.1) = U := ⟨_, rfl⟩
          rw [hT6] at HM6 ⊢
          clear hT6 HN6
          go_upto_region 23 with (go_at_call 67; go_loud (refine (HM6.out.num HBC.out hvn 16 (by omega) (by omega)).mono ?_); rintro e U7 ⟨rfl, hgn, -⟩; rw [HCE.out] at hgn ⊢; have HN7 := Lib.hid hgn; have e7 : U7.cell? ⟨y, 7, none⟩ = some (.int .i64 0) := (box_cell hgn.bx 7).1; have e7f : U7.frozen? ⟨y, 7, none⟩ = false := (box_cell hgn.bx 7).2; clear hgn)
          clear e7 e7f
          have HM7 := Lib.hid (HN7.out.chain ch.1)
          obtain ⟨T7, hT7⟩ : ∃ U, U7.setCell ⟨y, 7, none⟩ (.int .i64 ch.1) = U := ⟨_, rfl⟩
          rw [hT7] at HM7 ⊢
          clear hT7 HN7
          obtain ⟨Q, hQ, hQ2⟩ := rdN_most c 16 ch.2.1 ch.2.2 (by omega)
          obtain ⟨kQ, hkQ⟩ : ∃ k, rdN c 16 ch.2.1 ch.2.2 = k := ⟨_, rfl⟩
          have HQE := Lib.hid hkQ
          rw [hkQ] at hQ
          obtain ⟨kvQ, qs⟩ := kQ
          have hQ : kvQ = (Q : Int) := hQ
          subst hQ
          clear hkQ
          go_upto_region 25 with (go_at_call 67; go_loud (refine (HM7.out.num HBC.out hvn 16 (by omega) (by omega)).mono ?_); rintro e U9 ⟨rfl, hg1, -⟩; rw [HQE.out] at hg1 ⊢; have HN9 := Lib.hid hg1; clear hg1)
          clear HM5 HM6 HM7
          have HGBq := Lib.hid HN9.out.bl
          go_loopw [12] (fun vi wr => ∃ (q : Nat) (V3 : Value), vi = .int .i64 ((q : Nat) : Int) ∧ q ≤ Q ∧ Hid (PR w1 wr g y va vn vc c (rdMany (rdPair c 281474976710656 1000) q qs).2 ⟨v0.1, bs, o.1, f.1, ss, u.1, wn.1, ch.1, (rdMany (rdPair c 281474976710656 1000) q qs).1⟩ V1 V2 V3)) (fun vi _ => Q - (intOf vi).toNat)
          case atStart => exact ⟨0, _, rfl, Nat.zero_le _, HN9.out⟩
          case round =>
            obtain ⟨q, V3, rfl, hq, HGIq⟩ := hrel
            have HSNq := Lib.hid (rdMany_snoc (rdPair c 281474976710656 1000) q qs)
            have HLNq := Lib.hid (rdMany_len (rdPair c 281474976710656 1000) q qs)
            obtain ⟨Rq, hRq⟩ : ∃ R, rdMany (rdPair c 281474976710656 1000) q qs = R := ⟨_, rfl⟩
            rw [hRq] at HGIq HSNq HLNq
            obtain ⟨rs, rt⟩ := Rq
            have HRIq := Lib.hid hRq
            simp only [] at HGIq HSNq HLNq
            clear hRq HN9
            by_cases hlt : q < Q
            · have hii : (q : Int) < (Q : Int) := by omega
              obtain ⟨x, hx⟩ : ∃ x, rdN c 281474976710656 rt.1 rt.2 = x := ⟨_, rfl⟩
              have HX := Lib.hid hx
              obtain ⟨z, hz⟩ : ∃ z, rdN c 1000 x.2.1 x.2.2 = z := ⟨_, rfl⟩
              have HZ := Lib.hid hz
              have HNX : Hid (rdMany (rdPair c 281474976710656 1000) (q + 1) qs = (rs ++ [⟨x.1, z.1⟩], z.2)) := by
                show _ = _
                rw [HSNq.out]; unfold rdPair; simp only []; rw [hx, hz]
              obtain ⟨da, dc, hdv, -, -⟩ := HGIq.out.r.slice
              replace hdv : V3 = .slice da rs.length dc := hdv
              rw [HLNq.out] at hdv
              subst hdv
              have HM1 : Hid (rs.length + 1 ≤ maxLen) := by show _ ≤ _; rw [HLNq.out]; unfold maxLen; omega
              have HM2 : Hid ((rs.length + 1) * 16 ≤ 140737488355328) := by show _ ≤ _; rw [HLNq.out]; omega
              have HLA : Hid ((rs ++ [(⟨x.1, z.1⟩ : Pair)]).length = q + 1) := by show _ = _; rw [List.length_append, HLNq.out]; rfl
              clear hx hz
              go_upto_region 28 with (go_at_call 67; go_loud (refine (HGIq.out.num HBC.out hvn 281474976710656 (by omega) (by omega)).mono ?_); rintro e W2 ⟨rfl, hg2, -⟩; rw [HX.out] at hg2 ⊢; have HG2 := Lib.hid hg2; clear hg2)
              have HG2A := Lib.hid (HG2.out.alloc (.cells #[.int .i64 x.1, .int .i64 0] 114))
              have HBX2 := Lib.hid (box_new W2 (.cells #[.int .i64 x.1, .int .i64 0] 114))
              have HAP := Lib.hid HG2.out.apart
              have hyz : y < W2.heap.size := box_lt HG2.out.bx
              obtain ⟨V, hV⟩ : ∃ V, W2.alloc (.cells #[.int .i64 x.1, .int .i64 0] 114) = V := ⟨_, rfl⟩
              obtain ⟨bq, hbq⟩ : ∃ bq, W2.heap.size = bq := ⟨_, rfl⟩
              rw [hV] at HG2A HBX2 ⊢
              rw [hbq] at HBX2 HAP hyz ⊢
              clear hV hbq
              go_upto_region 29 with (go_at_call 67; go_loud (refine (HG2A.out.num HBC.out hvn 1000 (by omega) (by omega)).mono ?_); rintro e W3 ⟨rfl, hg3, hw3⟩; rw [HZ.out] at hg3 ⊢; have HG3 := Lib.hid hg3; have HBX3 := Lib.hid ((hw3.block bq (box_lt HBX2.out) (fun e => by have := Option.some.inj e; have := HG2A.out.gy; omega)).trans HBX2.out); obtain ⟨-, k1, -, k2⟩ := box2_cells HBX3.out; clear hg3 hw3)
              clear k1 k2
              have HG4 := Lib.hid (HG3.out.set hyz HAP.out 1 (.int .i64 z.1))
              have HBX4 : Hid ((W3.setCell ⟨bq, 1, none⟩ (.int .i64 z.1)).heap[bq]? = some (.cells #[.int .i64 x.1, .int .i64 z.1] 114 (0, 0))) := heap_setCell_same W3 bq 1 _ _ _ HBX3.out
              obtain ⟨V4, hV4⟩ : ∃ V, W3.setCell ⟨bq, 1, none⟩ (.int .i64 z.1) = V := ⟨_, rfl⟩
              rw [hV4] at HG4 HBX4 ⊢
              clear hV4
              obtain ⟨k0, k1, -, -⟩ := box2_cells HBX4.out
              have c1 : V4.cell? ⟨y, 8, none⟩ = some (.slice da q dc) := (box_cell HG4.out.bx 8).1
              have hy4 := box_lt HG4.out.bx
              go_wp2_with (at_builtin; go_loud (refine wpList_app_at eltRung rfl (.tmp 90) (.tmp 92) rfl (.slice da q dc) rs rfl (HG4.out.r.alloc _) _ 1 1 [⟨x.1, z.1⟩] rfl (sl_new (c := Pair.cod) V4 #[.int .i64 x.1, .int .i64 z.1] 114 [⟨x.1, z.1⟩] 1 rfl (by unfold maxLen; omega) rfl) HM1.out HM2.out (by have := box_lt HG4.out.bx; simp; omega) ?_); rintro v4 W4 ho4 hg4 -; obtain ⟨a4, k4, ev4, -⟩ := ho4.slice; rw [HLA.out] at ev4; subst ev4; have HO4 := Lib.hid ho4; have HG5 := Lib.hid hg4; have hb4 := (hg4.block y (by have := box_lt HG4.out.bx; simp; omega) (fun q => by have := (World.ownsRow.lt HG4.out.r y q.symm).1; omega)).trans (box_alloc HG4.out.bx); have c4 : W4.cell? ⟨y, 8, none⟩ = some (.slice da q dc) := (box_cell hb4 8).1; have f4 : W4.frozen? ⟨y, 8, none⟩ = false := (box_cell hb4 8).2; clear ho4 hg4 hb4)
              go_roundw
              case rel => exact ⟨q + 1, _, by go_num, by omega, by show PR _ _ _ _ _ _ _ _ _ _ _ _ _; rw [HNX.out]; exact HG4.out.app_r _ HO4.out HG5.out⟩
              case measure => simp [intOf]; omega
            · have hie : Q = q := by omega
              subst hie
              have hii : ¬ (Q : Int) < (Q : Int) := by omega
              go_upto_region 30 with fail
              have HRN := Lib.hid (rdTar_of HV0.out HKE.out HRIi.out HOE.out HFE.out HME.out HRIj.out HUE.out HWE.out HCE.out HQE.out HRIq.out)
              rw [HRN.out] at HTN
              simp only [] at HTN
              have HZ2 : Hid (wr.heap[w.heap.size]? = some (.cells #[.int .i64 0, .slice none 0 0, .int .i64 0, .int .i64 0, .slice none 0 0, .int .i64 0, .int .i64 0, .int .i64 0, .slice none 0 0] 61 (0, 0))) := (HGIq.out.bl.block w.heap.size (by have := box_lt HZ1.out; have := HGE.out; omega)).trans HZ1.out
              have HBW : Hid (Below w.heap.size w wr) := HB1.out.trans (by have := HGIq.out.bl; rw [← HGE.out] at this; exact this.mono HB1.out.size)
              obtain ⟨ba, bc, hbv, -, -⟩ := HGIq.out.b.slice
              obtain ⟨sa, sc, hsv, -, -⟩ := HGIq.out.s.slice
              obtain ⟨ra, rc, hrv, -, -⟩ := HGIq.out.r.slice
              simp only [] at hbv hsv hrv
              rw [HLNi.out] at hbv
              rw [HLNj.out] at hsv
              rw [HLNq.out] at hrv
              subst hbv
              subst hsv
              subst hrv
              have HVL : Hid (vn = c.length) := HVN.out.symm
              obtain ⟨d, hde⟩ : ∃ d, doneE c rt.1 rt.2 = d := ⟨_, rfl⟩
              have HD := Lib.hid hde
              rw [hde] at HTN
              clear hde
              go_upto_if 97 with (go_at_call 70; go_loud (refine (rrdone_any g va vn vc rt.1 rt.2 c wr HGIq.out.rd HVL.out hvn).mono ?_); rintro e W7 ⟨rfl, hb7⟩; rw [HD.out]; have HG7 := Lib.hid (HGIq.out.below hb7); have HB7 := Lib.hid (HBW.out.trans (hb7.mono HBW.out.size)); have HZ7 := Lib.hid (box_below HZ2.out hb7); clear hb7)
              have z0 : W7.cell? ⟨w.heap.size, 0, none⟩ = some (.int .i64 0) := (box_cell HZ7.out 0).1
              have z0f : W7.frozen? ⟨w.heap.size, 0, none⟩ = false := (box_cell HZ7.out 0).2
              have z1 : W7.cell? ⟨w.heap.size, 1, none⟩ = some (.slice none 0 0) := (box_cell HZ7.out 1).1
              have z1f : W7.frozen? ⟨w.heap.size, 1, none⟩ = false := (box_cell HZ7.out 1).2
              have z2 : W7.cell? ⟨w.heap.size, 2, none⟩ = some (.int .i64 0) := (box_cell HZ7.out 2).1
              have z2f : W7.frozen? ⟨w.heap.size, 2, none⟩ = false := (box_cell HZ7.out 2).2
              have z3 : W7.cell? ⟨w.heap.size, 3, none⟩ = some (.int .i64 0) := (box_cell HZ7.out 3).1
              have z3f : W7.frozen? ⟨w.heap.size, 3, none⟩ = false := (box_cell HZ7.out 3).2
              have z4 : W7.cell? ⟨w.heap.size, 4, none⟩ = some (.slice none 0 0) := (box_cell HZ7.out 4).1
              have z4f : W7.frozen? ⟨w.heap.size, 4, none⟩ = false := (box_cell HZ7.out 4).2
              have z5 : W7.cell? ⟨w.heap.size, 5, none⟩ = some (.int .i64 0) := (box_cell HZ7.out 5).1
              have z5f : W7.frozen? ⟨w.heap.size, 5, none⟩ = false := (box_cell HZ7.out 5).2
              have z6 : W7.cell? ⟨w.heap.size, 6, none⟩ = some (.int .i64 0) := (box_cell HZ7.out 6).1
              have z6f : W7.frozen? ⟨w.heap.size, 6, none⟩ = false := (box_cell HZ7.out 6).2
              have z7 : W7.cell? ⟨w.heap.size, 7, none⟩ = some (.int .i64 0) := (box_cell HZ7.out 7).1
              have z7f : W7.frozen? ⟨w.heap.size, 7, none⟩ = false := (box_cell HZ7.out 7).2
              have z8 : W7.cell? ⟨w.heap.size, 8, none⟩ = some (.slice none 0 0) := (box_cell HZ7.out 8).1
              have z8f : W7.frozen? ⟨w.heap.size, 8, none⟩ = false := (box_cell HZ7.out 8).2
              by_cases hd0 : d = 0
              case neg =>
                have hdd : (d != 0) = true := by simpa using hd0
                have HR : Hid (takeT b = (tar0, d)) := by show _ = _; rw [HTN.out, if_pos hd0]
                clear hd0
                clear z0 z0f z1 z1f z2 z2f z3 z3f z4 z4f z5 z5f z6 z6f z7 z7f z8 z8f
                go_wp2_with (go_at_call 70; go_loud (refine (rrdone_any g va vn vc rt.1 rt.2 c W7 HG7.out.rd HVL.out hvn).mono ?_); rintro e W9 ⟨rfl, hb9⟩; rw [HD.out]; have HB9 := Lib.hid (HB7.out.trans (hb9.mono HB7.out.size)); have HZ9 := Lib.hid (box_below HZ7.out hb9); have z0 : W9.cell? ⟨w.heap.size, 0, none⟩ = some (.int .i64 0) := (box_cell HZ9.out 0).1; have z0f : W9.frozen? ⟨w.heap.size, 0, none⟩ = false := (box_cell HZ9.out 0).2; have z1 : W9.cell? ⟨w.heap.size, 1, none⟩ = some (.slice none 0 0) := (box_cell HZ9.out 1).1; have z1f : W9.frozen? ⟨w.heap.size, 1, none⟩ = false := (box_cell HZ9.out 1).2; have z2 : W9.cell? ⟨w.heap.size, 2, none⟩ = some (.int .i64 0) := (box_cell HZ9.out 2).1; have z2f : W9.frozen? ⟨w.heap.size, 2, none⟩ = false := (box_cell HZ9.out 2).2; have z3 : W9.cell? ⟨w.heap.size, 3, none⟩ = some (.int .i64 0) := (box_cell HZ9.out 3).1; have z3f : W9.frozen? ⟨w.heap.size, 3, none⟩ = false := (box_cell HZ9.out 3).2; have z4 : W9.cell? ⟨w.heap.size, 4, none⟩ = some (.slice none 0 0) := (box_cell HZ9.out 4).1; have z4f : W9.frozen? ⟨w.heap.size, 4, none⟩ = false := (box_cell HZ9.out 4).2; have z5 : W9.cell? ⟨w.heap.size, 5, none⟩ = some (.int .i64 0) := (box_cell HZ9.out 5).1; have z5f : W9.frozen? ⟨w.heap.size, 5, none⟩ = false := (box_cell HZ9.out 5).2; have z6 : W9.cell? ⟨w.heap.size, 6, none⟩ = some (.int .i64 0) := (box_cell HZ9.out 6).1; have z6f : W9.frozen? ⟨w.heap.size, 6, none⟩ = false := (box_cell HZ9.out 6).2; have z7 : W9.cell? ⟨w.heap.size, 7, none⟩ = some (.int .i64 0) := (box_cell HZ9.out 7).1; have z7f : W9.frozen? ⟨w.heap.size, 7, none⟩ = false := (box_cell HZ9.out 7).2; have z8 : W9.cell? ⟨w.heap.size, 8, none⟩ = some (.slice none 0 0) := (box_cell HZ9.out 8).1; have z8f : W9.frozen? ⟨w.heap.size, 8, none⟩ = false := (box_cell HZ9.out 8).2; clear hb9)
                refine bodyPost_ret (results_row_tmp rfl _ _ w.heap.size _ _ _ _ rfl (box9_set HZ9.out _ _ _ _ _ _ _ _ _) Try.underlying61 rfl (by kernel_rfl)) rfl ?_
                rw [HR.out]
                exact ⟨⟨none, 0, 0⟩, ⟨none, 0, 0⟩, ⟨none, 0, 0⟩, rfl, tar0_in _, below_set9 HB9.out (Nat.le_refl _) _ _ _ _ _ _ _ _ _⟩
              subst hd0
              rw [if_neg (by simp)] at HTN
              have d0 : W7.cell? ⟨y, 0, none⟩ = some (.int .i64 ((⟨v0.1, bs, o.1, f.1, ss, u.1, wn.1, ch.1, rs⟩ : Tar)).ver) := (box_cell HG7.out.bx 0).1
              have d0f : W7.frozen? ⟨y, 0, none⟩ = false := (box_cell HG7.out.bx 0).2
              have d1 : W7.cell? ⟨y, 1, none⟩ = some (.slice ba K bc) := (box_cell HG7.out.bx 1).1
              have d1f : W7.frozen? ⟨y, 1, none⟩ = false := (box_cell HG7.out.bx 1).2
              have d2 : W7.cell? ⟨y, 2, none⟩ = some (.int .i64 ((⟨v0.1, bs, o.1, f.1, ss, u.1, wn.1, ch.1, rs⟩ : Tar)).over) := (box_cell HG7.out.bx 2).1
              have d2f : W7.frozen? ⟨y, 2, none⟩ = false := (box_cell HG7.out.bx 2).2
              have d3 : W7.cell? ⟨y, 3, none⟩ = some (.int .i64 ((⟨v0.1, bs, o.1, f.1, ss, u.1, wn.1, ch.1, rs⟩ : Tar)).full) := (box_cell HG7.out.bx 3).1
              have d3f : W7.frozen? ⟨y, 3, none⟩ = false := (box_cell HG7.out.bx 3).2
              have d4 : W7.cell? ⟨y, 4, none⟩ = some (.slice sa M sc) := (box_cell HG7.out.bx 4).1
              have d4f : W7.frozen? ⟨y, 4, none⟩ = false := (box_cell HG7.out.bx 4).2
              have d5 : W7.cell? ⟨y, 5, none⟩ = some (.int .i64 ((⟨v0.1, bs, o.1, f.1, ss, u.1, wn.1, ch.1, rs⟩ : Tar)).unit) := (box_cell HG7.out.bx 5).1
              have d5f : W7.frozen? ⟨y, 5, none⟩ = false := (box_cell HG7.out.bx 5).2
              have d6 : W7.cell? ⟨y, 6, none⟩ = some (.int .i64 ((⟨v0.1, bs, o.1, f.1, ss, u.1, wn.1, ch.1, rs⟩ : Tar)).window) := (box_cell HG7.out.bx 6).1
              have d6f : W7.frozen? ⟨y, 6, none⟩ = false := (box_cell HG7.out.bx 6).2
              have d7 : W7.cell? ⟨y, 7, none⟩ = some (.int .i64 ((⟨v0.1, bs, o.1, f.1, ss, u.1, wn.1, ch.1, rs⟩ : Tar)).chain) := (box_cell HG7.out.bx 7).1
              have d7f : W7.frozen? ⟨y, 7, none⟩ = false := (box_cell HG7.out.bx 7).2
              have d8 : W7.cell? ⟨y, 8, none⟩ = some (.slice ra Q rc) := (box_cell HG7.out.bx 8).1
              have d8f : W7.frozen? ⟨y, 8, none⟩ = false := (box_cell HG7.out.bx 8).2
              have HNI : Hid (TarIn W7 ⟨v0.1, bs, o.1, f.1, ss, u.1, wn.1, ch.1, rs⟩ ⟨ba, K, bc⟩ ⟨sa, M, sc⟩ ⟨ra, Q, rc⟩) := ⟨own_sl HG7.out.b, own_sl HG7.out.s, own_sl HG7.out.r⟩
              obtain ⟨ck, hck⟩ : ∃ ck, tarOk ⟨v0.1, bs, o.1, f.1, ss, u.1, wn.1, ch.1, rs⟩ = ck := ⟨_, rfl⟩
              have HCK := Lib.hid hck
              rw [hck] at HTN
              clear hck
              go_upto_if 103 with (go_at_call 30; go_loud (refine (rtarR_any ⟨v0.1, bs, o.1, f.1, ss, u.1, wn.1, ch.1, rs⟩ ⟨ba, K, bc⟩ ⟨sa, M, sc⟩ ⟨ra, Q, rc⟩ W7 ⟨by show K ≤ 1000000; omega, by show M ≤ 1000000; omega, by show Q ≤ 1000000; omega⟩ HNI.out).mono ?_); rintro e W8 ⟨rfl, hb8⟩; rw [HCK.out]; have HG8 := Lib.hid (HG7.out.below hb8); have HB8 := Lib.hid (HB7.out.trans (hb8.mono HB7.out.size)); have HZ8 := Lib.hid (box_below HZ7.out hb8); clear hb8)
              clear z0 z0f z1 z1f z2 z2f z3 z3f z4 z4f z5 z5f z6 z6f z7 z7f z8 z8f d0 d0f d1 d1f d2 d2f d3 d3f d4 d4f d5 d5f d6 d6f d7 d7f d8 d8f
              have z0 : W8.cell? ⟨w.heap.size, 0, none⟩ = some (.int .i64 0) := (box_cell HZ8.out 0).1
              have z0f : W8.frozen? ⟨w.heap.size, 0, none⟩ = false := (box_cell HZ8.out 0).2
              have z1 : W8.cell? ⟨w.heap.size, 1, none⟩ = some (.slice none 0 0) := (box_cell HZ8.out 1).1
              have z1f : W8.frozen? ⟨w.heap.size, 1, none⟩ = false := (box_cell HZ8.out 1).2
              have z2 : W8.cell? ⟨w.heap.size, 2, none⟩ = some (.int .i64 0) := (box_cell HZ8.out 2).1
              have z2f : W8.frozen? ⟨w.heap.size, 2, none⟩ = false := (box_cell HZ8.out 2).2
              have z3 : W8.cell? ⟨w.heap.size, 3, none⟩ = some (.int .i64 0) := (box_cell HZ8.out 3).1
              have z3f : W8.frozen? ⟨w.heap.size, 3, none⟩ = false := (box_cell HZ8.out 3).2
              have z4 : W8.cell? ⟨w.heap.size, 4, none⟩ = some (.slice none 0 0) := (box_cell HZ8.out 4).1
              have z4f : W8.frozen? ⟨w.heap.size, 4, none⟩ = false := (box_cell HZ8.out 4).2
              have z5 : W8.cell? ⟨w.heap.size, 5, none⟩ = some (.int .i64 0) := (box_cell HZ8.out 5).1
              have z5f : W8.frozen? ⟨w.heap.size, 5, none⟩ = false := (box_cell HZ8.out 5).2
              have z6 : W8.cell? ⟨w.heap.size, 6, none⟩ = some (.int .i64 0) := (box_cell HZ8.out 6).1
              have z6f : W8.frozen? ⟨w.heap.size, 6, none⟩ = false := (box_cell HZ8.out 6).2
              have z7 : W8.cell? ⟨w.heap.size, 7, none⟩ = some (.int .i64 0) := (box_cell HZ8.out 7).1
              have z7f : W8.frozen? ⟨w.heap.size, 7, none⟩ = false := (box_cell HZ8.out 7).2
              have z8 : W8.cell? ⟨w.heap.size, 8, none⟩ = some (.slice none 0 0) := (box_cell HZ8.out 8).1
              have z8f : W8.frozen? ⟨w.heap.size, 8, none⟩ = false := (box_cell HZ8.out 8).2
              have d0 : W8.cell? ⟨y, 0, none⟩ = some (.int .i64 ((⟨v0.1, bs, o.1, f.1, ss, u.1, wn.1, ch.1, rs⟩ : Tar)).ver) := (box_cell HG8.out.bx 0).1
              have d0f : W8.frozen? ⟨y, 0, none⟩ = false := (box_cell HG8.out.bx 0).2
              have d1 : W8.cell? ⟨y, 1, none⟩ = some (.slice ba K bc) := (box_cell HG8.out.bx 1).1
              have d1f : W8.frozen? ⟨y, 1, none⟩ = false := (box_cell HG8.out.bx 1).2
              have d2 : W8.cell? ⟨y, 2, none⟩ = some (.int .i64 ((⟨v0.1, bs, o.1, f.1, ss, u.1, wn.1, ch.1, rs⟩ : Tar)).over) := (box_cell HG8.out.bx 2).1
              have d2f : W8.frozen? ⟨y, 2, none⟩ = false := (box_cell HG8.out.bx 2).2
              have d3 : W8.cell? ⟨y, 3, none⟩ = some (.int .i64 ((⟨v0.1, bs, o.1, f.1, ss, u.1, wn.1, ch.1, rs⟩ : Tar)).full) := (box_cell HG8.out.bx 3).1
              have d3f : W8.frozen? ⟨y, 3, none⟩ = false := (box_cell HG8.out.bx 3).2
              have d4 : W8.cell? ⟨y, 4, none⟩ = some (.slice sa M sc) := (box_cell HG8.out.bx 4).1
              have d4f : W8.frozen? ⟨y, 4, none⟩ = false := (box_cell HG8.out.bx 4).2
              have d5 : W8.cell? ⟨y, 5, none⟩ = some (.int .i64 ((⟨v0.1, bs, o.1, f.1, ss, u.1, wn.1, ch.1, rs⟩ : Tar)).unit) := (box_cell HG8.out.bx 5).1
              have d5f : W8.frozen? ⟨y, 5, none⟩ = false := (box_cell HG8.out.bx 5).2
              have d6 : W8.cell? ⟨y, 6, none⟩ = some (.int .i64 ((⟨v0.1, bs, o.1, f.1, ss, u.1, wn.1, ch.1, rs⟩ : Tar)).window) := (box_cell HG8.out.bx 6).1
              have d6f : W8.frozen? ⟨y, 6, none⟩ = false := (box_cell HG8.out.bx 6).2
              have d7 : W8.cell? ⟨y, 7, none⟩ = some (.int .i64 ((⟨v0.1, bs, o.1, f.1, ss, u.1, wn.1, ch.1, rs⟩ : Tar)).chain) := (box_cell HG8.out.bx 7).1
              have d7f : W8.frozen? ⟨y, 7, none⟩ = false := (box_cell HG8.out.bx 7).2
              have d8 : W8.cell? ⟨y, 8, none⟩ = some (.slice ra Q rc) := (box_cell HG8.out.bx 8).1
              have d8f : W8.frozen? ⟨y, 8, none⟩ = false := (box_cell HG8.out.bx 8).2
              cases ck with
              | false =>
                have HR : Hid (takeT b = (tar0, 2)) := by show _ = _; rw [HTN.out, if_pos rfl]
                go_wp2_with fail
                refine bodyPost_ret (results_row_tmp rfl _ _ w.heap.size _ _ _ _ rfl (box9_set HZ8.out _ _ _ _ _ _ _ _ _) Try.underlying61 rfl (by kernel_rfl)) rfl ?_
                rw [HR.out]
                exact ⟨⟨none, 0, 0⟩, ⟨none, 0, 0⟩, ⟨none, 0, 0⟩, rfl, tar0_in _, below_set9 HB8.out (Nat.le_refl _) _ _ _ _ _ _ _ _ _⟩
              | true =>
                have HR : Hid (takeT b = (⟨v0.1, bs, o.1, f.1, ss, u.1, wn.1, ch.1, rs⟩, 0)) := by show _ = _; rw [HTN.out, if_neg (by simp)]
                have hwy : w.heap.size < y := by have := box_lt HZ1.out; have := HGE.out; omega
                go_wp2_with fail
                refine bodyPost_ret (results_row_tmp rfl _ _ w.heap.size _ _ _ _ rfl (box9_set HZ8.out _ _ _ _ _ _ _ _ _) Try.underlying61 rfl (by kernel_rfl)) rfl ?_
                rw [HR.out]
                refine ⟨⟨ba, K, bc⟩, ⟨sa, M, sc⟩, ⟨ra, Q, rc⟩, rfl, ?_, below_set9 HB8.out (Nat.le_refl _) _ _ _ _ _ _ _ _ _⟩
                exact ⟨own_sl (own_set9 HG8.out.b (by omega) _ _ _ _ _ _ _ _ _), own_sl (own_set9 HG8.out.s (by omega) _ _ _ _ _ _ _ _ _), own_sl (own_set9 HG8.out.r (by omega) _ _ _ _ _ _ _ _ _)⟩
end Go.Proofs.Ytbdkhgenkekioaa.Pb
