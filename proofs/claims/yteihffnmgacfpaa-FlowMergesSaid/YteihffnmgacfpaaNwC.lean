/- Networks: flow.Count, walked. -/
import Derived.Test.YteihffnmgacfpaaNwA
namespace Go.Proofs.Yteihffnmgacfpaa.Ne
open Go.RowKit Go.V Go.Proofs Go.Sort Go.Maps

theorem cell_alloc {w : World} {a : Addr} {u : Value} (h : w.cell? a = some u) (o : Obj) : (w.alloc o).cell? a = some u := by
  rw [World.cell?_alloc_some w a o (by rw [h]; rfl)]; exact h
theorem box4_set {w : World} {g : Nat} {e : TypeId} {u0 u1 u2 u3 : Value} (h : w.heap[g]? = some (.cells #[u0, u1, u2, u3] e (0, 0))) (v0 v1 v2 v3 : Value) : ((((w.setCell ⟨g, 0, none⟩ v0).setCell ⟨g, 1, none⟩ v1).setCell ⟨g, 2, none⟩ v2).setCell ⟨g, 3, none⟩ v3).heap[g]? = some (.cells #[v0, v1, v2, v3] e (0, 0)) := by
  have h1 := heap_setCell_same w g 0 _ e v0 h
  have h2 := heap_setCell_same _ g 1 _ e v1 h1
  have h3 := heap_setCell_same _ g 2 _ e v2 h2
  have h4 := heap_setCell_same _ g 3 _ e v3 h3
  rw [h4]; rfl
/-- What a count has in memory. -/
structure FM (w wr : World) (n : Net) (hs hl : Hdr) (g o1 o2 o3 m k : Nat) (F : Fw) : Prop where
  bx : wr.heap[w.heap.size]? = some (n.box hs hl)
  rb : wr.heap[w.heap.size + 1]? = some (.cells #[.slice none 0 0, .slice none 0 0, .slice none 0 0, .int .i64 0] 78 (0, 0))
  fb : wr.heap[g]? = some (.cells #[.slice (some ⟨o1, 0, none⟩) m m, .slice (some ⟨o2, 0, none⟩) k k, .slice (some ⟨o3, 0, none⟩) k k, .int .i64 F.lost] 78 (0, 0))
  r1 : V.Own 3 icod (w.heap.size + 2) wr (.slice (some ⟨o1, 0, none⟩) m m) (fl F.L m)
  r2 : V.Own 3 icod (w.heap.size + 2) wr (.slice (some ⟨o2, 0, none⟩) k k) (fl F.on k)
  r3 : V.Own 3 icod (w.heap.size + 2) wr (.slice (some ⟨o3, 0, none⟩) k k) (fl F.off k)
  bl : Below w.heap.size w wr
  gz : w.heap.size + 1 < g
  d12 : o1 ≠ o2
  d13 : o1 ≠ o3
  d23 : o2 ≠ o3
  g1 : g ≠ o1
  g2 : g ≠ o2
  g3 : g ≠ o3
section
variable {w wr w' : World} {n : Net} {hs hl : Hdr} {g o1 o2 o3 m k : Nat} {F : Fw}
theorem FM.below (h : FM w wr n hs hl g o1 o2 o3 m k F) (hb : Below wr.heap.size wr w') : FM w w' n hs hl g o1 o2 o3 m k F :=
  { h with bx := box_below h.bx hb, rb := box_below h.rb hb, fb := box_below h.fb hb, r1 := h.r1.below hb, r2 := h.r2.below hb, r3 := h.r3.below hb, bl := h.bl.trans (hb.mono (by have := box_lt h.bx; omega)) }
theorem own_kept_set {base o m c i : Nat} {xs : List Int} {v : Value} {p : Nat} (h : V.Own 3 icod base wr (.slice (some ⟨o, 0, none⟩) m c) xs) (hne : o ≠ p) : V.Own 3 icod base (wr.setCell ⟨p, i, none⟩ v) (.slice (some ⟨o, 0, none⟩) m c) xs :=
  h.kept (set_grown wr p i v) (.inr (fun e => hne (Option.some.inj e)))
theorem box_kept_set {p q i : Nat} {ob : Obj} {v : Value} (h : wr.heap[q]? = some ob) (hne : q ≠ p) : (wr.setCell ⟨p, i, none⟩ v).heap[q]? = some ob :=
  ((set_grown wr p i v).block q (box_lt h) (fun e => hne (Option.some.inj e))).trans h
theorem below_set {p i : Nat} {v : Value} (h : Below w.heap.size w wr) (hp : w.heap.size ≤ p) : Below w.heap.size w (wr.setCell ⟨p, i, none⟩ v) := by
  have hg := set_grown wr p i v
  exact h.trans ⟨hg.os, hg.tape, hg.output, hg.size, fun q hq => hg.block q (by have := h.size; omega) (fun e => by have := Option.some.inj e; omega)⟩
theorem FM.o1b (h : FM w wr n hs hl g o1 o2 o3 m k F) : w.heap.size + 2 ≤ o1 ∧ w.heap.size + 2 ≤ o2 ∧ w.heap.size + 2 ≤ o3 := ⟨(World.ownsRow.lt h.r1 o1 rfl).1, (World.ownsRow.lt h.r2 o2 rfl).1, (World.ownsRow.lt h.r3 o3 rfl).1⟩
theorem FM.set1 (h : FM w wr n hs hl g o1 o2 o3 m k F) (e : Nat) : FM w (wr.setCell ⟨o1, e, none⟩ (.int .i64 (F.L e + 1))) n hs hl g o1 o2 o3 m k ⟨ups F.L e, F.on, F.off, F.lost⟩ := by
  obtain ⟨b1, b2, b3⟩ := h.o1b
  exact ⟨box_kept_set h.bx (by omega), box_kept_set h.rb (by omega), box_kept_set h.fb h.g1, by rw [← fl_ups]; exact (iset h.r1 (fl_len _ _).symm e _).1, own_kept_set h.r2 (fun e => h.d12 e.symm), own_kept_set h.r3 (fun e => h.d13 e.symm), below_set h.bl (by omega), h.gz, h.d12, h.d13, h.d23, h.g1, h.g2, h.g3⟩
theorem FM.set2 (h : FM w wr n hs hl g o1 o2 o3 m k F) (e : Nat) : FM w (wr.setCell ⟨o2, e, none⟩ (.int .i64 (F.on e + 1))) n hs hl g o1 o2 o3 m k ⟨F.L, ups F.on e, F.off, F.lost⟩ := by
  obtain ⟨b1, b2, b3⟩ := h.o1b
  exact ⟨box_kept_set h.bx (by omega), box_kept_set h.rb (by omega), box_kept_set h.fb h.g2, own_kept_set h.r1 h.d12, by rw [← fl_ups]; exact (iset h.r2 (fl_len _ _).symm e _).1, own_kept_set h.r3 (fun e => h.d23 e.symm), below_set h.bl (by omega), h.gz, h.d12, h.d13, h.d23, h.g1, h.g2, h.g3⟩
theorem FM.set3 (h : FM w wr n hs hl g o1 o2 o3 m k F) (e : Nat) : FM w (wr.setCell ⟨o3, e, none⟩ (.int .i64 (F.off e + 1))) n hs hl g o1 o2 o3 m k ⟨F.L, F.on, ups F.off e, F.lost⟩ := by
  obtain ⟨b1, b2, b3⟩ := h.o1b
  exact ⟨box_kept_set h.bx (by omega), box_kept_set h.rb (by omega), box_kept_set h.fb h.g3, own_kept_set h.r1 h.d13, own_kept_set h.r2 h.d23, by rw [← fl_ups]; exact (iset h.r3 (fl_len _ _).symm e _).1, below_set h.bl (by omega), h.gz, h.d12, h.d13, h.d23, h.g1, h.g2, h.g3⟩
theorem FM.lose (h : FM w wr n hs hl g o1 o2 o3 m k F) : FM w (wr.setCell ⟨g, 3, none⟩ (.int .i64 (F.lost + 1))) n hs hl g o1 o2 o3 m k ⟨F.L, F.on, F.off, F.lost + 1⟩ := by
  obtain ⟨b1, b2, b3⟩ := h.o1b
  have gz := h.gz
  refine ⟨box_kept_set h.bx (by omega), box_kept_set h.rb (by omega), ?_, own_kept_set h.r1 (fun e => h.g1 e.symm), own_kept_set h.r2 (fun e => h.g2 e.symm), own_kept_set h.r3 (fun e => h.g3 e.symm), below_set h.bl (by omega), h.gz, h.d12, h.d13, h.d23, h.g1, h.g2, h.g3⟩
  rw [heap_setCell_same wr g 3 _ _ _ h.fb]; rfl
theorem FM.cells (h : FM w wr n hs hl g o1 o2 o3 m k F) : wr.cell? ⟨g, 0, none⟩ = some (.slice (some ⟨o1, 0, none⟩) m m) ∧ wr.cell? ⟨g, 1, none⟩ = some (.slice (some ⟨o2, 0, none⟩) k k) ∧ wr.cell? ⟨g, 2, none⟩ = some (.slice (some ⟨o3, 0, none⟩) k k) ∧ wr.cell? ⟨g, 3, none⟩ = some (.int .i64 F.lost) ∧ wr.frozen? ⟨g, 3, none⟩ = false :=
  ⟨(box_cell h.fb 0).1, (box_cell h.fb 1).1, (box_cell h.fb 2).1, (box_cell h.fb 3).1, (box_cell h.fb 3).2⟩
theorem fl_cell {base o c m i : Nat} {f : Nat → Int} (h : V.Own 3 icod base wr (.slice (some ⟨o, 0, none⟩) m c) (fl f m)) (hi : i < m) : wr.cell? ⟨o, i, none⟩ = some (.int .i64 (f i)) ∧ wr.frozen? ⟨o, i, none⟩ = false ∧ o < wr.heap.size := by
  obtain ⟨d, hd, p0, pf, p2⟩ := icells h (fl_len _ _).symm hi
  rw [fl_at _ hi] at hd
  cases hd
  exact ⟨p0, pf, p2⟩
end

theorem own_zero {w : World} {B o m : Nat} (h : w.heap[o]? = some (.cells (madeCells #[.int .i64 0] m) 3 (0, 0))) (hb : B ≤ o) (hm : m ≤ 4096) : V.Own 3 icod B w (.slice (some ⟨o, 0, none⟩) m m) (fl (fun _ => 0) m) := by
  rw [fl_zero]
  refine rep_own (n := m) (x := 0) ?_ hb rfl hm
  have : (rep (.int .i64 0) m m).toArray = madeCells #[.int .i64 0] m := by unfold rep; rw [Nat.sub_self, List.replicate_zero, List.append_nil, ← toList_madeCells_one]
  rw [this]; exact h
theorem FM.made {w wr : World} {n : Net} {hs hl : Hdr} {g o1 o2 o3 m k : Nat} (hm : m ≤ 4096) (hk : k ≤ 4096) (bx : wr.heap[w.heap.size]? = some (n.box hs hl))
    (rb : wr.heap[w.heap.size + 1]? = some (.cells #[.slice none 0 0, .slice none 0 0, .slice none 0 0, .int .i64 0] 78 (0, 0)))
    (fb : wr.heap[g]? = some (.cells #[.slice (some ⟨o1, 0, none⟩) m m, .slice (some ⟨o2, 0, none⟩) k k, .slice (some ⟨o3, 0, none⟩) k k, .int .i64 0] 78 (0, 0)))
    (r1 : wr.heap[o1]? = some (.cells (madeCells #[.int .i64 0] m) 3 (0, 0))) (r2 : wr.heap[o2]? = some (.cells (madeCells #[.int .i64 0] k) 3 (0, 0))) (r3 : wr.heap[o3]? = some (.cells (madeCells #[.int .i64 0] k) 3 (0, 0)))
    (bl : Below w.heap.size w wr) (hd : w.heap.size + 1 < g ∧ w.heap.size + 2 ≤ o1 ∧ w.heap.size + 2 ≤ o2 ∧ w.heap.size + 2 ≤ o3 ∧ o1 ≠ o2 ∧ o1 ≠ o3 ∧ o2 ≠ o3 ∧ g ≠ o1 ∧ g ≠ o2 ∧ g ≠ o3) : FM w wr n hs hl g o1 o2 o3 m k Fw.zero :=
  ⟨bx, rb, fb, own_zero r1 hd.2.1 hm, own_zero r2 hd.2.2.1 hk, own_zero r3 hd.2.2.2.1 hk, bl, hd.1, hd.2.2.2.2.1, hd.2.2.2.2.2.1, hd.2.2.2.2.2.2.1, hd.2.2.2.2.2.2.2.1, hd.2.2.2.2.2.2.2.2.1, hd.2.2.2.2.2.2.2.2.2⟩
theorem bnew {w : World} {o : Obj} {i : Nat} (h : i = w.heap.size) : (w.alloc o).heap[i]? = some o := by rw [h]; exact box_new w o
theorem FM.ex {w wr : World} {n : Net} {hs hl : Hdr} {g o1 o2 o3 m k : Nat} (hm : m ≤ 4096) (hk : k ≤ 4096) (bx : wr.heap[w.heap.size]? = some (n.box hs hl))
    (rb : wr.heap[w.heap.size + 1]? = some (.cells #[.slice none 0 0, .slice none 0 0, .slice none 0 0, .int .i64 0] 78 (0, 0)))
    (fb : wr.heap[g]? = some (.cells #[.slice (some ⟨o1, 0, none⟩) m m, .slice (some ⟨o2, 0, none⟩) k k, .slice (some ⟨o3, 0, none⟩) k k, .int .i64 0] 78 (0, 0)))
    (r1 : wr.heap[o1]? = some (.cells (madeCells #[.int .i64 0] m) 3 (0, 0))) (r2 : wr.heap[o2]? = some (.cells (madeCells #[.int .i64 0] k) 3 (0, 0))) (r3 : wr.heap[o3]? = some (.cells (madeCells #[.int .i64 0] k) 3 (0, 0)))
    (bl : Below w.heap.size w wr) (hd : w.heap.size + 1 < g ∧ w.heap.size + 2 ≤ o1 ∧ w.heap.size + 2 ≤ o2 ∧ w.heap.size + 2 ≤ o3 ∧ o1 ≠ o2 ∧ o1 ≠ o3 ∧ o2 ≠ o3 ∧ g ≠ o1 ∧ g ≠ o2 ∧ g ≠ o3) :
    ∃ g' p1 p2 p3, (Value.pointer (some ⟨g, 0, none⟩)) = Value.pointer (some ⟨g', 0, none⟩) ∧ Hid (FM w wr.drew n hs hl g' p1 p2 p3 m k Fw.zero) :=
  ⟨g, o1, o2, o3, rfl, (FM.made hm hk bx rb fb r1 r2 r3 bl hd).below (Below.drew (Below.refl _ _))⟩

theorem pway_own (n : Net) (hs hl : Hdr) (a b : Int) (w : World) (h60 : hs.n ≤ 60) (h120 : hl.n ≤ 120) (h : NetIn w n hs hl) :
    Calls Try.prog 45 #[n.val hs hl, .int .i64 a, .int .i64 b] w fun e w' => ∃ va vn vc, e = .returned (.tuple #[.slice va vn vc, .int .i64 (wayFar n hs.n a b), .int .i64 (wayErr n hs.n a b)]) ∧ (wayErr n hs.n a b = 0 → V.Own 3 icod w.heap.size w' (.slice va vn vc) (wayL n.links hs.n a b)) ∧ Below w.heap.size w w' := by
  refine (pway_any n hs hl a b w h60 h120 h).mono fun e w' hh => ?_
  obtain ⟨v, e1, ho, hb⟩ := hh
  by_cases hf : wayErr n hs.n a b = 0
  · have hy := ho.yes hf
    obtain ⟨va, vc, hv, -, -⟩ := hy.slice
    subst hv
    exact ⟨_, _, _, e1, fun _ => hy, hb⟩
  · have hv := ho.no hf
    subst hv
    exact ⟨_, _, _, e1, fun q => absurd q hf, hb⟩

/-- Rows that a call has made itself. -/
def FlNew (w : World) (a1 a2 a3 : Option Addr) : Prop := ∀ d, a1 = some d ∨ a2 = some d ∨ a3 = some d → w.heap.size ≤ d.block

set_option maxHeartbeats 8000000 in
set_option maxRecDepth 100000 in
theorem fcount_any (n : Net) (hs hl : Hdr) (pa : Option Addr) (pn pc : Nat) (ps : List Pr2) (w : World) (h : NetIn w n hs hl) (hp : Sl pr2 w pa pn pc ps) (h60 : hs.n ≤ 60) (h120 : hl.n ≤ 120) (h4 : pn ≤ 4096) :
    Calls Try.prog 51 #[n.val hs hl, .slice pa pn pc] w fun e w' => Below w.heap.size w w' ∧ (checkE n ≠ 0 → e = .returned (.tuple #[FH.val ⟨⟨none, 0, 0⟩, ⟨none, 0, 0⟩, ⟨none, 0, 0⟩⟩ 0, .int .i64 (checkE n)])) ∧
      (checkE n = 0 → ∃ h : FH, e = .returned (.tuple #[h.val (cntF n hs.n ps Fw.zero).lost, .int .i64 0]) ∧ FlIn w' ((cntF n hs.n ps Fw.zero).fl hl.n hs.n) h ∧ FlNew w h.l.a h.n.a h.f.a) := by
  have mixed : Try.prog.follows .mixedOrders = true := by kernel_rfl
  have HKN := Lib.hid h.s.hlen
  have HLN := Lib.hid h.l.hlen
  obtain ⟨sa, k, sc⟩ := hs
  obtain ⟨la, m, lc⟩ := hl
  have h60 : k ≤ 60 := h60
  have h120 : m ≤ 120 := h120
  have HH := Lib.hid h
  have HPP := Lib.hid hp
  have HX0 := Lib.hid (box_alloc (o := .cells #[.slice none 0 0, .slice none 0 0, .slice none 0 0, .int .i64 0] 78) (box_new w (n.box ⟨sa, k, sc⟩ ⟨la, m, lc⟩)))
  have HR0 : Hid (((w.alloc (n.box ⟨sa, k, sc⟩ ⟨la, m, lc⟩)).alloc (.cells #[.slice none 0 0, .slice none 0 0, .slice none 0 0, .int .i64 0] 78)).heap[w.heap.size + 1]? = some (.cells #[.slice none 0 0, .slice none 0 0, .slice none 0 0, .int .i64 0] 78 (0, 0))) := by
    show _ = _
    rw [show w.heap.size + 1 = (w.alloc (n.box ⟨sa, k, sc⟩ ⟨la, m, lc⟩)).heap.size by simp]
    exact box_new _ _
  have HB0 : Hid (Below w.heap.size w ((w.alloc (n.box ⟨sa, k, sc⟩ ⟨la, m, lc⟩)).alloc (.cells #[.slice none 0 0, .slice none 0 0, .slice none 0 0, .int .i64 0] 78))) := ((Below.refl _ _).alloc (Nat.le_refl _) _).alloc (by simp) _
  have HM : Hid (k ≤ 1000000 ∧ m ≤ 1000000) := ⟨by omega, by omega⟩
  obtain ⟨c0, c1, c2, -, -, -⟩ := box3_cells HX0.out
  obtain ⟨ce, hce⟩ : ∃ ce, checkE n = ce := ⟨_, rfl⟩
  have HCE := Lib.hid hce
  clear hce h hp
  go_enter Try.func51, Try.ntmps51
  go_upto_region 2 with (go_at_call 57; go_loud (refine (check_any n ⟨sa, k, sc⟩ ⟨la, m, lc⟩ _ HM.out (HH.out.below HB0.out)).mono ?_); rintro e w1 ⟨rfl, hb1⟩; rw [HCE.out]; have HB1 := Lib.hid (HB0.out.trans (hb1.mono HB0.out.size)); have HX1 := Lib.hid (box_below HX0.out hb1); have HR1 := Lib.hid (box_below HR0.out hb1); clear hb1)
  clear c0 c1 c2 HX0 HB0 HR0
  obtain ⟨c0, c1, c2, -, -, -⟩ := box3_cells HX1.out
  by_cases he : ce = 0
  case neg =>
    have e0 : (ce == 0) = false := by simpa using he
    obtain ⟨q0, q1, q2, q3⟩ := box4_cells HR1.out
    have f0 := (box_cell HR1.out 0).2
    have f1 := (box_cell HR1.out 1).2
    have f2 := (box_cell HR1.out 2).2
    have f3 := (box_cell HR1.out 3).2
    have hlt := box_lt HR1.out
    go_wp2_with fail
    refine bodyPost_ret (results_row_tmp rfl _ _ (w.heap.size + 1) _ _ _ _ rfl (box4_set HR1.out _ _ _ _) Try.underlying78 rfl (by kernel_rfl)) rfl ?_
    rw [HCE.out]
    exact ⟨below_set (below_set (below_set (below_set HB1.out (by omega)) (by omega)) (by omega)) (by omega), fun _ => rfl, fun q => absurd q he⟩
  case pos =>
    subst he
    have hmkm := run_make_row' (P := Try.prog) 42 3 (.int .i64 0) 8 Try.underlying42 infoI rfl .i64 .i64 m (by omega) (by omega)
    have hmkk := run_make_row' (P := Try.prog) 42 3 (.int .i64 0) 8 Try.underlying42 infoI rfl .i64 .i64 k (by omega) (by omega)
    have hp4 : decide ((4096 : Int) < (pn : Int)) = false := decide_eq_false (by omega)
    have hxl := box_lt HX1.out
    have hxr := box_lt HR1.out
    go_upto_region 6 with fail
    have a11 : ∀ o, (w1.alloc o).cell? ⟨w.heap.size, 1, none⟩ = some (.slice sa k sc) := fun o => cell_alloc c1 _
    have a12 : ∀ o, (w1.alloc o).cell? ⟨w.heap.size, 2, none⟩ = some (.slice la m lc) := fun o => cell_alloc c2 _
    have a21 : ∀ o o', ((w1.alloc o).alloc o').cell? ⟨w.heap.size, 1, none⟩ = some (.slice sa k sc) := fun o _ => cell_alloc (a11 o) _
    have a22 : ∀ o o', ((w1.alloc o).alloc o').cell? ⟨w.heap.size, 2, none⟩ = some (.slice la m lc) := fun o _ => cell_alloc (a12 o) _
    have a31 : ∀ o o' o'', (((w1.alloc o).alloc o').alloc o'').cell? ⟨w.heap.size, 1, none⟩ = some (.slice sa k sc) := fun o o' _ => cell_alloc (a21 o o') _
    have a32 : ∀ o o' o'', (((w1.alloc o).alloc o').alloc o'').cell? ⟨w.heap.size, 2, none⟩ = some (.slice la m lc) := fun o o' _ => cell_alloc (a22 o o') _
    have a41 : ∀ o o' o'' o3, ((((w1.alloc o).alloc o').alloc o'').alloc o3).cell? ⟨w.heap.size, 1, none⟩ = some (.slice sa k sc) := fun o o' o'' _ => cell_alloc (a31 o o' o'') _
    have a42 : ∀ o o' o'' o3, ((((w1.alloc o).alloc o').alloc o'').alloc o3).cell? ⟨w.heap.size, 2, none⟩ = some (.slice la m lc) := fun o o' o'' _ => cell_alloc (a32 o o' o'') _
    go_cut [7] (fun v wx => ∃ g o1 o2 o3, v = .pointer (some ⟨g, 0, none⟩) ∧ Hid (FM w wx n ⟨sa, k, sc⟩ ⟨la, m, lc⟩ g o1 o2 o3 m k Fw.zero))
    case first =>
      go_region_held3 (fun w' => w'.cell? ⟨w.heap.size, 1, none⟩ = some (.slice sa k sc) ∧ w'.cell? ⟨w.heap.size, 2, none⟩ = some (.slice la m lc)) (go_keep) (fail)
      all_goals
        go_wp2_with fail
        go_meet
        exact FM.ex (by omega) (by omega) (box_alloc (box_alloc (box_alloc (box_alloc HX1.out)))) (box_alloc (box_alloc (box_alloc (box_alloc HR1.out))))
          (by first | (refine bnew ?_; simp; done) | (refine box_alloc (bnew ?_); simp; done) | (refine box_alloc (box_alloc (bnew ?_)); simp; done) | (refine box_alloc (box_alloc (box_alloc (bnew ?_))); simp; done))
          (by first | (refine bnew ?_; simp; done) | (refine box_alloc (bnew ?_); simp; done) | (refine box_alloc (box_alloc (bnew ?_)); simp; done) | (refine box_alloc (box_alloc (box_alloc (bnew ?_))); simp; done))
          (by first | (refine bnew ?_; simp; done) | (refine box_alloc (bnew ?_); simp; done) | (refine box_alloc (box_alloc (bnew ?_)); simp; done) | (refine box_alloc (box_alloc (box_alloc (bnew ?_))); simp; done))
          (by first | (refine bnew ?_; simp; done) | (refine box_alloc (bnew ?_); simp; done) | (refine box_alloc (box_alloc (bnew ?_)); simp; done) | (refine box_alloc (box_alloc (box_alloc (bnew ?_))); simp; done))
          ((((HB1.out.alloc (by omega) _).alloc (by simp; omega) _).alloc (by simp; omega) _).alloc (by simp; omega) _)
          (by refine ⟨?_, ?_, ?_, ?_, ?_, ?_, ?_, ?_, ?_, ?_⟩ <;> omega)
    case rest =>
      obtain ⟨g, o1, o2, o3, rfl, HF0⟩ := hcut
      clear c0 c1 c2 a11 a12 a21 a22 a31 a32 a41 a42 hmkm hmkk hxl hxr HX1 HR1 HB1
      rename World => W
      have HLO : Hid (LinksOk n.links k) := by have e : k = n.stops.length := HKN.out; show LinksOk _ _; rw [e]; exact (check_ok HCE.out).2.2.2.2.1
      have HPW : Hid (n.links.Pairwise fun a b => aftB a b = true) := (check_ok HCE.out).2.2.2.2.2
      have HWL : Hid (∀ a b : Int, wayErr n k a b = 0 → 0 ≤ a ∧ a < k ∧ 0 ≤ b ∧ b < k ∧ 0 ≤ far n.links k a b ∧ (wayL n.links k a b).length ≤ 30000000000) := by
        intro a b q
        have e : k = n.stops.length := HKN.out
        unfold wayErr at q
        split at q
        · next q1 => exact absurd q q1
        · next q1 =>
          have hf : fromE n a = 0 := Classical.byContradiction q1
          unfold fromE at hf
          rw [if_pos HCE.out] at hf
          split at hf
          · next q2 =>
            split at q
            · next q3 =>
              split at q
              · cases q
              · next q4 =>
                rw [← e] at q2
                have := wayL_len n.links k a b
                have := (far_lim HLO.out q2 h60 (by rw [← HLN.out]; exact h120) b).2
                exact ⟨q2.1, q2.2, q3.1, q3.2, by omega, by omega⟩
            · cases q
          · cases hf
      have HLI : Hid (∀ j, j ≤ ps.length → (cntF n k (ps.take j) Fw.zero).Lim j) := by
        intro j
        induction j with
        | zero => intro _; exact Fw.Lim.zero
        | succ j ih =>
          intro hj
          obtain ⟨p, hp⟩ : ∃ p, ps[j]? = some p := ⟨ps[j], List.getElem?_eq_getElem (by omega)⟩
          rw [cntF_snoc hp]
          exact (ih (by omega)).go (fun q => (HWL.out _ _ q).2.2.2.2.2)
      obtain ⟨c0, c1, c2, -, -, -⟩ := box3_cells HF0.out.bx
      go_upto_region 8 with (go_at_call 85; go_loud (refine (places_any n ⟨sa, k, sc⟩ ⟨la, m, lc⟩ _ (HH.out.below HF0.out.bl) HCE.out).mono ?_); rintro e w2 ⟨mg, rfl, hmg, hpl, hb2⟩; have HF2 := Lib.hid (HF0.out.below hb2); have HPL := Lib.hid hpl; have HMG : Hid (mg ≠ o1 ∧ mg ≠ o2 ∧ mg ≠ o3 ∧ mg ≠ g) := (by have a1 := (World.ownsRow.lt HF0.out.r1 o1 rfl).2; have a2 := (World.ownsRow.lt HF0.out.r2 o2 rfl).2; have a3 := (World.ownsRow.lt HF0.out.r3 o3 rfl).2; have a4 := box_lt HF0.out.fb; show _ ∧ _ ∧ _ ∧ _; omega); clear hb2 hmg hpl)
      clear HF0 c0 c1 c2
      go_wp2_with fail
      go_loopw [42] (fun i wr => ∃ j : Nat, i = .int .i64 j ∧ j ≤ pn ∧ Hid (FM w wr n ⟨sa, k, sc⟩ ⟨la, m, lc⟩ g o1 o2 o3 m k (cntF n k (ps.take j) Fw.zero)) ∧ Hid (PlIn wr mg m n.links)) (fun i _ => pn - (intOf i).toNat)
      case atStart => exact ⟨0, by go_num, by omega, HF2.out, HPL.out⟩
      case round =>
        clear HF2 HPL
        obtain ⟨j, rfl, hj, HF, HP⟩ := hrel
        by_cases hlt : j < pn
        · obtain ⟨bl, off, p, e1, hbl, hpj, p0, p1⟩ := pr2_at (HPP.out.below HF.out.bl) hlt
          have e1 : pa = _ := e1
          subst e1
          have hcs := cntF_snoc (n := n) (k := k) (F := Fw.zero) hpj
          have hjl : j + 1 ≤ ps.length := by have := (List.getElem?_eq_some_iff.1 hpj).1; omega
          have hlm := HLI.out j (by omega)
          obtain ⟨F, hF⟩ : ∃ F, cntF n k (ps.take j) Fw.zero = F := ⟨_, rfl⟩
          rw [hF] at hcs hlm HF
          have HCS := Lib.hid hcs
          have HLM := Lib.hid hlm
          have hji : (j : Int) < (pn : Int) := by omega
          obtain ⟨P, Q⟩ := p
          have HWPQ := Lib.hid (HWL.out P Q)
          obtain ⟨ev, hev⟩ : ∃ ev, wayErr n k P Q = ev := ⟨_, rfl⟩
          have HEV := Lib.hid hev
          clear hcs hlm hF hpj hev
          obtain ⟨hx1, hx2⟩ := HLM.out.x
          have HFa := Lib.hid (HF.out.below ((Below.refl _ _).alloc (Nat.le_refl _) (.cells #[.int .i64 P, .int .i64 Q] 35)))
          have HPa : Hid (PlIn (wr.alloc (.cells #[.int .i64 P, .int .i64 Q] 35)) mg m n.links) := HP.out.kept (World.grownBy_alloc wr _ none) (by simp)
          have HYa := Lib.hid (box_new wr (.cells #[.int .i64 P, .int .i64 Q] 35))
          obtain ⟨c0, c1, c2, -, -, -⟩ := box3_cells HF.out.bx
          have hzl := box_lt HF.out.bx
          go_upto_region 12 with (go_at_call 45; go_loud (refine (pway_own n ⟨sa, k, sc⟩ ⟨la, m, lc⟩ P Q _ h60 h120 (HH.out.below HFa.out.bl)).mono ?_); rintro e w4 ⟨va, vn, vc, rfl, hv2, hb4⟩; rw [show wayErr n (Hdr.mk sa k sc).n P Q = ev from HEV.out]; have HV : Hid (wayErr n k P Q = 0 → V.Own 3 icod (wr.alloc (.cells #[.int .i64 P, .int .i64 Q] 35)).heap.size w4 (.slice va vn vc) (wayL n.links k P Q)) := hv2; have HF4 := Lib.hid (HFa.out.below hb4); have HP4 : Hid (PlIn w4 mg m n.links) := HPa.out.kept (grownN hb4) (by simp); have HY4 := Lib.hid (box_below HYa.out hb4); clear hb4 hv2)
          clear c0 c1 c2
          have hyw := box_lt HY4.out
          obtain ⟨y0, y1, -, -⟩ := box2_cells HY4.out
          obtain ⟨c0, c1, c2, c3, cf⟩ := HF4.out.cells
          by_cases he : ev = 0
          case neg =>
            have e0 : (ev == 0) = false := by simpa using he
            have HST : Hid (cntF n k (ps.take (j + 1)) Fw.zero = ⟨F.L, F.on, F.off, F.lost + 1⟩) := by
              show _ = _
              rw [HCS.out]; unfold stepF; rw [if_neg (by rw [HEV.out]; exact he)]
            have HF5 := Lib.hid HF4.out.lose
            have HP5 : Hid (PlIn (w4.setCell ⟨g, 3, none⟩ (.int .i64 (F.lost + 1))) mg m n.links) := HP4.out.kept (set_grown w4 g 3 _) (fun e => HMG.out.2.2.2 (Option.some.inj e))
            have hgl := box_lt HF4.out.fb
            go_wp2_with fail
            go_roundw
            case rel => exact ⟨j + 1, by go_num, by omega, by show FM _ _ _ _ _ _ _ _ _ _ _ _; rw [HST.out]; exact HF5.out, HP5.out⟩
            case measure => simp [intOf]; omega
          case pos =>
            subst he
            obtain ⟨g1, g2, g3, g4, g5, g6⟩ := HWPQ.out HEV.out
            obtain ⟨a, rfl⟩ : ∃ a : Nat, P = a := ⟨P.toNat, by omega⟩
            obtain ⟨b, rfl⟩ : ∃ b : Nat, Q = b := ⟨Q.toNat, by omega⟩
            have hak : a < k := by omega
            have hbk : b < k := by omega
            have how := HV.out HEV.out
            have hgd := wayL_good HLO.out HPW.out ⟨g1, g2⟩ g5
            obtain ⟨vb, cap', cur', hve, hvb, -⟩ := own_ne how hgd.ne
            simp only [Value.slice.injEq] at hve
            obtain ⟨rfl, hvn, rfl⟩ := hve
            rw [World.size_alloc] at hvb
            have HVN : Hid (vn = (wayL n.links k a b).length) := hvn
            have hv1 : 1 ≤ vn := by rw [hvn]; exact List.length_pos_iff.2 hgd.ne
            have hv9 : vn ≤ 30000000000 := by rw [hvn]; exact g6
            have HPR : Hid (∀ c, c + 1 < vn → wtE n.links ((wayL n.links k a b).getD c 0) ((wayL n.links k a b).getD (c + 1) 0) ≠ 0) := fun c hc => wayL_pair HLO.out HPW.out ⟨g1, g2⟩ g5 (by rw [← hvn]; exact hc)
            have hvo : vb ≠ o1 ∧ vb ≠ o2 ∧ vb ≠ o3 := by
              have q1 := (World.ownsRow.lt HF.out.r1 o1 rfl).2
              have q2 := (World.ownsRow.lt HF.out.r2 o2 rfl).2
              have q3 := (World.ownsRow.lt HF.out.r3 o3 rfl).2
              omega
            have HST : Hid (cntF n k (ps.take (j + 1)) Fw.zero = ⟨fun i => F.L i + hitsAt n.links (wayL n.links k a b) (vn - 1) i, ups F.on a, ups F.off b, F.lost⟩) := by
              show _ = _
              rw [HCS.out]; unfold stepF; rw [if_pos HEV.out, hvn]; rfl
            have HOW := Lib.hid how
            clear how hgd hvn g6
            obtain ⟨r0, rf, rl⟩ := fl_cell HF4.out.r2 hak
            have HF5 := Lib.hid (HF4.out.set2 a)
            obtain ⟨s0, sf, sl⟩ := fl_cell HF5.out.r3 hbk
            have HF6 := Lib.hid (HF5.out.set3 b)
            obtain ⟨d0, d1, d2, d3, df⟩ := HF5.out.cells
            have hn1 := HLM.out.n a
            have hn2 := HLM.out.f b
            have hb5 : wr.heap.size ≠ o2 := by have := (World.ownsRow.lt HF.out.r2 o2 rfl).2; omega
            have HY5 := Lib.hid (box_kept_set (i := a) (v := .int .i64 (F.on a + 1)) HY4.out hb5)
            obtain ⟨z0, z1, -, -⟩ := box2_cells HY5.out
            have hai : (a : Int) < (k : Int) := by omega
            have hbi : (b : Int) < (k : Int) := by omega
            have HO6 : Hid (V.Own 3 icod (wr.heap.size + 1) ((w4.setCell ⟨o2, a, none⟩ (.int .i64 (F.on a + 1))).setCell ⟨o3, b, none⟩ (.int .i64 (F.off b + 1))) (.slice (some ⟨vb, 0, none⟩) vn vc) (wayL n.links k a b)) := own_kept_set (own_kept_set (by have := HOW.out; rwa [World.size_alloc] at this) hvo.2.1) hvo.2.2
            have HP6 : Hid (PlIn ((w4.setCell ⟨o2, a, none⟩ (.int .i64 (F.on a + 1))).setCell ⟨o3, b, none⟩ (.int .i64 (F.off b + 1))) mg m n.links) := (HP4.out.kept (set_grown w4 o2 a _) (fun e => HMG.out.2.1 (Option.some.inj e))).kept (set_grown _ o3 b _) (fun e => HMG.out.2.2.1 (Option.some.inj e))
            have HB0 : Hid (wr.heap.size + 1 ≤ wr.heap.size + 1) := Nat.le_refl _
            obtain ⟨B0, hB0⟩ : ∃ B0, wr.heap.size + 1 = B0 := ⟨_, rfl⟩
            rw [hB0] at HO6
            go_upto_region 17 with fail
            go_loopw [14] (fun i wr => ∃ c : Nat, i = .int .i64 ((c + 1 : Nat) : Int) ∧ c + 1 ≤ vn ∧ Hid (FM w wr n ⟨sa, k, sc⟩ ⟨la, m, lc⟩ g o1 o2 o3 m k ⟨fun i => F.L i + hitsAt n.links (wayL n.links k a b) c i, ups F.on a, ups F.off b, F.lost⟩) ∧ Hid (PlIn wr mg m n.links) ∧ Hid (V.Own 3 icod B0 wr (.slice (some ⟨vb, 0, none⟩) vn vc) (wayL n.links k a b))) (fun i _ => vn - (intOf i).toNat)
            case atStart => exact ⟨0, by go_num, by omega, by have := HF6.out; simp only [hitsAt_zero, Int.add_zero]; exact this, HP6.out, HO6.out⟩
            case round =>
              clear HO6 HP6 HF6 HF5 HF4 HP4 HY4 HY5 y0 y1 z0 z1 c0 c1 c2 c3 cf d0 d1 d2 d3 df r0 rf rl s0 sf sl HV HFa HPa HYa HOW
              obtain ⟨c, rfl, hc, HF7, HP7, HO7⟩ := hrel
              have HWL7 := Lib.hid (wayL_len n.links k a b)
              by_cases hlt2 : c + 1 < vn
              · have hxl : vn = (wayL n.links k a b).length := HVN.out
                obtain ⟨u, hu, q0, -, -⟩ := icells HO7.out hxl (show c < vn by omega)
                obtain ⟨v, hv, q1, -, hvw⟩ := icells HO7.out hxl hlt2
                have hgu : (wayL n.links k a b).getD c 0 = u := by rw [List.getD_eq_getElem?_getD, hu]; rfl
                have hgv : (wayL n.links k a b).getD (c + 1) 0 = v := by rw [List.getD_eq_getElem?_getD, hv]; rfl
                have hwt := HPR.out c hlt2
                rw [hgu, hgv] at hwt
                obtain ⟨e, l, hel, hla, hlb, hph, huq⟩ := pair_at HLO.out HPW.out hwt
                have hem : e < m := by have := (List.getElem?_eq_some_iff.1 hel).1; have q : m = n.links.length := HLN.out; omega
                have hls := HLO.out l (List.mem_of_getElem? hel)
                have hnx := hitsAt_step hgu hgv hel hph huq F.L
                have HKY := Lib.hid (kyL_of (a := l.a) (b := l.b) (by omega) (by omega))
                obtain ⟨D, hD, hat⟩ := HP7.out
                have HAT := Lib.hid (hat e l hel)
                have HD := Lib.hid hD
                have hfl := HLM.out.l e
                have hhl := hitsAt_lim n.links (wayL n.links k a b) c e
                obtain ⟨f, hf⟩ : ∃ f, (fun i => F.L i + hitsAt n.links (wayL n.links k a b) c i) = f := ⟨_, rfl⟩
                have hfe : F.L e + hitsAt n.links (wayL n.links k a b) c e = f e := by rw [← hf]
                rw [hf] at HF7 hnx
                have hf0 : 0 ≤ f e ∧ f e ≤ 1000000000000000 := by omega
                have HNX := Lib.hid hnx
                clear hu hv hgu hgv hwt hel hph huq hnx hat hD hfl hhl hf hls hxl hfe
                obtain ⟨d0, d1, d2, d3, df⟩ := HF7.out.cells
                have dl := box_lt HF7.out.fb
                obtain ⟨r0, rf, rl⟩ := fl_cell HF7.out.r1 hem
                have hcw : IntKind.i64.wrap (c : Int) = (c : Int) := by rw [IntKind.wrap_i64]; omega
                have hci : (c : Int) < (vn : Int) := by omega
                have hci2 : (c : Int) + 1 < (vn : Int) := by omega
                have hci3 : (0 : Int) ≤ (c : Int) + 1 := by omega
                have hei : (e : Int) < (m : Int) := by omega
                have hadd : IntKind.i64.wrap (f e + 1) = f e + 1 := by rw [IntKind.wrap_i64]; omega
                have HHM : Hid (min u v = l.a ∧ max u v = l.b) := ⟨hla.symm, hlb.symm⟩
                clear hla hlb
                have HFd := Lib.hid (HF7.out.below (Below.drew (Below.refl _ _)))
                have HOd := Lib.hid (HO7.out.below (Below.drew (Below.refl _ _)))
                have HDd := Lib.hid (HD.out.drew)
                go_upto_region 19 with fail
                go_region_with (first
                  | (go_at_call 86; go_loud (refine (of_any u v wr.drew).mono ?_); rintro e' w7 ⟨rfl, hb7⟩; rw [HHM.out.1, HHM.out.2]; have HF8 := Lib.hid (HFd.out.below hb7); have HD8 := Lib.hid (HDd.out.kept (grownN hb7) (by simp)); have HO8 := Lib.hid (HOd.out.below hb7); have HB7 := Lib.hid hb7; obtain ⟨k0, k1, k2, k3, kf⟩ := HF8.out.cells; obtain ⟨m0, mf, ml⟩ := fl_cell HF8.out.r1 hem; obtain ⟨ci, hrun, hcat, -⟩ := HD8.out.lookup_int lawE Try.underlying134 Try.underlying3 (zeroI _) HKY.out; have hce : ci = (e : Int) := (by have := hcat.symm.trans HAT.out; simpa using this); subst hce; clear hcat hb7))
                all_goals
                  have HF9 : Hid (FM w (w7.setCell ⟨o1, e, none⟩ (.int .i64 (f e + 1))) n ⟨sa, k, sc⟩ ⟨la, m, lc⟩ g o1 o2 o3 m k ⟨fun i => F.L i + hitsAt n.links (wayL n.links k a b) (c + 1) i, ups F.on a, ups F.off b, F.lost⟩) := by
                    show FM _ _ _ _ _ _ _ _ _ _ _ _
                    rw [HNX.out]; exact HF8.out.set1 e
                  have HP9 : Hid (PlIn (w7.setCell ⟨o1, e, none⟩ (.int .i64 (f e + 1))) mg m n.links) := PlIn.kept (HP7.out.kept (grownN (Below.drew (Below.refl _ _))) (by simp) |>.kept (grownN HB7.out) (by simp)) (set_grown w7 o1 e _) (fun q => HMG.out.1 (Option.some.inj q))
                  have HO9 := Lib.hid (own_kept_set (i := e) (v := .int .i64 (f e + 1)) HO8.out hvo.1)
                  go_wp2_with fail
                  go_roundw
                  case rel => exact ⟨c + 1, by go_num, by omega, HF9.out, HP9.out, HO9.out⟩
                  case measure => simp [intOf]; omega
              · have hcv : vn = c + 1 := by omega
                have HFE : Hid (FM w wr n ⟨sa, k, sc⟩ ⟨la, m, lc⟩ g o1 o2 o3 m k (cntF n k (ps.take (j + 1)) Fw.zero)) := by
                  show FM _ _ _ _ _ _ _ _ _ _ _ _
                  rw [HST.out, hcv]; exact HF7.out
                have hci2 : decide ((c : Int) + 1 < (vn : Int)) = false := decide_eq_false (by omega)
                clear hcv
                go_wp2_with fail
                go_roundw
                case rel => exact ⟨j + 1, by go_num, by omega, HFE.out, HP7.out⟩
                case measure => simp [intOf]; omega
        · have hjn : pn = j := by omega
          subst hjn
          have HPN : Hid (ps.take pn = ps) := List.take_of_length_le (by rw [← HPP.out.hlen]; exact Nat.le_refl _)
          rw [HPN.out] at HF
          obtain ⟨c0, c1, c2, c3, cf⟩ := HF.out.cells
          obtain ⟨q0, q1, q2, q3⟩ := box4_cells HF.out.rb
          have f0 := (box_cell HF.out.rb 0).2
          have f1 := (box_cell HF.out.rb 1).2
          have f2 := (box_cell HF.out.rb 2).2
          have f3 := (box_cell HF.out.rb 3).2
          have hrl := box_lt HF.out.rb
          obtain ⟨F, hF⟩ : ∃ F, cntF n k ps Fw.zero = F := ⟨_, rfl⟩
          have HFF := Lib.hid hF
          rw [hF] at c3
          clear hF
          obtain ⟨b1, b2, b3⟩ := HF.out.o1b
          have hn1 : o1 ≠ w.heap.size + 1 := by omega
          have hn2 : o2 ≠ w.heap.size + 1 := by omega
          have hn3 : o3 ≠ w.heap.size + 1 := by omega
          go_wp2_with fail
          refine bodyPost_ret (results_row_tmp rfl _ _ (w.heap.size + 1) _ _ _ _ rfl (box4_set HF.out.rb _ _ _ _) Try.underlying78 rfl (by kernel_rfl)) rfl ⟨below_set (below_set (below_set (below_set HF.out.bl (by omega)) (by omega)) (by omega)) (by omega), fun q => absurd HCE.out q, fun _ => ⟨⟨⟨some ⟨o1, 0, none⟩, m, m⟩, ⟨some ⟨o2, 0, none⟩, k, k⟩, ⟨some ⟨o3, 0, none⟩, k, k⟩⟩, ?_, ⟨?_, ?_, ?_⟩, ?_⟩⟩
          · rw [HFF.out]; rfl
          · exact (own_sl (own_kept_set (own_kept_set (own_kept_set (own_kept_set HF.out.r1 hn1) hn1) hn1) hn1)).1
          · exact (own_sl (own_kept_set (own_kept_set (own_kept_set (own_kept_set HF.out.r2 hn2) hn2) hn2) hn2)).1
          · exact (own_sl (own_kept_set (own_kept_set (own_kept_set (own_kept_set HF.out.r3 hn3) hn3) hn3) hn3)).1
          · intro d hd
            rcases hd with hd | hd | hd <;> cases hd <;> first | exact (show w.heap.size ≤ o1 by omega) | exact (show w.heap.size ≤ o2 by omega) | exact (show w.heap.size ≤ o3 by omega)
end Go.Proofs.Yteihffnmgacfpaa.Ne
