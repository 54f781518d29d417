/- Candidates: where there are no points: walked. -/
import Derived.Test.YtknbpnkonhniiaaCnC
namespace Go.Proofs.Ytknbpnkonhniiaa.Ne
open Go.RowKit Go.V Go.Shelf Go.Proofs

set_option maxHeartbeats 8000000 in
set_option maxRecDepth 100000 in
theorem cpoints_bad (gv : Value) (gl : Int) (n : Net) (hs hl : Hdr) (x : Wgh) (s : Smp) (w : World)
    (hlen : ∀ W, Below w.heap.size w W → Calls Try.prog 27 #[gv] W fun e w' => e = .returned (.int .i64 gl) ∧ Below W.heap.size W w')
    (hbad : mayW x = false ∨ smpB s = false ∨ gl ≠ hs.n) :
    Calls Try.prog 15 #[gv, n.val hs hl, x.val, s.val] w fun e w' => e = .returned (.tuple #[.slice none 0 0, .int .i64 2]) ∧ Below w.heap.size w w' := by
  obtain ⟨xr, xm, xf, xc⟩ := x
  have HX0 : Hid ((((w.alloc (n.box hs hl)).alloc (Wgh.mk xr xm xf xc).box).alloc (.cells #[.int .i64 s.t, .int .i64 s.x, .int .i64 s.y] 42)).heap[w.heap.size]? = some (n.box hs hl)) := box_alloc (box_alloc (box_new w _))
  have HY0 : Hid ((((w.alloc (n.box hs hl)).alloc (Wgh.mk xr xm xf xc).box).alloc (.cells #[.int .i64 s.t, .int .i64 s.x, .int .i64 s.y] 42)).heap[w.heap.size + 1]? = some (Wgh.mk xr xm xf xc).box) := by
    have := box_new (w.alloc (n.box hs hl)) (Wgh.mk xr xm xf xc).box
    rw [World.size_alloc] at this
    exact box_alloc this
  have HZ0 : Hid ((((w.alloc (n.box hs hl)).alloc (Wgh.mk xr xm xf xc).box).alloc (.cells #[.int .i64 s.t, .int .i64 s.x, .int .i64 s.y] 42)).heap[w.heap.size + 2]? = some (.cells #[.int .i64 s.t, .int .i64 s.x, .int .i64 s.y] 42 (0, 0))) := by
    have := box_new ((w.alloc (n.box hs hl)).alloc (Wgh.mk xr xm xf xc).box) (.cells #[.int .i64 s.t, .int .i64 s.x, .int .i64 s.y] 42)
    rw [World.size_alloc, World.size_alloc] at this
    exact this
  have HB0 : Hid (Below w.heap.size w (((w.alloc (n.box hs hl)).alloc (Wgh.mk xr xm xf xc).box).alloc (.cells #[.int .i64 s.t, .int .i64 s.x, .int .i64 s.y] 42))) := (((Below.refl _ _).alloc (Nat.le_refl _) _).alloc (by simp) _).alloc (by simp; omega) _
  have hs0 : (((w.alloc (n.box hs hl)).alloc (Wgh.mk xr xm xf xc).box).alloc (.cells #[.int .i64 s.t, .int .i64 s.x, .int .i64 s.y] 42)).heap.size = w.heap.size + 3 := by simp
  have mixed : Try.prog.follows .mixedOrders = true := by kernel_rfl
  obtain ⟨bm, hbm⟩ : ∃ b, mayW ⟨xr, xm, xf, xc⟩ = b := ⟨_, rfl⟩
  obtain ⟨bs, hbs⟩ : ∃ b, smpB s = b := ⟨_, rfl⟩
  have HLEN := Lib.hid hlen
  have HBM := Lib.hid hbm
  have HBS := Lib.hid hbs
  rw [hbm, hbs] at hbad
  have HBAD := Lib.hid hbad
  clear hlen hbm hbs hbad
  refine (callsIn_wide (n := 8)).1 ?_
  refine callsIn_of_wp_marks Try.func15 rfl trivial ?_ rfl
  simp only [Try.ntmps15, List.size_toArray, List.length_cons, List.length_nil, Nat.reduceAdd, Nat.reduceSub, Array.replicate_succ, Array.replicate_zero, List.push_toArray, List.append_toArray, List.nil_append, List.cons_append]
  rw [wpIn_wide]
  go_upto_region 1 with fail
  obtain ⟨W0, hW0⟩ : ∃ W0, ((w.alloc (n.box hs hl)).alloc (Wgh.mk xr xm xf xc).box).alloc (.cells #[.int .i64 s.t, .int .i64 s.x, .int .i64 s.y] 42) = W0 := ⟨_, rfl⟩
  rw [hW0] at HX0 HY0 HZ0 HB0 hs0 ⊢
  clear hW0
  have x1 : W0.cell? ⟨w.heap.size, 1, none⟩ = some (.slice hs.a hs.n hs.cap) := (box_cell HX0.out 1).1
  have y0 : W0.cell? ⟨w.heap.size + 1, 0, none⟩ = some (.int .i64 xr) := (box_cell HY0.out 0).1
  have y1 : W0.cell? ⟨w.heap.size + 1, 1, none⟩ = some (.int .i64 xm) := (box_cell HY0.out 1).1
  have y2 : W0.cell? ⟨w.heap.size + 1, 2, none⟩ = some (.int .i64 xf) := (box_cell HY0.out 2).1
  have y3 : W0.cell? ⟨w.heap.size + 1, 3, none⟩ = some (.int .i64 xc) := (box_cell HY0.out 3).1
  have z0 : W0.cell? ⟨w.heap.size + 1 + 1, 0, none⟩ = some (.int .i64 s.t) := (box_cell HZ0.out 0).1
  have z1 : W0.cell? ⟨w.heap.size + 1 + 1, 1, none⟩ = some (.int .i64 s.x) := (box_cell HZ0.out 1).1
  have z2 : W0.cell? ⟨w.heap.size + 1 + 1, 2, none⟩ = some (.int .i64 s.y) := (box_cell HZ0.out 2).1
  have X1 := cell_regrown x1
  have Y0 := cell_regrown y0
  have Y1 := cell_regrown y1
  have Y2 := cell_regrown y2
  have Y3 := cell_regrown y3
  have Z0 := cell_regrown z0
  have Z1 := cell_regrown z1
  have Z2 := cell_regrown z2
  have q1 : ∀ nd osq, Calls Try.prog 10 #[(Wgh.mk xr xm xf xc).val] (Go.Sort.grow (redrawn W0 nd) osq) fun e w' => e = .returned (.bool bm) ∧ Below (Go.Sort.grow (redrawn W0 nd) osq).heap.size (Go.Sort.grow (redrawn W0 nd) osq) w' := fun nd osq => (cmay_any ⟨xr, xm, xf, xc⟩ _).mono fun e w' ⟨k1, k2⟩ => ⟨by rw [k1, HBM.out], k2⟩
  have q2 : ∀ nd osq, Calls Try.prog 19 #[s.val] (Go.Sort.grow (redrawn W0 nd) osq) fun e w' => e = .returned (.bool bs) ∧ Below (Go.Sort.grow (redrawn W0 nd) osq).heap.size (Go.Sort.grow (redrawn W0 nd) osq) w' := fun nd osq => (smay_any s _).mono fun e w' ⟨k1, k2⟩ => ⟨by rw [k1, HBS.out], k2⟩
  have q3 : ∀ nd osq, Calls Try.prog 27 #[gv] (Go.Sort.grow (redrawn W0 nd) osq) fun e w' => e = .returned (.int .i64 gl) ∧ Below (Go.Sort.grow (redrawn W0 nd) osq).heap.size (Go.Sort.grow (redrawn W0 nd) osq) w' := fun nd osq => HLEN.out _ (HB0.out.trans ((below_regrown W0 nd osq).mono HB0.out.size))
  clear x1 y0 y1 y2 y3 z0 z1 z2
  have HEND : Hid (∀ nd osq, Below w.heap.size w (Go.Sort.grow (redrawn W0 nd) osq)) := fun nd osq => HB0.out.trans ((below_regrown W0 nd osq).mono HB0.out.size)
  cases bm with
  | false =>
    refine wp_region_quiet_below (by assumption) (by kernel_rfl) ?_
    repeat (go_big_quiet_step (first
      | (go_at_call 10; exact Calls.regrown_of (q1 _ _))
      | (go_at_call 19; exact Calls.regrown_of (q2 _ _))
      | (go_at_call 27; exact Calls.regrown_of (q3 _ _))))
    refine wpQuiet_nil ?_
    intro w9 hw9
    obtain ⟨⟨nd, osq⟩, rfl⟩ := hw9
    have HB9 := Lib.hid (HEND.out nd osq)
    clear X1 Y0 Y1 Y2 Y3 Z0 Z1 Z2 q1 q2 q3
    generalize Go.Sort.grow (redrawn W0 nd) osq = w9 at HB9 ⊢
    go_wp2_with fail
    refine ⟨_, results_tmp2 rfl _ _ _, ?_⟩
    exact ⟨rfl, HB9.out⟩
  | true =>
    cases bs with
    | false =>
      refine wp_region_quiet_below (by assumption) (by kernel_rfl) ?_
      repeat (go_big_quiet_step (first
        | (go_at_call 10; exact Calls.regrown_of (q1 _ _))
        | (go_at_call 19; exact Calls.regrown_of (q2 _ _))
        | (go_at_call 27; exact Calls.regrown_of (q3 _ _))))
      refine wpQuiet_nil ?_
      intro w9 hw9
      obtain ⟨⟨nd, osq⟩, rfl⟩ := hw9
      have HB9 := Lib.hid (HEND.out nd osq)
      clear X1 Y0 Y1 Y2 Y3 Z0 Z1 Z2 q1 q2 q3
      generalize Go.Sort.grow (redrawn W0 nd) osq = w9 at HB9 ⊢
      go_wp2_with fail
      refine ⟨_, results_tmp2 rfl _ _ _, ?_⟩
      exact ⟨rfl, HB9.out⟩
    | true =>
      have hne : gl ≠ hs.n := by
        rcases HBAD.out with e | e | e
        · cases e
        · cases e
        · exact e
      have hneb : (gl != (hs.n : Int)) = true := by simpa using hne
      clear hne
      refine wp_region_quiet_below (by assumption) (by kernel_rfl) ?_
      repeat (go_big_quiet_step (first
        | (go_at_call 10; exact Calls.regrown_of (q1 _ _))
        | (go_at_call 19; exact Calls.regrown_of (q2 _ _))
        | (go_at_call 27; exact Calls.regrown_of (q3 _ _))))
      refine wpQuiet_nil ?_
      intro w9 hw9
      obtain ⟨⟨nd, osq⟩, rfl⟩ := hw9
      have HB9 := Lib.hid (HEND.out nd osq)
      clear X1 Y0 Y1 Y2 Y3 Z0 Z1 Z2 q1 q2 q3
      generalize Go.Sort.grow (redrawn W0 nd) osq = w9 at HB9 ⊢
      go_wp2_with fail
      refine ⟨_, results_tmp2 rfl _ _ _, ?_⟩
      exact ⟨rfl, HB9.out⟩
end Go.Proofs.Ytknbpnkonhniiaa.Ne
