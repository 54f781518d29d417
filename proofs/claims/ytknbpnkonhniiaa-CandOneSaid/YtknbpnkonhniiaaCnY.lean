/- Candidates: points of a grid that is none: walked. -/
/- Candidates: the law CandOne: walked. -/
/- Candidates: the law CandOne: walked. -/
/- Candidates: a weighing and samples, opened. -/
/- CandOne answers true, whatever comes in, and what came in reads as it did; no condition. -/
import Derived.Test.YtknbpnkonhniiaaCnG
import Derived.Test.YtknbpnkonhniiaaCnJ
import Derived.Test.YtknbpnkonhniiaaNeN
import Derived.Test.YtknbpnkonhniiaaWgh
import Derived.Test.YtknbpnkonhniiaaCnA
import Derived.Test.YtknbpnkonhniiaaRows
namespace Go.Proofs.Ytknbpnkonhniiaa.Ne
open Go.RowKit Go.V Go.Shelf Go.Proofs

set_option maxHeartbeats 8000000 in
set_option maxRecDepth 100000 in
theorem cpoints_none (n : Net) (hs hl : Hdr) (x : Wgh) (s : Smp) (w : World) (h0 : hs.n = 0) (hx : mayW x = true) (hsm : smpB s = true) :
    Calls Try.prog 15 #[.pointer none, n.val hs hl, x.val, s.val] w fun e w' => e = .returned (.tuple #[.slice none 0 0, .int .i64 2]) ∧ Below w.heap.size w w' := by
  obtain ⟨xr, xm, xf, xc⟩ := x
  have HX0 : Hid ((((w.alloc (n.box hs hl)).alloc (Wgh.mk xr xm xf xc).box).alloc (.cells #[.int .i64 s.t, .int .i64 s.x, .int .i64 s.y] 42)).heap[w.heap.size]? = some (n.box hs hl)) := box_alloc (box_alloc (box_new w _))
  have HY0 : Hid ((((w.alloc (n.box hs hl)).alloc (Wgh.mk xr xm xf xc).box).alloc (.cells #[.int .i64 s.t, .int .i64 s.x, .int .i64 s.y] 42)).heap[w.heap.size + 1]? = some (Wgh.mk xr xm xf xc).box) := by
    have := box_new (w.alloc (n.box hs hl)) (Wgh.mk xr xm xf xc).box
    rw [World.size_alloc] at this
    exact box_alloc this
  have HZ0 : Hid ((((w.alloc (n.box hs hl)).alloc (Wgh.mk xr xm xf xc).box).alloc (.cells #[.int .i64 s.t, .int .i64 s.x, .int .i64 s.y] 42)).heap[w.heap.size + 2]? = some (.cells #[.int .i64 s.t, .int .i64 s.x, .int .i64 s.y] 42 (0, 0))) := by
    have := box_new ((w.alloc (n.box hs hl)).alloc (Wgh.mk xr xm xf xc).box) (.cells #[.int .i64 s.t, .int .i64 s.x, .int .i64 s.y] 42)
    rw [World.size_alloc, World.size_alloc] at this
    exact this
  have HB0 : Hid (Below w.heap.size w (((w.alloc (n.box hs hl)).alloc (Wgh.mk xr xm xf xc).box).alloc (.cells #[.int .i64 s.t, .int .i64 s.x, .int .i64 s.y] 42))) := (((Below.refl _ _).alloc (Nat.le_refl _) _).alloc (by simp) _).alloc (by simp; omega) _
  have hs0 : (((w.alloc (n.box hs hl)).alloc (Wgh.mk xr xm xf xc).box).alloc (.cells #[.int .i64 s.t, .int .i64 s.x, .int .i64 s.y] 42)).heap.size = w.heap.size + 3 := by simp
  have mixed : Try.prog.follows .mixedOrders = true := by kernel_rfl
  obtain ⟨bm, hbm⟩ : ∃ b, mayW ⟨xr, xm, xf, xc⟩ = b := ⟨_, rfl⟩
  obtain ⟨bs, hbs⟩ : ∃ b, smpB s = b := ⟨_, rfl⟩
  have HBM := Lib.hid hbm
  have HBS := Lib.hid hbs
  rw [hx] at hbm
  rw [hsm] at hbs
  have H0 := Lib.hid h0
  subst hbm
  subst hbs
  clear h0 hx hsm
  refine (callsIn_wide (n := 8)).1 ?_
  refine callsIn_of_wp_marks Try.func15 rfl trivial ?_ rfl
  simp only [Try.ntmps15, List.size_toArray, List.length_cons, List.length_nil, Nat.reduceAdd, Nat.reduceSub, Array.replicate_succ, Array.replicate_zero, List.push_toArray, List.append_toArray, List.nil_append, List.cons_append]
  rw [wpIn_wide]
  go_upto_region 1 with fail
  obtain ⟨W0, hW0⟩ : ∃ W0, ((w.alloc (n.box hs hl)).alloc (Wgh.mk xr xm xf xc).box).alloc (.cells #[.int .i64 s.t, .int .i64 s.x, .int .i64 s.y] 42) = W0 := ⟨_, rfl⟩
  rw [hW0] at HX0 HY0 HZ0 HB0 hs0 ⊢
  clear hW0
  have x1 : W0.cell? ⟨w.heap.size, 1, none⟩ = some (.slice hs.a hs.n hs.cap) := (box_cell HX0.out 1).1
  have y0 : W0.cell? ⟨w.heap.size + 1, 0, none⟩ = some (.int .i64 xr) := (box_cell HY0.out 0).1
  have y1 : W0.cell? ⟨w.heap.size + 1, 1, none⟩ = some (.int .i64 xm) := (box_cell HY0.out 1).1
  have y2 : W0.cell? ⟨w.heap.size + 1, 2, none⟩ = some (.int .i64 xf) := (box_cell HY0.out 2).1
  have y3 : W0.cell? ⟨w.heap.size + 1, 3, none⟩ = some (.int .i64 xc) := (box_cell HY0.out 3).1
  have z0 : W0.cell? ⟨w.heap.size + 1 + 1, 0, none⟩ = some (.int .i64 s.t) := (box_cell HZ0.out 0).1
  have z1 : W0.cell? ⟨w.heap.size + 1 + 1, 1, none⟩ = some (.int .i64 s.x) := (box_cell HZ0.out 1).1
  have z2 : W0.cell? ⟨w.heap.size + 1 + 1, 2, none⟩ = some (.int .i64 s.y) := (box_cell HZ0.out 2).1
  have X1 := cell_regrown x1
  have Y0 := cell_regrown y0
  have Y1 := cell_regrown y1
  have Y2 := cell_regrown y2
  have Y3 := cell_regrown y3
  have Z0 := cell_regrown z0
  have Z1 := cell_regrown z1
  have Z2 := cell_regrown z2
  have q1 : ∀ nd osq, Calls Try.prog 10 #[(Wgh.mk xr xm xf xc).val] (Go.Sort.grow (redrawn W0 nd) osq) fun e w' => e = .returned (.bool true) ∧ Below (Go.Sort.grow (redrawn W0 nd) osq).heap.size (Go.Sort.grow (redrawn W0 nd) osq) w' := fun nd osq => (cmay_any ⟨xr, xm, xf, xc⟩ _).mono fun e w' ⟨k1, k2⟩ => ⟨by rw [k1, HBM.out], k2⟩
  have q2 : ∀ nd osq, Calls Try.prog 19 #[s.val] (Go.Sort.grow (redrawn W0 nd) osq) fun e w' => e = .returned (.bool true) ∧ Below (Go.Sort.grow (redrawn W0 nd) osq).heap.size (Go.Sort.grow (redrawn W0 nd) osq) w' := fun nd osq => (smay_any s _).mono fun e w' ⟨k1, k2⟩ => ⟨by rw [k1, HBS.out], k2⟩
  have q3 : ∀ nd osq, Calls Try.prog 27 #[.pointer none] (Go.Sort.grow (redrawn W0 nd) osq) fun e w' => e = .returned (.int .i64 0) ∧ Below (Go.Sort.grow (redrawn W0 nd) osq).heap.size (Go.Sort.grow (redrawn W0 nd) osq) w' := fun nd osq => (grlenn_any _).mono fun e w' ⟨k1, k2⟩ => ⟨k1, k2 ▸ Below.refl _ _⟩
  clear x1 y0 y1 y2 y3 z0 z1 z2
  have hn00 : ((0 : Int) != (hs.n : Int)) = false := by simp [H0.out]
  refine wp_region_quiet_below (by assumption) (by kernel_rfl) ?_
  repeat (go_big_quiet_step (first
    | (go_at_call 10; exact Calls.regrown_of (q1 _ _))
    | (go_at_call 19; exact Calls.regrown_of (q2 _ _))
    | (go_at_call 27; exact Calls.regrown_of (q3 _ _))))
  refine wpQuiet_nil ?_
  intro w9 hw9
  obtain ⟨⟨nd, osq⟩, rfl⟩ := hw9
  have hb9 := below_regrown W0 nd osq
  have HB9 : Hid (Below w.heap.size w (Go.Sort.grow (redrawn W0 nd) osq)) := HB0.out.trans (hb9.mono HB0.out.size)
  have HY9 := Lib.hid (box_below HY0.out hb9)
  have HZ9 := Lib.hid (box_below HZ0.out hb9)
  clear X1 Y0 Y1 Y2 Y3 Z0 Z1 Z2 q1 q2 q3
  generalize Go.Sort.grow (redrawn W0 nd) osq = w9 at HB9 HY9 HZ9 ⊢
  clear hb9
  have y0 : w9.cell? ⟨w.heap.size + 1, 0, none⟩ = some (.int .i64 xr) := (box_cell HY9.out 0).1
  have y1 : w9.cell? ⟨w.heap.size + 1, 1, none⟩ = some (.int .i64 xm) := (box_cell HY9.out 1).1
  have z1 : w9.cell? ⟨w.heap.size + 1 + 1, 1, none⟩ = some (.int .i64 s.x) := (box_cell HZ9.out 1).1
  have z2 : w9.cell? ⟨w.heap.size + 1 + 1, 2, none⟩ = some (.int .i64 s.y) := (box_cell HZ9.out 2).1
  go_wp2_with (go_at_call 28; go_fit (grnear_nil s.x s.y xr xm _); rintro e w10 ⟨rfl, hb10⟩; have HB10 := Lib.hid (HB9.out.trans (hb10.mono HB9.out.size)); clear hb10)
  refine ⟨_, results_tmp2 rfl _ _ _, ?_⟩
  exact ⟨rfl, HB10.out⟩
end Go.Proofs.Ytknbpnkonhniiaa.Ne

namespace Go.Proofs.Ytknbpnkonhniiaa.Ne
open Go.RowKit Go.V Go.Proofs

/-- Points of any grid of these stops: as the document says, or none. -/
def ptE (n : Net) (x : Wgh) (s : Smp) : List Fnd := if mayW x = true ∧ smpB s = true then rowE n x s else []
def ptErr (x : Wgh) (s : Smp) : Int := if mayW x = true ∧ smpB s = true then 0 else 2
theorem cpoints_any (g : Nat) (gh : Hdr) (z : Int) (b : Nat) (n : Net) (hs hl : Hdr) (x : Wgh) (s : Smp) (w : World)
    (hn : n.stops.length ≤ 200) (hz : 1 ≤ z ∧ z ≤ 67108864) (hSB : ∀ s ∈ n.stops, stpB s = true)
    (hnet : NetIn w n hs hl) (hg : GBox w g gh z b) (hgs : Sl Stp.cod w gh.a gh.n gh.cap n.stops) (hgm : GMap w b (idxs n.stops z)) :
    Calls Try.prog 15 #[gP g, n.val hs hl, x.val, s.val] w fun e w' => ∃ va vc, e = .returned (.tuple #[.slice va (ptE n x s).length vc, .int .i64 (ptErr x s)]) ∧ Sl Fnd.cod w' va (ptE n x s).length vc (ptE n x s) ∧ Below w.heap.size w w' := by
  by_cases hok : mayW x = true ∧ smpB s = true
  · have hr := mayW_reach hok.1
    refine (cpoints_ok g gh z b n hs hl x s w hn hz hSB hok.1 hok.2 ⟨hr.1, hr.2.1, hr.2.2.1⟩ hnet hg hgs hgm).mono ?_
    rintro e w' ⟨v, rfl, ho, hb⟩
    have e1 : ptE n x s = rowE n x s := if_pos hok
    have e2 : ptErr x s = 0 := if_pos hok
    obtain ⟨a, c, rfl, hsl, -⟩ := ho.slice
    rw [e1, e2]
    exact ⟨a, c, rfl, hsl, hb⟩
  · have e1 : ptE n x s = [] := if_neg hok
    have e2 : ptErr x s = 2 := if_neg hok
    have hbad : mayW x = false ∨ smpB s = false ∨ (gh.n : Int) ≠ hs.n := by
      cases hm : mayW x with
      | false => exact .inl rfl
      | true =>
        refine .inr (.inl ?_)
        cases hs' : smpB s with
        | false => rfl
        | true => exact absurd ⟨hm, hs'⟩ hok
    refine (cpoints_bad (gP g) gh.n n hs hl x s w (fun W hW => (grlen_any g gh z b W (hg.below hW)).mono fun e w' ⟨k1, k2⟩ => ⟨k1, k2 ▸ Below.refl _ _⟩) hbad).mono ?_
    rintro e w' ⟨rfl, hb⟩
    rw [e1, e2]
    exact ⟨none, 0, rfl, ⟨rfl, Nat.le_refl _, Nat.zero_le _, fun _ => ⟨rfl, rfl⟩, fun d hd => nomatch hd⟩, hb⟩
theorem cpoints_nil (n : Net) (hs hl : Hdr) (x : Wgh) (s : Smp) (w : World) :
    Calls Try.prog 15 #[.pointer none, n.val hs hl, x.val, s.val] w fun e w' => e = .returned (.tuple #[.slice none 0 0, .int .i64 2]) ∧ Below w.heap.size w w' := by
  by_cases hok : mayW x = true ∧ smpB s = true ∧ hs.n = 0
  · exact cpoints_none n hs hl x s w hok.2.2 hok.1 hok.2.1
  · refine cpoints_bad (.pointer none) 0 n hs hl x s w (fun W hW => (grlenn_any W).mono fun e w' ⟨k1, k2⟩ => ⟨k1, k2 ▸ Below.refl _ _⟩) ?_
    cases hm : mayW x with
    | false => exact .inl rfl
    | true =>
      cases hs' : smpB s with
      | false => exact .inr (.inl rfl)
      | true => exact .inr (.inr fun e => hok ⟨hm, hs', by omega⟩)
theorem cpoints_other (g : Nat) (gh : Hdr) (z : Int) (b : Nat) (n : Net) (hs hl : Hdr) (x : Wgh) (s : Smp) (w : World) (hg : GBox w g gh z b) (hne : gh.n ≠ hs.n) :
    Calls Try.prog 15 #[gP g, n.val hs hl, x.val, s.val] w fun e w' => e = .returned (.tuple #[.slice none 0 0, .int .i64 2]) ∧ Below w.heap.size w w' :=
  cpoints_bad (gP g) gh.n n hs hl x s w (fun W hW => (grlen_any g gh z b W (hg.below hW)).mono fun e w' ⟨k1, k2⟩ => ⟨k1, k2 ▸ Below.refl _ _⟩) (.inr (.inr (by omega)))
end Go.Proofs.Ytknbpnkonhniiaa.Ne

namespace Go.Proofs.Ytknbpnkonhniiaa.Ne
open Go.RowKit Go.V Go.Proofs

set_option maxHeartbeats 8000000 in
set_option maxRecDepth 100000 in
theorem cone_any (n : Net) (hs hl : Hdr) (x : Wgh) (s : Smp) (w : World) (hnet : NetIn w n hs hl) :
    Calls Try.prog 4 #[n.val hs hl, x.val, s.val] w fun e w' => e = .returned (.bool true) ∧ Below w.heap.size w w' := by
  obtain ⟨xr, xm, xf, xc⟩ := x
  have HX0 : Hid ((((w.alloc (n.box hs hl)).alloc (Wgh.mk xr xm xf xc).box).alloc (.cells #[.int .i64 s.t, .int .i64 s.x, .int .i64 s.y] 42)).heap[w.heap.size]? = some (.cells #[.int .i64 n.ver, .slice hs.a hs.n hs.cap, .slice hl.a hl.n hl.cap] 25 (0, 0))) := box_alloc (box_alloc (box_new w _))
  have HY0 : Hid ((((w.alloc (n.box hs hl)).alloc (Wgh.mk xr xm xf xc).box).alloc (.cells #[.int .i64 s.t, .int .i64 s.x, .int .i64 s.y] 42)).heap[w.heap.size + 1]? = some (.cells #[.int .i64 xr, .int .i64 xm, .int .i64 xf, .int .i64 xc] 27 (0, 0))) := by
    have := box_new (w.alloc (n.box hs hl)) (Wgh.mk xr xm xf xc).box
    rw [World.size_alloc] at this
    exact box_alloc this
  have HZ0 : Hid ((((w.alloc (n.box hs hl)).alloc (Wgh.mk xr xm xf xc).box).alloc (.cells #[.int .i64 s.t, .int .i64 s.x, .int .i64 s.y] 42)).heap[w.heap.size + 1 + 1]? = some (.cells #[.int .i64 s.t, .int .i64 s.x, .int .i64 s.y] 42 (0, 0))) := by
    have := box_new ((w.alloc (n.box hs hl)).alloc (Wgh.mk xr xm xf xc).box) (.cells #[.int .i64 s.t, .int .i64 s.x, .int .i64 s.y] 42)
    rw [World.size_alloc, World.size_alloc] at this
    exact this
  have HB0 : Hid (Below w.heap.size w (((w.alloc (n.box hs hl)).alloc (Wgh.mk xr xm xf xc).box).alloc (.cells #[.int .i64 s.t, .int .i64 s.x, .int .i64 s.y] 42))) := (((Below.refl _ _).alloc (Nat.le_refl _) _).alloc (by simp) _).alloc (by simp; omega) _
  have HNT := Lib.hid hnet
  obtain ⟨bf, hbf⟩ : ∃ b, decide (hs.n ≤ 60 ∧ hl.n ≤ 120) = b := ⟨_, rfl⟩
  have HBF := Lib.hid hbf
  obtain ⟨ce, hce⟩ : ∃ c, checkE n = c := ⟨_, rfl⟩
  have HCE := Lib.hid hce
  have HKL := Lib.hid hnet.s.hlen
  clear hnet hbf hce
  cases bf with
  | false =>
    go_enter Try.func4, Try.ntmps4
    go_wp2_with (first
      | (go_at_call 6; go_fit (awake21_any _); rintro e w2 ⟨rfl, hb2⟩; have HX2 := Lib.hid (box_below HX0.out hb2); obtain ⟨x0, x1, x2, -, -, -⟩ := box3_cells HX2.out; have HB2 := Lib.hid (HB0.out.trans (hb2.mono HB0.out.size)); clear hb2)
      | (go_at_call 7; go_fit (few_any n hs hl _); rintro e w3 ⟨rfl, hb3⟩; rw [HBF.out]; have HB3 := Lib.hid (HB2.out.trans (hb3.mono HB2.out.size)); clear hb3))
    go_ret
    exact ⟨rfl, HB3.out⟩
  | true =>
    obtain ⟨m1, m2⟩ := of_decide_eq_true HBF.out
    by_cases hc0 : ce = 0
    case neg =>
      have hcb : (ce != 0) = true := by simpa using hc0
      clear hc0
      go_enter Try.func4, Try.ntmps4
      go_wp2_with (first
        | (go_at_call 6; go_fit (awake21_any _); rintro e w2 ⟨rfl, hb2⟩; have HX2 := Lib.hid (box_below HX0.out hb2); obtain ⟨x0, x1, x2, -, -, -⟩ := box3_cells HX2.out; have HB2 := Lib.hid (HB0.out.trans (hb2.mono HB0.out.size)); clear hb2)
        | (go_at_call 7; go_fit (few_any n hs hl _); rintro e w3 ⟨rfl, hb3⟩; rw [HBF.out]; have HX3 := Lib.hid (box_below HX2.out hb3); obtain ⟨x0, x1, x2, -, -, -⟩ := box3_cells HX3.out; have HB3 := Lib.hid (HB2.out.trans (hb3.mono HB2.out.size)); clear hb3)
        | (go_at_call 13; go_fit (rcheck_any n hs hl _ ⟨by omega, by omega⟩ (HNT.out.below HB3.out)); rintro e w4 ⟨rfl, hb4⟩; rw [HCE.out]; have HB4 := Lib.hid (HB3.out.trans (hb4.mono HB3.out.size)); clear hb4))
      go_ret
      exact ⟨rfl, HB4.out⟩
    case pos =>
      subst hc0
      have HST := Lib.hid (check_stops HCE.out)
      have HSB : Hid (∀ s ∈ n.stops, stpB s = true) := fun s hs => List.all_eq_true.1 HST.out s hs
      have HSN : Hid (n.stops.length ≤ 200) := by show _ ≤ _; rw [← HKL.out]; omega
      go_enter Try.func4, Try.ntmps4
      go_upto_block 0 with (first
        | (go_at_call 6; go_fit (awake21_any _); rintro e w2 ⟨rfl, hb2⟩; have HX2 := Lib.hid (box_below HX0.out hb2); have HY2 := Lib.hid (box_below HY0.out hb2); have HZ2 := Lib.hid (box_below HZ0.out hb2); obtain ⟨x0, x1, x2, -, -, -⟩ := box3_cells HX2.out; have HB2 := Lib.hid (HB0.out.trans (hb2.mono HB0.out.size)); clear hb2)
        | (go_at_call 7; go_fit (few_any n hs hl _); rintro e w3 ⟨rfl, hb3⟩; rw [HBF.out]; have HX3 := Lib.hid (box_below HX2.out hb3); have HY3 := Lib.hid (box_below HY2.out hb3); have HZ3 := Lib.hid (box_below HZ2.out hb3); obtain ⟨x0, x1, x2, -, -, -⟩ := box3_cells HX3.out; have HB3 := Lib.hid (HB2.out.trans (hb3.mono HB2.out.size)); clear hb3)
        | (go_at_call 13; go_fit (rcheck_any n hs hl _ ⟨by omega, by omega⟩ (HNT.out.below HB3.out)); rintro e w4 ⟨rfl, hb4⟩; rw [HCE.out]; have HX4 := Lib.hid (box_below HX3.out hb4); have HY4 := Lib.hid (box_below HY3.out hb4); have HZ4 := Lib.hid (box_below HZ3.out hb4); have HB4 := Lib.hid (HB3.out.trans (hb4.mono HB3.out.size)); clear hb4))
      clear x0 x1 x2
      have HI : Hid (Sl icod (w4.alloc (.cells #[.int .i64 1, .int .i64 30, .int .i64 1048576] 3)) (some ⟨w4.heap.size, 0, none⟩) 3 3 [1, 30, 1048576]) := sl_new (c := icod) w4 _ 3 [1, 30, 1048576] 3 rfl (by unfold maxLen; omega) rfl
      have hba : Below w4.heap.size w4 (w4.alloc (.cells #[.int .i64 1, .int .i64 30, .int .i64 1048576] 3)) := (Below.refl _ _).alloc (Nat.le_refl _) _
      have HX5 := Lib.hid (box_below HX4.out hba)
      have HY5 := Lib.hid (box_below HY4.out hba)
      have HZ5 := Lib.hid (box_below HZ4.out hba)
      have HB5 := Lib.hid (HB4.out.trans (hba.mono HB4.out.size))
      have hlt4 := box_lt HZ4.out
      obtain ⟨w5, hw5⟩ : ∃ w5, w4.alloc (.cells #[.int .i64 1, .int .i64 30, .int .i64 1048576] 3) = w5 := ⟨_, rfl⟩
      rw [hw5] at HI HX5 HY5 HZ5 HB5 ⊢
      have hlz := box_lt HZ5.out
      clear hw5 hba
      go_wp2_with fail
      go_loopw [31] (fun i wr => ∃ (j : Nat), j ≤ 3 ∧ i = .int .i64 j ∧ Hid (Below w5.heap.size w5 wr)) (fun i _ => 3 - (intOf i).toNat)
      case atStart => exact ⟨0, by omega, rfl, Below.refl _ _⟩
      case round =>
        obtain ⟨j, hj, rfl, hb⟩ := hrel
        have HBW : Hid (Below w.heap.size w wr) := HB5.out.trans (hb.out.mono HB5.out.size)
        have HX6 := Lib.hid (box_below HX5.out hb.out)
        have HY6 := Lib.hid (box_below HY5.out hb.out)
        have HZ6 := Lib.hid (box_below HZ5.out hb.out)
        obtain ⟨x0, x1, x2, -, -, -⟩ := box3_cells HX6.out
        by_cases hlt : j < 3
        · have hltz : (j : Int) < 3 := by omega
          obtain ⟨ib, io, z, he, -, hz, c0⟩ := int_at (HI.out.below hb.out) hlt
          cases he
          rw [Nat.zero_add] at c0
          have hzr : 1 ≤ z ∧ z ≤ 67108864 := by
            have := List.mem_of_getElem? hz
            simp at this
            omega
          have HZR := Lib.hid hzr
          clear hz hzr
          obtain ⟨bm, hbm⟩ : ∃ b, mayW ⟨xr, xm, xf, xc⟩ = b := ⟨_, rfl⟩
          obtain ⟨bs, hbs⟩ : ∃ b, smpB s = b := ⟨_, rfl⟩
          have HBM := Lib.hid hbm
          have HBS := Lib.hid hbs
          have hpc := fun (g : Nat) (gh : Hdr) (z : Int) (b : Nat) (W : World) (hz : 1 ≤ z ∧ z ≤ 67108864) (h1 : NetIn W n hs hl) (h2 : GBox W g gh z b) (h3 : Sl Stp.cod W gh.a gh.n gh.cap n.stops) (h4 : GMap W b (idxs n.stops z)) => cpoints_any g gh z b n hs hl ⟨xr, xm, xf, xc⟩ s W HSN.out hz HSB.out h1 h2 h3 h4
          have hpt : ptE n ⟨xr, xm, xf, xc⟩ s = if bm = true ∧ bs = true then rowE n ⟨xr, xm, xf, xc⟩ s else [] := by unfold ptE; rw [hbm, hbs]
          have hpe : ptErr ⟨xr, xm, xf, xc⟩ s = if bm = true ∧ bs = true then 0 else 2 := by unfold ptErr; rw [hbm, hbs]
          rw [hpt, hpe] at hpc
          have hsz5 : w5.heap.size ≤ wr.heap.size := hb.out.size
          clear hpt hpe hbm hbs
          have HQ6 : Hid (Below w5.heap.size w5 wr) := hb.out
          cases bm with
          | false =>
            have HPC := Lib.hid hpc
            clear hpc
            go_wp2_with (first
              | (go_at_call 14; go_fit (cgnew_ok hs.a hs.n hs.cap n.stops z _ (by omega) (HNT.out.s.below HBW.out) (right_any_size HZR.out HST.out)); rintro e w7 ⟨g, gh, b, rfl, hg, hgs, hgm, hb7⟩; have HG7 := Lib.hid hg; have HGS7 := Lib.hid hgs; have HGM7 := Lib.hid hgm; have HX7 := Lib.hid (box_below HX6.out hb7); have HY7 := Lib.hid (box_below HY6.out hb7); have HZ7 := Lib.hid (box_below HZ6.out hb7); obtain ⟨x0, x1, x2, -, -, -⟩ := box3_cells HX7.out; obtain ⟨y0, y1, y2, y3⟩ := box4w_cells HY7.out; obtain ⟨z0, z1, z2, -, -, -⟩ := box3_cells HZ7.out; have HB7 := Lib.hid (HBW.out.trans (hb7.mono HBW.out.size)); have HQ7 : Hid (Below w5.heap.size w5 w7) := HQ6.out.trans (hb7.mono HQ6.out.size); clear hg hgs hgm hb7)
              | (go_at_call 15; go_fit (HPC.out g gh z b _ HZR.out (HNT.out.below HB7.out) HG7.out HGS7.out HGM7.out); rintro e w8 ⟨va, vc, rfl, hv, hb8⟩; have HV8 := Lib.hid hv; have HX8 := Lib.hid (box_below HX7.out hb8); have HY8 := Lib.hid (box_below HY7.out hb8); have HZ8 := Lib.hid (box_below HZ7.out hb8); obtain ⟨x0, x1, x2, -, -, -⟩ := box3_cells HX8.out; obtain ⟨y0, y1, y2, y3⟩ := box4w_cells HY8.out; obtain ⟨z0, z1, z2, -, -, -⟩ := box3_cells HZ8.out; have HB8 := Lib.hid (HB7.out.trans (hb8.mono HB7.out.size)); have HQ8 : Hid (Below w5.heap.size w5 w8) := HQ7.out.trans (hb8.mono HQ7.out.size); clear hv hb8)
              | (go_at_call 11; go_fit (rcmay_any ⟨xr, xm, xf, xc⟩ _); rintro e w9 ⟨rfl, hb9⟩; rw [HBM.out]; have HV9 := Lib.hid (HV8.out.below hb9); have HX9 := Lib.hid (box_below HX8.out hb9); have HY9 := Lib.hid (box_below HY8.out hb9); have HZ9 := Lib.hid (box_below HZ8.out hb9); obtain ⟨x0, x1, x2, -, -, -⟩ := box3_cells HX9.out; obtain ⟨y0, y1, y2, y3⟩ := box4w_cells HY9.out; obtain ⟨z0, z1, z2, -, -, -⟩ := box3_cells HZ9.out; have HB9 := Lib.hid (HB8.out.trans (hb9.mono HB8.out.size)); have HQ9 : Hid (Below w5.heap.size w5 w9) := HQ8.out.trans (hb9.mono HQ8.out.size); clear hb9))
            go_roundw
            case rel => exact ⟨j + 1, by omega, by go_num, HQ9.out⟩
            case measure => simp [intOf]; omega
          | true =>
            cases bs with
            | false =>
              have HPC := Lib.hid hpc
              clear hpc
              go_wp2_with (first
                | (go_at_call 14; go_fit (cgnew_ok hs.a hs.n hs.cap n.stops z _ (by omega) (HNT.out.s.below HBW.out) (right_any_size HZR.out HST.out)); rintro e w7 ⟨g, gh, b, rfl, hg, hgs, hgm, hb7⟩; have HG7 := Lib.hid hg; have HGS7 := Lib.hid hgs; have HGM7 := Lib.hid hgm; have HX7 := Lib.hid (box_below HX6.out hb7); have HY7 := Lib.hid (box_below HY6.out hb7); have HZ7 := Lib.hid (box_below HZ6.out hb7); obtain ⟨x0, x1, x2, -, -, -⟩ := box3_cells HX7.out; obtain ⟨y0, y1, y2, y3⟩ := box4w_cells HY7.out; obtain ⟨z0, z1, z2, -, -, -⟩ := box3_cells HZ7.out; have HB7 := Lib.hid (HBW.out.trans (hb7.mono HBW.out.size)); have HQ7 : Hid (Below w5.heap.size w5 w7) := HQ6.out.trans (hb7.mono HQ6.out.size); clear hg hgs hgm hb7)
                | (go_at_call 15; go_fit (HPC.out g gh z b _ HZR.out (HNT.out.below HB7.out) HG7.out HGS7.out HGM7.out); rintro e w8 ⟨va, vc, rfl, hv, hb8⟩; have HV8 := Lib.hid hv; have HX8 := Lib.hid (box_below HX7.out hb8); have HY8 := Lib.hid (box_below HY7.out hb8); have HZ8 := Lib.hid (box_below HZ7.out hb8); obtain ⟨x0, x1, x2, -, -, -⟩ := box3_cells HX8.out; obtain ⟨y0, y1, y2, y3⟩ := box4w_cells HY8.out; obtain ⟨z0, z1, z2, -, -, -⟩ := box3_cells HZ8.out; have HB8 := Lib.hid (HB7.out.trans (hb8.mono HB7.out.size)); have HQ8 : Hid (Below w5.heap.size w5 w8) := HQ7.out.trans (hb8.mono HQ7.out.size); clear hv hb8)
                | (go_at_call 11; go_fit (rcmay_any ⟨xr, xm, xf, xc⟩ _); rintro e w9 ⟨rfl, hb9⟩; rw [HBM.out]; have HV9 := Lib.hid (HV8.out.below hb9); have HX9 := Lib.hid (box_below HX8.out hb9); have HY9 := Lib.hid (box_below HY8.out hb9); have HZ9 := Lib.hid (box_below HZ8.out hb9); obtain ⟨x0, x1, x2, -, -, -⟩ := box3_cells HX9.out; obtain ⟨y0, y1, y2, y3⟩ := box4w_cells HY9.out; obtain ⟨z0, z1, z2, -, -, -⟩ := box3_cells HZ9.out; have HB9 := Lib.hid (HB8.out.trans (hb9.mono HB8.out.size)); have HQ9 : Hid (Below w5.heap.size w5 w9) := HQ8.out.trans (hb9.mono HQ8.out.size); clear hb9)
                | (go_at_call 16; go_fit (rsmay_any s _); rintro e w10 ⟨rfl, hb10⟩; rw [HBS.out]; have HV10 := Lib.hid (HV9.out.below hb10); have HX10 := Lib.hid (box_below HX9.out hb10); have HY10 := Lib.hid (box_below HY9.out hb10); have HZ10 := Lib.hid (box_below HZ9.out hb10); obtain ⟨x0, x1, x2, -, -, -⟩ := box3_cells HX10.out; obtain ⟨y0, y1, y2, y3⟩ := box4w_cells HY10.out; obtain ⟨z0, z1, z2, -, -, -⟩ := box3_cells HZ10.out; have HB10 := Lib.hid (HB9.out.trans (hb10.mono HB9.out.size)); have HQ10 : Hid (Below w5.heap.size w5 w10) := HQ9.out.trans (hb10.mono HQ9.out.size); clear hb10))
              go_roundw
              case rel => exact ⟨j + 1, by omega, by go_num, HQ10.out⟩
              case measure => simp [intOf]; omega
            | true =>
              have hmr := mayW_reach HBM.out
              have hrp := fun (W : World) (h1 : NetIn W n hs hl) => rpoints_any n hs hl ⟨xr, xm, xf, xc⟩ s W HSN.out ⟨hmr.1, hmr.2.1, hmr.2.2.1⟩ h1
              rw [if_pos (⟨rfl, rfl⟩ : true = true ∧ true = true), if_pos (⟨rfl, rfl⟩ : true = true ∧ true = true)] at hpc
              obtain ⟨PT, hPT⟩ : ∃ P, rowE n ⟨xr, xm, xf, xc⟩ s = P := ⟨_, rfl⟩
              have hrp2 : ∀ (W : World), NetIn W n hs hl → Calls Try.prog 17 #[n.val hs hl, (Wgh.mk xr xm xf xc).val, s.val] W fun e w' => ∃ ua uc, e = .returned (.slice ua PT.length uc) ∧ Sl Fnd.cod w' ua PT.length uc PT ∧ Below W.heap.size W w' := fun W h1 => (hrp W h1).mono fun e w' ⟨v, k1, k2, k3⟩ => by
                have k2 : V.Own 56 Fnd.cod W.heap.size w' v (rowE n ⟨xr, xm, xf, xc⟩ s) := k2
                rw [hPT] at k2
                obtain ⟨ua, uc, rfl, hsl, -⟩ := k2.slice
                exact ⟨ua, uc, k1, hsl, k3⟩
              rw [hPT] at hpc
              obtain ⟨PL, hPL⟩ : ∃ k, PT.length = k := ⟨_, rfl⟩
              rw [hPL] at hpc hrp2
              have HPC := Lib.hid hpc
              have HRP := Lib.hid hrp2
              clear hpc hrp hrp2 hPT hPL hmr
              go_wp2_with (first
                | (go_at_call 14; go_fit (cgnew_ok hs.a hs.n hs.cap n.stops z _ (by omega) (HNT.out.s.below HBW.out) (right_any_size HZR.out HST.out)); rintro e w7 ⟨g, gh, b, rfl, hg, hgs, hgm, hb7⟩; have HG7 := Lib.hid hg; have HGS7 := Lib.hid hgs; have HGM7 := Lib.hid hgm; have HX7 := Lib.hid (box_below HX6.out hb7); have HY7 := Lib.hid (box_below HY6.out hb7); have HZ7 := Lib.hid (box_below HZ6.out hb7); obtain ⟨x0, x1, x2, -, -, -⟩ := box3_cells HX7.out; obtain ⟨y0, y1, y2, y3⟩ := box4w_cells HY7.out; obtain ⟨z0, z1, z2, -, -, -⟩ := box3_cells HZ7.out; have HB7 := Lib.hid (HBW.out.trans (hb7.mono HBW.out.size)); have HQ7 : Hid (Below w5.heap.size w5 w7) := HQ6.out.trans (hb7.mono HQ6.out.size); clear hg hgs hgm hb7)
                | (go_at_call 15; go_fit (HPC.out g gh z b _ HZR.out (HNT.out.below HB7.out) HG7.out HGS7.out HGM7.out); rintro e w8 ⟨va, vc, rfl, hv, hb8⟩; have HV8 := Lib.hid hv; have HX8 := Lib.hid (box_below HX7.out hb8); have HY8 := Lib.hid (box_below HY7.out hb8); have HZ8 := Lib.hid (box_below HZ7.out hb8); obtain ⟨x0, x1, x2, -, -, -⟩ := box3_cells HX8.out; obtain ⟨y0, y1, y2, y3⟩ := box4w_cells HY8.out; obtain ⟨z0, z1, z2, -, -, -⟩ := box3_cells HZ8.out; have HB8 := Lib.hid (HB7.out.trans (hb8.mono HB7.out.size)); have HQ8 : Hid (Below w5.heap.size w5 w8) := HQ7.out.trans (hb8.mono HQ7.out.size); clear hv hb8)
                | (go_at_call 11; go_fit (rcmay_any ⟨xr, xm, xf, xc⟩ _); rintro e w9 ⟨rfl, hb9⟩; rw [HBM.out]; have HV9 := Lib.hid (HV8.out.below hb9); have HX9 := Lib.hid (box_below HX8.out hb9); have HY9 := Lib.hid (box_below HY8.out hb9); have HZ9 := Lib.hid (box_below HZ8.out hb9); obtain ⟨x0, x1, x2, -, -, -⟩ := box3_cells HX9.out; obtain ⟨y0, y1, y2, y3⟩ := box4w_cells HY9.out; obtain ⟨z0, z1, z2, -, -, -⟩ := box3_cells HZ9.out; have HB9 := Lib.hid (HB8.out.trans (hb9.mono HB8.out.size)); have HQ9 : Hid (Below w5.heap.size w5 w9) := HQ8.out.trans (hb9.mono HQ8.out.size); clear hb9)
                | (go_at_call 16; go_fit (rsmay_any s _); rintro e w10 ⟨rfl, hb10⟩; rw [HBS.out]; have HV10 := Lib.hid (HV9.out.below hb10); have HX10 := Lib.hid (box_below HX9.out hb10); have HY10 := Lib.hid (box_below HY9.out hb10); have HZ10 := Lib.hid (box_below HZ9.out hb10); obtain ⟨x0, x1, x2, -, -, -⟩ := box3_cells HX10.out; obtain ⟨y0, y1, y2, y3⟩ := box4w_cells HY10.out; obtain ⟨z0, z1, z2, -, -, -⟩ := box3_cells HZ10.out; have HB10 := Lib.hid (HB9.out.trans (hb10.mono HB9.out.size)); have HQ10 : Hid (Below w5.heap.size w5 w10) := HQ9.out.trans (hb10.mono HQ9.out.size); clear hb10)
                | (go_at_call 17; go_fit (HRP.out _ (HNT.out.below HB10.out)); rintro e w11 ⟨ua, uc, rfl, hu, hb11⟩; have HU11 := Lib.hid hu; have HV11 := Lib.hid (HV10.out.below hb11); have HX11 := Lib.hid (box_below HX10.out hb11); have HY11 := Lib.hid (box_below HY10.out hb11); have HZ11 := Lib.hid (box_below HZ10.out hb11); obtain ⟨x0, x1, x2, -, -, -⟩ := box3_cells HX11.out; obtain ⟨y0, y1, y2, y3⟩ := box4w_cells HY11.out; obtain ⟨z0, z1, z2, -, -, -⟩ := box3_cells HZ11.out; have HB11 := Lib.hid (HB10.out.trans (hb11.mono HB10.out.size)); have HQ11 : Hid (Below w5.heap.size w5 w11) := HQ10.out.trans (hb11.mono HQ10.out.size); clear hu hb11)
                | (go_at_call 12; go_fit (psame_true va PL vc PT ua uc _ HV11.out HU11.out); rintro e w12 ⟨rfl, hb12⟩; have HB12 := Lib.hid (HB11.out.trans (hb12.mono HB11.out.size)); have HC12 := Lib.hid (hb12); have HQ12 : Hid (Below w5.heap.size w5 w12) := HQ11.out.trans (hb12.mono HQ11.out.size); clear hb12))
              go_roundw
              case rel => exact ⟨j + 1, by omega, by go_num, HQ12.out⟩
              case measure => simp [intOf]; omega
        · have hj3 : j = 3 := by omega
          subst hj3
          have hxl := box_lt HX6.out
          have HM1 : Hid (([] : List Stp).length + hs.n ≤ maxLen) := by show _ ≤ _; unfold maxLen; simp; omega
          have HM2 : Hid ((([] : List Stp).length + hs.n) * 16 ≤ 140737488355328) := by show _ ≤ _; simp; omega
          have HM3 : Hid ((([] : List Stp) ++ n.stops).length + 1 ≤ maxLen) := by have := HSN.out; show _ ≤ _; unfold maxLen; simp; omega
          have HM4 : Hid (((([] : List Stp) ++ n.stops).length + 1) * 16 ≤ 140737488355328) := by have := HSN.out; show _ ≤ _; simp; omega
          have HN9 : Hid ((([] : List Stp) ++ n.stops ++ [(⟨0, 0⟩ : Stp)]).length ≤ 200 ∧ (([] : List Stp) ++ n.stops ++ [(⟨0, 0⟩ : Stp)]).length ≠ hs.n) := by
            have := HKL.out
            show _ ∧ _
            simp
            omega
          have HR9 : Hid (rightE (([] : List Stp) ++ n.stops ++ [(⟨0, 0⟩ : Stp)]) 9 = 0) := right_any_size (by decide) (by rw [List.nil_append, List.all_append, HST.out]; decide)
          obtain ⟨on, hon⟩ : ∃ on, (([] : List Stp) ++ n.stops ++ [(⟨0, 0⟩ : Stp)]).length = on := ⟨_, rfl⟩
          rw [hon] at HN9
          have HON := Lib.hid hon
          clear hon
          have HOE := Lib.hid (own_new (c := Stp.cod) wr #[] 53 wr.heap.size [] 0 rfl (Nat.le_refl _) (by unfold maxLen; omega) rfl)
          have HBE : Hid (Below wr.heap.size wr (wr.alloc (.cells #[] 53))) := (Below.refl _ _).alloc (Nat.le_refl _) _
          have HSE := Lib.hid ((HNT.out.s.below HBW.out).below HBE.out)
          go_wp2_with (first
            | (at_builtin; have _t := HC8; refine wpList_app eltStp rfl (.tmp 83) (.tmp 85) rfl (base := wr.heap.size) _ ([] ++ n.stops) rfl (HO8.out.alloc _) _ 1 1 [(⟨0, 0⟩ : Stp)] rfl (sl_new (c := Stp.cod) w8 #[.int .i64 0, .int .i64 0] 53 [(⟨0, 0⟩ : Stp)] 1 rfl (by unfold maxLen; omega) rfl) HM3.out HM4.out (by have := HC8.out.size; simp; omega) ?_; intro v9 w9 ho9 hg9; obtain ⟨oa, oc, ev, os, -⟩ := ho9.slice; rw [HON.out] at ev os; subst ev; have HS9 := Lib.hid os; have HC9 : Hid (Below wr.heap.size wr w9) := (HC8.out.alloc HC8.out.size _).trans (Ir.own_below (HO8.out.alloc _) hg9 (by have := HC8.out.size; simp; omega)); have HX9 := Lib.hid (box_below HX6.out HC9.out); have HY9 := Lib.hid (box_below HY6.out HC9.out); have HZ9 := Lib.hid (box_below HZ6.out HC9.out); have HB9 := Lib.hid (HBW.out.trans (HC9.out.mono HBW.out.size)); clear ho9 hg9 os)
            | (at_builtin; go_loud (refine wpList_app eltStp rfl (.tmp 80) (.tmp 82) rfl (base := wr.heap.size) _ [] rfl HOE.out _ hs.n hs.cap n.stops rfl HSE.out HM1.out HM2.out (by simp) ?_); intro v8 w8 ho8 hg8; have HO8 := Lib.hid ho8; have HC8 : Hid (Below wr.heap.size wr w8) := HBE.out.trans (Ir.own_below HOE.out hg8 (by simp)); clear ho8 hg8)
            | (go_at_call 14; go_fit (cgnew_ok oa on oc _ 9 _ HN9.out.1 HS9.out HR9.out); rintro e w10 ⟨g, gh, b, rfl, hg, hgs, hgm, hb10⟩; have HG10 := Lib.hid hg; have hgl := hgs.hlen; have HX10 := Lib.hid (box_below HX9.out hb10); have HY10 := Lib.hid (box_below HY9.out hb10); have HZ10 := Lib.hid (box_below HZ9.out hb10); obtain ⟨x0, x1, x2, -, -, -⟩ := box3_cells HX10.out; obtain ⟨y0, y1, y2, y3⟩ := box4w_cells HY10.out; obtain ⟨z0, z1, z2, -, -, -⟩ := box3_cells HZ10.out; have HB10 := Lib.hid (HB9.out.trans (hb10.mono HB9.out.size)); have HGL : Hid (gh.n ≠ hs.n) := (by show _ ≠ _; rw [hgl, HON.out]; exact HN9.out.2); clear hg hgs hgm hb10 hgl)
            | (go_at_call 15; go_fit (cpoints_other g gh 9 b n hs hl ⟨xr, xm, xf, xc⟩ s _ HG10.out HGL.out); rintro e w11 ⟨rfl, hb11⟩; have HX11 := Lib.hid (box_below HX10.out hb11); have HY11 := Lib.hid (box_below HY10.out hb11); have HZ11 := Lib.hid (box_below HZ10.out hb11); obtain ⟨x0, x1, x2, -, -, -⟩ := box3_cells HX11.out; obtain ⟨y0, y1, y2, y3⟩ := box4w_cells HY11.out; obtain ⟨z0, z1, z2, -, -, -⟩ := box3_cells HZ11.out; have HB11 := Lib.hid (HB10.out.trans (hb11.mono HB10.out.size)); clear hb11)
            | (go_at_call 15; go_fit (cpoints_nil n hs hl ⟨xr, xm, xf, xc⟩ s _); rintro e w12 ⟨rfl, hb12⟩; have HB12 := Lib.hid (HB11.out.trans (hb12.mono HB11.out.size)); clear hb12))
          go_ret
          exact ⟨rfl, HB12.out⟩
end Go.Proofs.Ytknbpnkonhniiaa.Ne

namespace Go.Proofs.Ytknbpnkonhniiaa.Ne
open Go.RowKit Go.V Go.Proofs Go.ChangeShapes Go.WideShapes Go.ChangeAt

theorem list4w {α : Type} {l : List α} (h : l.length = 4) : ∃ a b c d, l = [a, b, c, d] := by
  match l, h with
  | [a, b, c, d], _ => exact ⟨a, b, c, d, rfl⟩
set_option maxRecDepth 100000 in
theorem open_wgh {H : Type} {enc : TypeId × Value → H} {w : World} {b0 base : Nat} {spare : Nat → Bool} {held : Bool} {v : Value} {d : DataW H} {ps : List MemPlace} (hval : Value.okWide Try.prog w .any base 27 v) (h : DataW.Trod enc Try.prog w b0 spare held 27 v d ps) : ∃ x : Wgh, v = x.val := by
  simp only [Value.okWide, Try.underlying27] at hval
  obtain ⟨cs, rfl, hsz, -⟩ := hval
  obtain ⟨fuel, hf⟩ := h
  obtain ⟨xs, m, -, -, hl, hxl, hx⟩ := DataW.trod_struct Try.underlying27 hf
  have hc4 : Try.prog.cellsOf 27 = 4 := by kernel_rfl
  have hc1 : Try.prog.cellsOf 3 = 1 := by kernel_rfl
  obtain ⟨l⟩ := cs
  rw [hc4] at hsz
  obtain ⟨v0, v1, v2, v3, rfl⟩ := list4w (l := l) (by simpa using hsz)
  have hx4 : xs.length = 4 := by rw [hxl]; rfl
  obtain ⟨y0, y1, y2, y3, rfl⟩ := list4w hx4
  have g0 := hx 0 _ rfl
  have g1 := hx 1 _ rfl
  have g2 := hx 2 _ rfl
  have g3 := hx 3 _ rfl
  simp [Value.cells, hc1] at g0 g1 g2 g3
  obtain ⟨n0, e0, -, -⟩ := DataW.trod_int Try.underlying3 g0
  obtain ⟨n1, e1, -, -⟩ := DataW.trod_int Try.underlying3 g1
  obtain ⟨n2, e2, -, -⟩ := DataW.trod_int Try.underlying3 g2
  obtain ⟨n3, e3, -, -⟩ := DataW.trod_int Try.underlying3 g3
  simp at e0 e1 e2 e3
  subst e0; subst e1; subst e2; subst e3
  exact ⟨⟨n0, n1, n2, n3⟩, rfl⟩
set_option maxRecDepth 100000 in
theorem smp_opened {H : Type} {enc : TypeId × Value → H} {w : World} {b0 : Nat} {spare : Nat → Bool} {held : Bool} (n : Nat) (cs : List Value) (y : DataW H × List MemPlace) (h : DataW.trod enc Try.prog w b0 spare held n 42 cs = some y) : ∃ x, cs = Smp.cod.enc x ∧ Smp.ok x := by
  obtain ⟨xs, m, -, rfl, hl, hlen, hf⟩ := DataW.trod_struct Try.underlying42 h
  have hc : Try.prog.cellsOf 3 = 1 := by kernel_rfl
  have hl' : cs.length = 3 := by rw [hl]; kernel_rfl
  obtain ⟨v0, v1, v2, rfl⟩ := list3 hl'
  have hx3 : xs.length = 3 := by rw [hlen]; rfl
  obtain ⟨y0, y1, y2, rfl⟩ := list3 hx3
  have k0 := hf 0 _ rfl
  have k1 := hf 1 _ rfl
  have k2 := hf 2 _ rfl
  simp [hc] at k0 k1 k2
  obtain ⟨n0, e0, -, w0⟩ := DataW.trod_int Try.underlying3 k0
  obtain ⟨n1, e1, -, w1⟩ := DataW.trod_int Try.underlying3 k1
  obtain ⟨n2, e2, -, w2⟩ := DataW.trod_int Try.underlying3 k2
  simp at e0 e1 e2
  subst e0; subst e1; subst e2
  exact ⟨⟨n0, n1, n2⟩, rfl, w0, w1, w2⟩
set_option maxRecDepth 100000 in
theorem open_smp {H : Type} {enc : TypeId × Value → H} {w : World} {b0 base : Nat} {spare : Nat → Bool} {held : Bool} {v : Value} {d : DataW H} {ps : List MemPlace} (hval : Value.okWide Try.prog w .any base 42 v) (h : DataW.Trod enc Try.prog w b0 spare held 42 v d ps) : ∃ s : Smp, v = s.val := by
  simp only [Value.okWide, Try.underlying42] at hval
  obtain ⟨cs, rfl, hsz, -⟩ := hval
  obtain ⟨fuel, hf⟩ := h
  obtain ⟨s, e, -⟩ := smp_opened _ _ _ hf
  obtain ⟨l⟩ := cs
  have e : l = Smp.cod.enc s := by simpa [Value.cells] using e
  exact ⟨s, by rw [e]; rfl⟩
end Go.Proofs.Ytknbpnkonhniiaa.Ne

namespace Go.Proofs.Ytknbpnkonhniiaa.lawCandOne
open Go.ChangeShapes Go.WideShapes Go.ChangeAt Go.RowKit Go.V Go.Proofs.Ytknbpnkonhniiaa.Ne

theorem own : ownKnob Try.prog.godebug = none := by kernel_rfl
theorem laidOut : laidOutB Try.prog = true := by kernel_rfl

set_option maxRecDepth 100000 in
theorem lifted (os : Os) (started : os.Started) (H : Type) (enc : TypeId × Value → H) :
    ReturnsInHanded {} Try.checked os 4 .any (Rows.candOneSpec.pre6 enc Try.prog Try.f4 Rows.candOneRow.domain false) (Rows.candOneSpec.post enc Try.prog Try.f4 false true false false) := by
  refine returnsInHanded_of_change (C := Try.checked) own started (by kernel_rfl) Try.func4
    (ChangeSpec.witness6 (enc := enc) (C := Try.checked) false ⟨#[], #[.agg #[.int .i64 0, .slice none 0 0, .slice none 0 0], .agg #[.int .i64 0, .int .i64 0, .int .i64 0, .int .i64 0], .agg #[.int .i64 0, .int .i64 0, .int .i64 0]], []⟩ 8 (by kernel_rfl) (by kernel_rfl) (by kernel_rfl) (by kernel_rfl)) ?_
  intro W base args ds gs before hval0 hW hcnd _
  have hval : ∀ (j : Nat) t v, Try.f4.params[j]? = some t → args[j]? = some v → Value.okWide Try.prog W .any base t v := hval0
  have hW' := hW
  obtain ⟨p, q, hA0, hV, rfl, hfz, hnd⟩ := hW
  have hA : DataW.TrodAll enc Try.prog W 0 (fun _ => true) true Try.f4.params.toList args.toList ds p := hA0
  rw [Try.params4] at hA hval
  obtain ⟨v0, vs0, d0, ds0, p0, q0, hargs, rfl, rfl, h0, r0⟩ := trodAll_cons hA
  obtain ⟨v1, vs1, d1, ds1, p1, q1, rfl, rfl, rfl, h1, r1⟩ := trodAll_cons r0
  obtain ⟨v2, vs2, d2, ds2, p2, q2, rfl, rfl, rfl, h2, r2⟩ := trodAll_cons r1
  obtain ⟨rfl, rfl, rfl⟩ := trodAll_nil r2
  obtain rfl : args = #[v0, v1, v2] := by cases args; simp_all
  obtain ⟨rfl, rfl⟩ := trodVars_none hV
  have k0 := h0
  have lt0 : ∀ x ∈ p0, x.block < W.heap.size := by obtain ⟨m, hm⟩ := k0; exact DataW.trod_lt m _ _ _ hm
  have k1 := h1
  have lt1 : ∀ x ∈ p1, x.block < W.heap.size := by obtain ⟨m, hm⟩ := k1; exact DataW.trod_lt m _ _ _ hm
  have k2 := h2
  have lt2 : ∀ x ∈ p2, x.block < W.heap.size := by obtain ⟨m, hm⟩ := k2; exact DataW.trod_lt m _ _ _ hm
  obtain ⟨nt, hs, hl, rfl, hnt, -, -, -⟩ := open_net (hval 0 25 v0 rfl rfl) h0
  obtain ⟨wx, rfl⟩ := open_wgh (hval 1 27 v1 rfl rfl) h1
  obtain ⟨sm2, rfl⟩ := open_smp (hval 2 42 v2 rfl rfl) h2
  clear hA0 hval0
  refine (cone_any nt hs hl wx sm2 W hnt).mono fun e W' ⟨he, bel⟩ => ?_
  subst he
  exact ⟨_, rfl, _, _, _, [], _, [], hW', trodAll_mk1 (shut_bool Try.underlying4 _), (trodAll_cons_mk (Below.trod laidOut (by kernel_rfl) (of_decide_eq_true (by kernel_rfl)) k0 bel lt0) (trodAll_cons_mk (Below.trod laidOut (by kernel_rfl) (of_decide_eq_true (by kernel_rfl)) k1 bel lt1) (trodAll_cons_mk (Below.trod laidOut (by kernel_rfl) (of_decide_eq_true (by kernel_rfl)) k2 bel lt2) trodAll_mk0))), rfl, bel.frame _, fun h => by cases h⟩

theorem over : Rows.candOneRow.holds Try.pinned (OpenSpec.ofChange Rows.candOneSpec) :=
  OpenClaim.holds_of_wide 4 Try.f4 rfl rfl rfl rfl rfl rfl rfl ⟨rfl, rfl, rfl, rfl, rfl⟩ rfl rfl rfl rfl rfl (by kernel_rfl) Try.func4 (by kernel_rfl)
    (of_decide_eq_true (by kernel_rfl)) (by unfold Func.isWrapper; first | (rw [if_pos (by decide +kernel)]; kernel_rfl) | (rw [if_neg (by decide +kernel)]; exact ⟨rfl, rfl⟩))
    (fun os started H enc _ => lifted os started H enc)

theorem proved : Rows.CandOneSaid := over
#print axioms proved
end Go.Proofs.Ytknbpnkonhniiaa.lawCandOne
