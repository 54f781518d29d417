/- Candidates: points of a grid that is none: walked. -/
/- Candidates: the law CandOne: walked. -/
/- Grids: a greater reach keeps the first ones, plain. -/
/- Candidates: more reach, more of them: plain. -/
/- Candidates: the law CandFits: walked. -/
/- Candidates: a weighing and samples, opened. -/
/- CandFits answers true, whatever comes in, and what came in reads as it did; no condition. -/
import Derived.Test.YtknbpnkonhniiaaCnG
import Derived.Test.YtknbpnkonhniiaaCnJ
import Derived.Test.YtknbpnkonhniiaaGrP
import Derived.Test.YtknbpnkonhniiaaNeN
import Derived.Test.YtknbpnkonhniiaaWgh
import Derived.Test.YtknbpnkonhniiaaCnA
import Derived.Test.YtknbpnkonhniiaaRows
namespace Go.Proofs.Ytknbpnkonhniiaa.Ne
open Go.RowKit Go.V Go.Shelf Go.Proofs

set_option maxHeartbeats 8000000 in
set_option maxRecDepth 100000 in
theorem cpoints_none (n : Net) (hs hl : Hdr) (x : Wgh) (s : Smp) (w : World) (h0 : hs.n = 0) (hx : mayW x = true) (hsm : smpB s = true) :
    Calls Try.prog 15 #[.pointer none, n.val hs hl, x.val, s.val] w fun e w' => e = .returned (.tuple #[.slice none 0 0, .int .i64 2]) ∧ Below w.heap.size w w' := by
  obtain ⟨xr, xm, xf, xc⟩ := x
  have HX0 : Hid ((((w.alloc (n.box hs hl)).alloc (Wgh.mk xr xm xf xc).box).alloc (.cells #[.int .i64 s.t, .int .i64 s.x, .int .i64 s.y] 42)).heap[w.heap.size]? = some (n.box hs hl)) := box_alloc (box_alloc (box_new w _))
  have HY0 : Hid ((((w.alloc (n.box hs hl)).alloc (Wgh.mk xr xm xf xc).box).alloc (.cells #[.int .i64 s.t, .int .i64 s.x, .int .i64 s.y] 42)).heap[w.heap.size + 1]? = some (Wgh.mk xr xm xf xc).box) := by
    have := box_new (w.alloc (n.box hs hl)) (Wgh.mk xr xm xf xc).box
    rw [World.size_alloc] at this
    exact box_alloc this
  have HZ0 : Hid ((((w.alloc (n.box hs hl)).alloc (Wgh.mk xr xm xf xc).box).alloc (.cells #[.int .i64 s.t, .int .i64 s.x, .int .i64 s.y] 42)).heap[w.heap.size + 2]? = some (.cells #[.int .i64 s.t, .int .i64 s.x, .int .i64 s.y] 42 (0, 0))) := by
    have := box_new ((w.alloc (n.box hs hl)).alloc (Wgh.mk xr xm xf xc).box) (.cells #[.int .i64 s.t, .int .i64 s.x, .int .i64 s.y] 42)
    rw [World.size_alloc, World.size_alloc] at this
    exact this
  have HB0 : Hid (Below w.heap.size w (((w.alloc (n.box hs hl)).alloc (Wgh.mk xr xm xf xc).box).alloc (.cells #[.int .i64 s.t, .int .i64 s.x, .int .i64 s.y] 42))) := (((Below.refl _ _).alloc (Nat.le_refl _) _).alloc (by simp) _).alloc (by simp; omega) _
  have hs0 : (((w.alloc (n.box hs hl)).alloc (Wgh.mk xr xm xf xc).box).alloc (.cells #[.int .i64 s.t, .int .i64 s.x, .int .i64 s.y] 42)).heap.size = w.heap.size + 3 := by simp
  have mixed : Try.prog.follows .mixedOrders = true := by kernel_rfl
  obtain ⟨bm, hbm⟩ : ∃ b, mayW ⟨xr, xm, xf, xc⟩ = b := ⟨_, rfl⟩
  obtain ⟨bs, hbs⟩ : ∃ b, smpB s = b := ⟨_, rfl⟩
  have HBM := Lib.hid hbm
  have HBS := Lib.hid hbs
  rw [hx] at hbm
  rw [hsm] at hbs
  have H0 := Lib.hid h0
  subst hbm
  subst hbs
  clear h0 hx hsm
  refine (callsIn_wide (n := 8)).1 ?_
  refine callsIn_of_wp_marks Try.func15 rfl trivial ?_ rfl
  simp only [Try.ntmps15, List.size_toArray, List.length_cons, List.length_nil, Nat.reduceAdd, Nat.reduceSub, Array.replicate_succ, Array.replicate_zero, List.push_toArray, List.append_toArray, List.nil_append, List.cons_append]
  rw [wpIn_wide]
  go_upto_region 1 with fail
  obtain ⟨W0, hW0⟩ : ∃ W0, ((w.alloc (n.box hs hl)).alloc (Wgh.mk xr xm xf xc).box).alloc (.cells #[.int .i64 s.t, .int .i64 s.x, .int .i64 s.y] 42) = W0 := ⟨_, rfl⟩
  rw [hW0] at HX0 HY0 HZ0 HB0 hs0 ⊢
  clear hW0
  have x1 : W0.cell? ⟨w.heap.size, 1, none⟩ = some (.slice hs.a hs.n hs.cap) := (box_cell HX0.out 1).1
  have y0 : W0.cell? ⟨w.heap.size + 1, 0, none⟩ = some (.int .i64 xr) := (box_cell HY0.out 0).1
  have y1 : W0.cell? ⟨w.heap.size + 1, 1, none⟩ = some (.int .i64 xm) := (box_cell HY0.out 1).1
  have y2 : W0.cell? ⟨w.heap.size + 1, 2, none⟩ = some (.int .i64 xf) := (box_cell HY0.out 2).1
  have y3 : W0.cell? ⟨w.heap.size + 1, 3, none⟩ = some (.int .i64 xc) := (box_cell HY0.out 3).1
  have z0 : W0.cell? ⟨w.heap.size + 1 + 1, 0, none⟩ = some (.int .i64 s.t) := (box_cell HZ0.out 0).1
  have z1 : W0.cell? ⟨w.heap.size + 1 + 1, 1, none⟩ = some (.int .i64 s.x) := (box_cell HZ0.out 1).1
  have z2 : W0.cell? ⟨w.heap.size + 1 + 1, 2, none⟩ = some (.int .i64 s.y) := (box_cell HZ0.out 2).1
  have X1 := cell_regrown x1
  have Y0 := cell_regrown y0
  have Y1 := cell_regrown y1
  have Y2 := cell_regrown y2
  have Y3 := cell_regrown y3
  have Z0 := cell_regrown z0
  have Z1 := cell_regrown z1
  have Z2 := cell_regrown z2
  have q1 : ∀ nd osq, Calls Try.prog 10 #[(Wgh.mk xr xm xf xc).val] (Go.Sort.grow (redrawn W0 nd) osq) fun e w' => e = .returned (.bool true) ∧ Below (Go.Sort.grow (redrawn W0 nd) osq).heap.size (Go.Sort.grow (redrawn W0 nd) osq) w' := fun nd osq => (cmay_any ⟨xr, xm, xf, xc⟩ _).mono fun e w' ⟨k1, k2⟩ => ⟨by rw [k1, HBM.out], k2⟩
  have q2 : ∀ nd osq, Calls Try.prog 19 #[s.val] (Go.Sort.grow (redrawn W0 nd) osq) fun e w' => e = .returned (.bool true) ∧ Below (Go.Sort.grow (redrawn W0 nd) osq).heap.size (Go.Sort.grow (redrawn W0 nd) osq) w' := fun nd osq => (smay_any s _).mono fun e w' ⟨k1, k2⟩ => ⟨by rw [k1, HBS.out], k2⟩
  have q3 : ∀ nd osq, Calls Try.prog 27 #[.pointer none] (Go.Sort.grow (redrawn W0 nd) osq) fun e w' => e = .returned (.int .i64 0) ∧ Below (Go.Sort.grow (redrawn W0 nd) osq).heap.size (Go.Sort.grow (redrawn W0 nd) osq) w' := fun nd osq => (grlenn_any _).mono fun e w' ⟨k1, k2⟩ => ⟨k1, k2 ▸ Below.refl _ _⟩
  clear x1 y0 y1 y2 y3 z0 z1 z2
  have hn00 : ((0 : Int) != (hs.n : Int)) = false := by simp [H0.out]
  refine wp_region_quiet_below (by assumption) (by kernel_rfl) ?_
  repeat (go_big_quiet_step (first
    | (go_at_call 10; exact Calls.regrown_of (q1 _ _))
    | (go_at_call 19; exact Calls.regrown_of (q2 _ _))
    | (go_at_call 27; exact Calls.regrown_of (q3 _ _))))
  refine wpQuiet_nil ?_
  intro w9 hw9
  obtain ⟨⟨nd, osq⟩, rfl⟩ := hw9
  have hb9 := below_regrown W0 nd osq
  have HB9 : Hid (Below w.heap.size w (Go.Sort.grow (redrawn W0 nd) osq)) := HB0.out.trans (hb9.mono HB0.out.size)
  have HY9 := Lib.hid (box_below HY0.out hb9)
  have HZ9 := Lib.hid (box_below HZ0.out hb9)
  clear X1 Y0 Y1 Y2 Y3 Z0 Z1 Z2 q1 q2 q3
  generalize Go.Sort.grow (redrawn W0 nd) osq = w9 at HB9 HY9 HZ9 ⊢
  clear hb9
  have y0 : w9.cell? ⟨w.heap.size + 1, 0, none⟩ = some (.int .i64 xr) := (box_cell HY9.out 0).1
  have y1 : w9.cell? ⟨w.heap.size + 1, 1, none⟩ = some (.int .i64 xm) := (box_cell HY9.out 1).1
  have z1 : w9.cell? ⟨w.heap.size + 1 + 1, 1, none⟩ = some (.int .i64 s.x) := (box_cell HZ9.out 1).1
  have z2 : w9.cell? ⟨w.heap.size + 1 + 1, 2, none⟩ = some (.int .i64 s.y) := (box_cell HZ9.out 2).1
  go_wp2_with (go_at_call 28; go_fit (grnear_nil s.x s.y xr xm _); rintro e w10 ⟨rfl, hb10⟩; have HB10 := Lib.hid (HB9.out.trans (hb10.mono HB9.out.size)); clear hb10)
  refine ⟨_, results_tmp2 rfl _ _ _, ?_⟩
  exact ⟨rfl, HB10.out⟩
end Go.Proofs.Ytknbpnkonhniiaa.Ne

namespace Go.Proofs.Ytknbpnkonhniiaa.Ne
open Go.RowKit Go.V Go.Proofs

/-- Points of any grid of these stops: as the document says, or none. -/
def cptE (n : Net) (x : Wgh) (s : Smp) : List Fnd := if mayW x = true ∧ smpB s = true then rowE n x s else []
def ptErr (x : Wgh) (s : Smp) : Int := if mayW x = true ∧ smpB s = true then 0 else 2
theorem cpoints_any (g : Nat) (gh : Hdr) (z : Int) (b : Nat) (n : Net) (hs hl : Hdr) (x : Wgh) (s : Smp) (w : World)
    (hn : n.stops.length ≤ 200) (hz : 1 ≤ z ∧ z ≤ 67108864) (hSB : ∀ s ∈ n.stops, stpB s = true)
    (hnet : NetIn w n hs hl) (hg : GBox w g gh z b) (hgs : Sl Stp.cod w gh.a gh.n gh.cap n.stops) (hgm : GMap w b (idxs n.stops z)) :
    Calls Try.prog 15 #[gP g, n.val hs hl, x.val, s.val] w fun e w' => ∃ va vc, e = .returned (.tuple #[.slice va (cptE n x s).length vc, .int .i64 (ptErr x s)]) ∧ Sl Fnd.cod w' va (cptE n x s).length vc (cptE n x s) ∧ Below w.heap.size w w' := by
  by_cases hok : mayW x = true ∧ smpB s = true
  · have hr := mayW_reach hok.1
    refine (cpoints_ok g gh z b n hs hl x s w hn hz hSB hok.1 hok.2 ⟨hr.1, hr.2.1, hr.2.2.1⟩ hnet hg hgs hgm).mono ?_
    rintro e w' ⟨v, rfl, ho, hb⟩
    have e1 : cptE n x s = rowE n x s := if_pos hok
    have e2 : ptErr x s = 0 := if_pos hok
    obtain ⟨a, c, rfl, hsl, -⟩ := ho.slice
    rw [e1, e2]
    exact ⟨a, c, rfl, hsl, hb⟩
  · have e1 : cptE n x s = [] := if_neg hok
    have e2 : ptErr x s = 2 := if_neg hok
    have hbad : mayW x = false ∨ smpB s = false ∨ (gh.n : Int) ≠ hs.n := by
      cases hm : mayW x with
      | false => exact .inl rfl
      | true =>
        refine .inr (.inl ?_)
        cases hs' : smpB s with
        | false => rfl
        | true => exact absurd ⟨hm, hs'⟩ hok
    refine (cpoints_bad (gP g) gh.n n hs hl x s w (fun W hW => (grlen_any g gh z b W (hg.below hW)).mono fun e w' ⟨k1, k2⟩ => ⟨k1, k2 ▸ Below.refl _ _⟩) hbad).mono ?_
    rintro e w' ⟨rfl, hb⟩
    rw [e1, e2]
    exact ⟨none, 0, rfl, ⟨rfl, Nat.le_refl _, Nat.zero_le _, fun _ => ⟨rfl, rfl⟩, fun d hd => nomatch hd⟩, hb⟩
theorem cpoints_nil (n : Net) (hs hl : Hdr) (x : Wgh) (s : Smp) (w : World) :
    Calls Try.prog 15 #[.pointer none, n.val hs hl, x.val, s.val] w fun e w' => e = .returned (.tuple #[.slice none 0 0, .int .i64 2]) ∧ Below w.heap.size w w' := by
  by_cases hok : mayW x = true ∧ smpB s = true ∧ hs.n = 0
  · exact cpoints_none n hs hl x s w hok.2.2 hok.1 hok.2.1
  · refine cpoints_bad (.pointer none) 0 n hs hl x s w (fun W hW => (grlenn_any W).mono fun e w' ⟨k1, k2⟩ => ⟨k1, k2 ▸ Below.refl _ _⟩) ?_
    cases hm : mayW x with
    | false => exact .inl rfl
    | true =>
      cases hs' : smpB s with
      | false => exact .inr (.inl rfl)
      | true => exact .inr (.inr fun e => hok ⟨hm, hs', by omega⟩)
theorem cpoints_other (g : Nat) (gh : Hdr) (z : Int) (b : Nat) (n : Net) (hs hl : Hdr) (x : Wgh) (s : Smp) (w : World) (hg : GBox w g gh z b) (hne : gh.n ≠ hs.n) :
    Calls Try.prog 15 #[gP g, n.val hs hl, x.val, s.val] w fun e w' => e = .returned (.tuple #[.slice none 0 0, .int .i64 2]) ∧ Below w.heap.size w w' :=
  cpoints_bad (gP g) gh.n n hs hl x s w (fun W hW => (grlen_any g gh z b W (hg.below hW)).mono fun e w' ⟨k1, k2⟩ => ⟨k1, k2 ▸ Below.refl _ _⟩) (.inr (.inr (by omega)))
end Go.Proofs.Ytknbpnkonhniiaa.Ne

namespace Go.Proofs.Ytknbpnkonhniiaa.Ne
open Go.RowKit Go.V Go.Proofs

theorem take_filter {P : Fnd → Bool} (hP : ∀ x y, ltF x y → P y = true → P x = true) : ∀ {L : List Fnd}, L.Pairwise ltF → L.take (L.filter P).length = L.filter P
  | [], _ => rfl
  | x :: L, h => by
    obtain ⟨h1, h2⟩ := List.pairwise_cons.1 h
    cases hx : P x with
    | true => rw [List.filter_cons_of_pos hx, List.length_cons, List.take_succ_cons, take_filter hP h2]
    | false =>
      have e : L.filter P = [] := List.filter_eq_nil_iff.2 fun y hy hh => by
        rw [hP x y (h1 y hy) hh] at hx; cases hx
      rw [List.filter_cons_of_neg (by rw [hx]; decide), e]; rfl
theorem near_sub {p : Stp} {S : List Stp} {m m' : Int} (h : m ≤ m') : (nearF p S m').filter (fun f => decide (f.sq ≤ m)) = nearF p S m := by
  refine near_uniq ⟨List.Nodup.sublist List.filter_sublist (near_good p S m').1, fun f => ?_⟩ (List.Pairwise.sublist List.filter_sublist (near_sorted p S m'))
  rw [List.mem_filter, (near_good p S m').2 f, decide_eq_true_iff]
  constructor
  · rintro ⟨⟨k, hk, e, -⟩, h2⟩; exact ⟨k, hk, e, h2⟩
  · rintro ⟨k, hk, e, h2⟩; exact ⟨⟨k, hk, e, by omega⟩, h2⟩
theorem near_full {p : Stp} {S : List Stp} {m : Int} {k : Nat} (h : S.length ≤ k) : nearL p S m k = (nearF p S m).map Fnd.stop := by
  unfold nearL
  rw [List.take_of_length_le (Nat.le_trans (near_len p S m) h)]
theorem near_prefix {p : Stp} {S : List Stp} {m m' : Int} {k : Nat} (hk : S.length ≤ k) (h : m ≤ m') : (nearL p S m k).length ≤ (nearL p S m' k).length ∧ (nearL p S m' k).take (nearL p S m k).length = nearL p S m k := by
  rw [near_full hk, near_full hk, List.length_map, List.length_map]
  have e := take_filter (P := fun f => decide (f.sq ≤ m)) (fun x y hxy hy => by
    have hy := of_decide_eq_true hy
    refine decide_eq_true ?_
    unfold ltF at hxy
    omega) (near_sorted p S m')
  rw [near_sub h] at e
  refine ⟨?_, ?_⟩
  · have := congrArg List.length e
    rw [List.length_take] at this
    omega
  · rw [← List.map_take, e]
theorem take_prefix {α : Type} {A B : List α} {a b : Nat} (h : B.take A.length = A) (hab : a ≤ b) : ((B.take b).take (A.take a).length) = A.take a ∧ (A.take a).length ≤ (B.take b).length := by
  have hl : A.length ≤ B.length := by have := congrArg List.length h; rw [List.length_take] at this; omega
  have h1 : (A.take a).length ≤ b := by rw [List.length_take]; omega
  refine ⟨?_, by rw [List.length_take, List.length_take]; omega⟩
  rw [List.take_take, Nat.min_eq_left h1]
  have e : A.take a = (B.take A.length).take a := by rw [h]
  rw [e, List.take_take]
  congr 1
  rw [List.length_take]
  omega
end Go.Proofs.Ytknbpnkonhniiaa.Ne

namespace Go.Proofs.Ytknbpnkonhniiaa.Ne
open Go.RowKit Go.V Go.Proofs

/-- A greater weighing. -/
def moreW (x : Wgh) : Wgh := ⟨min (x.reach + 20) 1048576, min (x.most + 2) 16, x.factor, x.change⟩
theorem moreW_may {x : Wgh} (h : mayW x = true) : mayW (moreW x) = true := by
  have hr := mayW_reach h
  unfold mayW moreW at *
  simp only [Bool.and_eq_true] at *
  refine ⟨⟨⟨decide_eq_true (by omega), decide_eq_true (by omega)⟩, h.1.2⟩, h.2⟩
theorem nearF_prefix {p : Stp} {S : List Stp} {m m' : Int} (h : m ≤ m') : (nearF p S m').take (nearF p S m).length = nearF p S m := by
  have e := take_filter (P := fun f => decide (f.sq ≤ m)) (fun x y hxy hy => by
    have hy := of_decide_eq_true hy
    refine decide_eq_true ?_
    unfold ltF at hxy
    omega) (near_sorted p S m')
  rw [near_sub h] at e
  exact e
theorem row_prefix {n : Net} {x : Wgh} {s : Smp} (h : mayW x = true) : (rowE n (moreW x) s).take (rowE n x s).length = rowE n x s ∧ (rowE n x s).length ≤ (rowE n (moreW x) s).length := by
  have hr := mayW_reach h
  have hm : x.reach * x.reach ≤ (moreW x).reach * (moreW x).reach := by
    have : x.reach ≤ (moreW x).reach := by show x.reach ≤ min (x.reach + 20) 1048576; omega
    exact Int.mul_le_mul this this hr.1 (by omega)
  unfold rowE ptsE
  exact take_prefix (nearF_prefix hm) (by show x.most.toNat ≤ (min (x.most + 2) 16).toNat; omega)
theorem row_at {n : Net} {x : Wgh} {s : Smp} {i : Nat} {f : Fnd} (h : (rowE n x s)[i]? = some f) : f.sq ≤ x.reach * x.reach ∧ 0 ≤ f.stop ∧ f.stop < n.stops.length := by
  have hm := List.mem_of_getElem? h
  unfold rowE ptsE at hm
  obtain ⟨k, hk, rfl, hs⟩ := ((near_good s.pt n.stops (x.reach * x.reach)).2 f).1 (List.mem_of_mem_take hm)
  have e : (fnd s.pt n.stops (k : Int)).stop = (k : Int) := rfl
  rw [e]
  exact ⟨hs, by omega, by omega⟩
theorem row_order {n : Net} {x : Wgh} {s : Smp} {i : Nat} {f g : Fnd} (h : (rowE n x s)[i]? = some f) (h' : (rowE n x s)[i + 1]? = some g) : ltF f g := by
  have hs : (rowE n x s).Pairwise ltF := by
    unfold rowE ptsE
    exact List.Pairwise.sublist (List.take_sublist _ _) (near_sorted s.pt n.stops (x.reach * x.reach))
  obtain ⟨h1, e1⟩ := List.getElem?_eq_some_iff.1 h
  obtain ⟨h2, e2⟩ := List.getElem?_eq_some_iff.1 h'
  have := List.pairwise_iff_getElem.1 hs i (i + 1) h1 h2 (Nat.lt_succ_self _)
  rwa [e1, e2] at this
theorem row_most (n : Net) {x : Wgh} (s : Smp) (h : mayW x = true) : ((rowE n x s).length : Int) ≤ x.most := by
  have hr := mayW_reach h
  unfold rowE ptsE
  rw [List.length_take]
  omega
end Go.Proofs.Ytknbpnkonhniiaa.Ne

namespace Go.Proofs.Ytknbpnkonhniiaa.Ne
open Go.RowKit Go.V Go.Proofs

theorem cgnew_bad (a : Option Addr) (n cap : Nat) (S : List Stp) (z : Int) (w : World) (hn : n ≤ 200) (h : Sl Stp.cod w a n cap S) (h0 : rightE S z = 2) :
    Calls Try.prog 14 #[.slice a n cap, .int .i64 z] w fun e w' => e = .returned (.tuple #[.pointer none, .int .i64 2]) ∧ Below w.heap.size w w' :=
  (grnew_any a n cap S z w hn h).mono fun e w' ⟨hb, hh⟩ => by
    rcases hh with ⟨-, rfl⟩ | ⟨h2, -⟩
    · rw [h0]; exact ⟨rfl, hb⟩
    · rw [h0] at h2; cases h2
theorem pts_upto {w : World} {a : Option Addr} {n cap q : Nat} {xs : List Fnd} (h : Sl Fnd.cod w a n cap xs) (hq : q ≤ n) (W : World) : (Instr.slice 39 (.slice a n cap) none (some (.int .i64 (q : Int))) none).run Try.prog W = .ok (.slice a q cap) W := by
  have hc := h.hcap
  rw [run_slice_h W 39 a n cap (by kernel_rfl) .i64 (q : Int) (by omega) (by omega)]
  have e : (sizeOf (Try.prog.elem 39)).run Try.prog W = .ok 2 W := by kernel_rfl
  rw [e]
  show Result.ok (sliced a 0 (q : Int).toNat cap 2) W = _
  unfold sliced
  rw [Int.toNat_natCast]
  by_cases h0 : cap = 0
  · rw [if_pos h0]; rfl
  · rw [if_neg h0]
    have hm : a.map (·.add (0 * 2)) = a := by
      cases a with
      | none => rfl
      | some d =>
        obtain ⟨b, off, sp⟩ := d
        have this : sp = none := (h.hat _ rfl (by omega)).1
        subst this
        show some ((⟨b, off, none⟩ : Addr).add (0 * 2)) = some _
        rw [Nat.zero_mul, add_addr]; rfl
    rw [hm]; rfl

set_option maxHeartbeats 8000000 in
set_option maxRecDepth 100000 in
theorem cfits21_any (n : Net) (hs hl : Hdr) (x : Wgh) (s : Smp) (w : World) (hnet : NetIn w n hs hl) :
    Calls Try.prog 5 #[n.val hs hl, x.val, s.val] w fun e w' => e = .returned (.bool true) ∧ Below w.heap.size w w' := by
  obtain ⟨xr, xm, xf, xc⟩ := x
  have HX0 : Hid ((((w.alloc (n.box hs hl)).alloc (Wgh.mk xr xm xf xc).box).alloc (.cells #[.int .i64 s.t, .int .i64 s.x, .int .i64 s.y] 42)).heap[w.heap.size]? = some (.cells #[.int .i64 n.ver, .slice hs.a hs.n hs.cap, .slice hl.a hl.n hl.cap] 25 (0, 0))) := box_alloc (box_alloc (box_new w _))
  have HY0 : Hid ((((w.alloc (n.box hs hl)).alloc (Wgh.mk xr xm xf xc).box).alloc (.cells #[.int .i64 s.t, .int .i64 s.x, .int .i64 s.y] 42)).heap[w.heap.size + 1]? = some (.cells #[.int .i64 xr, .int .i64 xm, .int .i64 xf, .int .i64 xc] 27 (0, 0))) := by
    have := box_new (w.alloc (n.box hs hl)) (Wgh.mk xr xm xf xc).box
    rw [World.size_alloc] at this
    exact box_alloc this
  have HZ0 : Hid ((((w.alloc (n.box hs hl)).alloc (Wgh.mk xr xm xf xc).box).alloc (.cells #[.int .i64 s.t, .int .i64 s.x, .int .i64 s.y] 42)).heap[w.heap.size + 1 + 1]? = some (.cells #[.int .i64 s.t, .int .i64 s.x, .int .i64 s.y] 42 (0, 0))) := by
    have := box_new ((w.alloc (n.box hs hl)).alloc (Wgh.mk xr xm xf xc).box) (.cells #[.int .i64 s.t, .int .i64 s.x, .int .i64 s.y] 42)
    rw [World.size_alloc, World.size_alloc] at this
    exact this
  have HB0 : Hid (Below w.heap.size w (((w.alloc (n.box hs hl)).alloc (Wgh.mk xr xm xf xc).box).alloc (.cells #[.int .i64 s.t, .int .i64 s.x, .int .i64 s.y] 42))) := (((Below.refl _ _).alloc (Nat.le_refl _) _).alloc (by simp) _).alloc (by simp; omega) _
  have HNT := Lib.hid hnet
  obtain ⟨bf, hbf⟩ : ∃ b, decide (hs.n ≤ 60 ∧ hl.n ≤ 120) = b := ⟨_, rfl⟩
  have HBF := Lib.hid hbf
  have HKL := Lib.hid hnet.s.hlen
  clear hnet hbf
  cases bf with
  | false =>
    go_enter Try.func5, Try.ntmps5
    go_wp2_with (first
      | (go_at_call 6; go_fit (awake21_any _); rintro e w2 ⟨rfl, hb2⟩; have HX2 := Lib.hid (box_below HX0.out hb2); obtain ⟨x0, x1, x2, -, -, -⟩ := box3_cells HX2.out; have HB2 := Lib.hid (HB0.out.trans (hb2.mono HB0.out.size)); clear hb2)
      | (go_at_call 7; go_fit (few_any n hs hl _); rintro e w3 ⟨rfl, hb3⟩; rw [HBF.out]; have HB3 := Lib.hid (HB2.out.trans (hb3.mono HB2.out.size)); clear hb3))
    go_ret
    exact ⟨rfl, HB3.out⟩
  | true =>
    obtain ⟨m1, m2⟩ := of_decide_eq_true HBF.out
    by_cases h0 : hs.n = 0
    · have hz : ((hs.n : Int) == 0) = true := by simp [h0]
      clear h0
      go_enter Try.func5, Try.ntmps5
      go_wp2_with (first
        | (go_at_call 6; go_fit (awake21_any _); rintro e w2 ⟨rfl, hb2⟩; have HX2 := Lib.hid (box_below HX0.out hb2); have HY2 := Lib.hid (box_below HY0.out hb2); have HZ2 := Lib.hid (box_below HZ0.out hb2); obtain ⟨x0, x1, x2, -, -, -⟩ := box3_cells HX2.out; have HB2 := Lib.hid (HB0.out.trans (hb2.mono HB0.out.size)); clear hb2)
        | (go_at_call 7; go_fit (few_any n hs hl _); rintro e w3 ⟨rfl, hb3⟩; rw [HBF.out]; have HX3 := Lib.hid (box_below HX2.out hb3); have HY3 := Lib.hid (box_below HY2.out hb3); have HZ3 := Lib.hid (box_below HZ2.out hb3); obtain ⟨x0, x1, x2, -, -, -⟩ := box3_cells HX3.out; have HB3 := Lib.hid (HB2.out.trans (hb3.mono HB2.out.size)); clear hb3))
      go_ret
      exact ⟨rfl, HB3.out⟩
    have hz : ((hs.n : Int) == 0) = false := by simp; omega
    clear h0
    cases hall : n.stops.all stpB with
    | false =>
      have HR : Hid (rightE n.stops 50 = 2) := by
        show _ = _
        unfold rightE
        rw [if_neg (by omega), if_neg (by rw [hall]; decide)]
      clear hall
      go_enter Try.func5, Try.ntmps5
      go_wp2_with (first
        | (go_at_call 6; go_fit (awake21_any _); rintro e w2 ⟨rfl, hb2⟩; have HX2 := Lib.hid (box_below HX0.out hb2); have HY2 := Lib.hid (box_below HY0.out hb2); have HZ2 := Lib.hid (box_below HZ0.out hb2); obtain ⟨x0, x1, x2, -, -, -⟩ := box3_cells HX2.out; have HB2 := Lib.hid (HB0.out.trans (hb2.mono HB0.out.size)); clear hb2)
        | (go_at_call 7; go_fit (few_any n hs hl _); rintro e w3 ⟨rfl, hb3⟩; rw [HBF.out]; have HX3 := Lib.hid (box_below HX2.out hb3); have HY3 := Lib.hid (box_below HY2.out hb3); have HZ3 := Lib.hid (box_below HZ2.out hb3); obtain ⟨x0, x1, x2, -, -, -⟩ := box3_cells HX3.out; have HB3 := Lib.hid (HB2.out.trans (hb3.mono HB2.out.size)); clear hb3)
        | (go_at_call 14; go_fit (cgnew_bad hs.a hs.n hs.cap n.stops 50 _ (by omega) (HNT.out.s.below HB3.out) HR.out); rintro e w4 ⟨rfl, hb4⟩; have HB4 := Lib.hid (HB3.out.trans (hb4.mono HB3.out.size)); clear hb4))
      go_ret
      exact ⟨rfl, HB4.out⟩
    | true =>
      have HST := Lib.hid hall
      have HSB : Hid (∀ s ∈ n.stops, stpB s = true) := fun s hs => List.all_eq_true.1 HST.out s hs
      have HSN : Hid (n.stops.length ≤ 200) := by show _ ≤ _; rw [← HKL.out]; omega
      clear hall
      have hpc := fun (x : Wgh) (g : Nat) (gh : Hdr) (b : Nat) (W : World) (h1 : NetIn W n hs hl) (h2 : GBox W g gh 50 b) (h3 : Sl Stp.cod W gh.a gh.n gh.cap n.stops) (h4 : GMap W b (idxs n.stops 50)) => cpoints_any g gh 50 b n hs hl x s W HSN.out (by omega) HSB.out h1 h2 h3 h4
      by_cases hok : mayW ⟨xr, xm, xf, xc⟩ = true ∧ smpB s = true
      case neg =>
        have e1 : cptE n ⟨xr, xm, xf, xc⟩ s = [] := if_neg hok
        have e2 : ptErr ⟨xr, xm, xf, xc⟩ s = 2 := if_neg hok
        have hpc := hpc ⟨xr, xm, xf, xc⟩
        rw [e1, e2] at hpc
        have HPC := Lib.hid hpc
        clear hpc hok e1 e2
        go_enter Try.func5, Try.ntmps5
        go_wp2_with (first
          | (go_at_call 6; go_fit (awake21_any _); rintro e w2 ⟨rfl, hb2⟩; have HX2 := Lib.hid (box_below HX0.out hb2); have HY2 := Lib.hid (box_below HY0.out hb2); have HZ2 := Lib.hid (box_below HZ0.out hb2); obtain ⟨x0, x1, x2, -, -, -⟩ := box3_cells HX2.out; have HB2 := Lib.hid (HB0.out.trans (hb2.mono HB0.out.size)); clear hb2)
          | (go_at_call 7; go_fit (few_any n hs hl _); rintro e w3 ⟨rfl, hb3⟩; rw [HBF.out]; have HX3 := Lib.hid (box_below HX2.out hb3); have HY3 := Lib.hid (box_below HY2.out hb3); have HZ3 := Lib.hid (box_below HZ2.out hb3); obtain ⟨x0, x1, x2, -, -, -⟩ := box3_cells HX3.out; have HB3 := Lib.hid (HB2.out.trans (hb3.mono HB2.out.size)); clear hb3)
          | (go_at_call 14; go_fit (cgnew_ok hs.a hs.n hs.cap n.stops 50 _ (by omega) (HNT.out.s.below HB3.out) (right_any_size (by omega) HST.out)); rintro e w7 ⟨g, gh, b, rfl, hg, hgs, hgm, hb7⟩; have HG7 := Lib.hid hg; have HGS7 := Lib.hid hgs; have HGM7 := Lib.hid hgm; have HX7 := Lib.hid (box_below HX3.out hb7); have HY7 := Lib.hid (box_below HY3.out hb7); have HZ7 := Lib.hid (box_below HZ3.out hb7); obtain ⟨x0, x1, x2, -, -, -⟩ := box3_cells HX7.out; obtain ⟨y0, y1, y2, y3⟩ := box4w_cells HY7.out; obtain ⟨z0, z1, z2, -, -, -⟩ := box3_cells HZ7.out; have HB7 := Lib.hid (HB3.out.trans (hb7.mono HB3.out.size)); clear hg hgs hgm hb7)
          | (go_at_call 15; go_fit (HPC.out g gh b _ (HNT.out.below HB7.out) HG7.out HGS7.out HGM7.out); rintro e w8 ⟨va, vc, rfl, hv, hb8⟩; have HB8 := Lib.hid (HB7.out.trans (hb8.mono HB7.out.size)); clear hv hb8))
        go_ret
        exact ⟨rfl, HB8.out⟩
      case pos =>
        have hmr : 0 ≤ xr ∧ xr ≤ 1048576 ∧ 0 ≤ xm ∧ xm ≤ 16 ∧ 1 ≤ xm := mayW_reach hok.1
        have hpc1 := hpc ⟨xr, xm, xf, xc⟩
        have hpc2 := hpc (moreW ⟨xr, xm, xf, xc⟩)
        have hmore := moreW_may hok.1
        have e1 : cptE n ⟨xr, xm, xf, xc⟩ s = rowE n ⟨xr, xm, xf, xc⟩ s := if_pos hok
        have e2 : ptErr ⟨xr, xm, xf, xc⟩ s = 0 := if_pos hok
        have e3 : cptE n (moreW ⟨xr, xm, xf, xc⟩) s = rowE n (moreW ⟨xr, xm, xf, xc⟩) s := if_pos ⟨hmore, hok.2⟩
        have e4 : ptErr (moreW ⟨xr, xm, xf, xc⟩) s = 0 := if_pos ⟨hmore, hok.2⟩
        rw [e1, e2] at hpc1
        rw [e3, e4] at hpc2
        obtain ⟨mr, hmr1⟩ : ∃ m, (if 1048576 < xr + 20 then 1048576 else xr + 20) = m := ⟨_, rfl⟩
        obtain ⟨mm, hmm1⟩ : ∃ m, (if 16 < xm + 2 then 16 else xm + 2) = m := ⟨_, rfl⟩
        have k1 : min (xr + 20) 1048576 = mr := by rw [← hmr1]; split <;> omega
        have k2 : min (xm + 2) 16 = mm := by rw [← hmm1]; split <;> omega
        have HMR2 := Lib.hid k1
        have HMM2 := Lib.hid k2
        have hme : moreW ⟨xr, xm, xf, xc⟩ = ⟨mr, mm, xf, xc⟩ := by
          show Wgh.mk (min (xr + 20) 1048576) (min (xm + 2) 16) xf xc = _
          rw [k1, k2]
        have HMR := Lib.hid hmr1
        have HMM := Lib.hid hmm1
        have hpre := row_prefix (n := n) (x := ⟨xr, xm, xf, xc⟩) (s := s) hok.1
        have hmost := row_most n s hok.1
        have hat := fun (i : Nat) (f : Fnd) (h : (rowE n ⟨xr, xm, xf, xc⟩ s)[i]? = some f) => row_at h
        have hord := fun (i : Nat) (f g : Fnd) (h : (rowE n ⟨xr, xm, xf, xc⟩ s)[i]? = some f) (h' : (rowE n ⟨xr, xm, xf, xc⟩ s)[i + 1]? = some g) => row_order h h'
        rw [hme] at hpc2 hpre
        clear e1 e2 e3 e4 hmore hme hmr1 hmm1 k1 k2
        obtain ⟨PT, hPT⟩ : ∃ P, rowE n ⟨xr, xm, xf, xc⟩ s = P := ⟨_, rfl⟩
        obtain ⟨QT, hQT⟩ : ∃ P, rowE n ⟨mr, mm, xf, xc⟩ s = P := ⟨_, rfl⟩
        rw [hPT] at hpc1 hpre hmost hat hord
        rw [hQT] at hpc2 hpre
        obtain ⟨PL, hPL⟩ : ∃ k, PT.length = k := ⟨_, rfl⟩
        obtain ⟨QL, hQL⟩ : ∃ k, QT.length = k := ⟨_, rfl⟩
        rw [hPL] at hpc1 hpre hmost
        rw [hQL] at hpc2 hpre
        rw [← HKL.out] at hat
        have HPC := Lib.hid hpc1
        have HQC := Lib.hid hpc2
        have HPRE := Lib.hid hpre
        have HAT := Lib.hid hat
        have HORD := Lib.hid hord
        have hmost : (PL : Int) ≤ xm := hmost
        have hpq : (PL : Int) ≤ (QL : Int) := by have := hpre.2; omega
        have hxr : 0 ≤ xr ∧ xr ≤ 1048576 := ⟨hmr.1, hmr.2.1⟩
        have hsq : 0 ≤ xr * xr ∧ xr * xr ≤ 1099511627776 := ⟨Int.mul_nonneg hxr.1 hxr.1, by have := Int.mul_le_mul hxr.2 hxr.2 hxr.1 (by omega : (0 : Int) ≤ 1048576); omega⟩
        have HXR := Lib.hid hxr
        have HXM := Lib.hid hmr
        have HPQ := Lib.hid hpq
        have HMO := Lib.hid hmost
        have hws : IntKind.i64.wrap (xr * xr) = xr * xr := by rw [IntKind.wrap_i64]; omega
        have hwr : IntKind.i64.wrap (xr + 20) = xr + 20 := by rw [IntKind.wrap_i64]; omega
        have hwm : IntKind.i64.wrap (xm + 2) = xm + 2 := by rw [IntKind.wrap_i64]; omega
        clear hpc hpc1 hpc2 hpre hat hord hok hPT hQT hPL hQL hmr hxr hsq hmost hpq
        go_enter Try.func5, Try.ntmps5
        go_wp2_with (first
          | (go_at_call 6; go_fit (awake21_any _); rintro e w2 ⟨rfl, hb2⟩; have HX2 := Lib.hid (box_below HX0.out hb2); have HY2 := Lib.hid (box_below HY0.out hb2); have HZ2 := Lib.hid (box_below HZ0.out hb2); obtain ⟨x0, x1, x2, -, -, -⟩ := box3_cells HX2.out; have HB2 := Lib.hid (HB0.out.trans (hb2.mono HB0.out.size)); clear hb2)
          | (go_at_call 7; go_fit (few_any n hs hl _); rintro e w3 ⟨rfl, hb3⟩; rw [HBF.out]; have HX3 := Lib.hid (box_below HX2.out hb3); have HY3 := Lib.hid (box_below HY2.out hb3); have HZ3 := Lib.hid (box_below HZ2.out hb3); obtain ⟨x0, x1, x2, -, -, -⟩ := box3_cells HX3.out; have HB3 := Lib.hid (HB2.out.trans (hb3.mono HB2.out.size)); clear hb3)
          | (go_at_call 14; go_fit (cgnew_ok hs.a hs.n hs.cap n.stops 50 _ (by omega) (HNT.out.s.below HB3.out) (right_any_size (by omega) HST.out)); rintro e w7 ⟨g, gh, b, rfl, hg, hgs, hgm, hb7⟩; have HG7 := Lib.hid hg; have HGS7 := Lib.hid hgs; have HGM7 := Lib.hid hgm; have HX7 := Lib.hid (box_below HX3.out hb7); have HY7 := Lib.hid (box_below HY3.out hb7); have HZ7 := Lib.hid (box_below HZ3.out hb7); obtain ⟨x0, x1, x2, -, -, -⟩ := box3_cells HX7.out; obtain ⟨y0, y1, y2, y3⟩ := box4w_cells HY7.out; obtain ⟨z0, z1, z2, -, -, -⟩ := box3_cells HZ7.out; have HB7 := Lib.hid (HB3.out.trans (hb7.mono HB3.out.size)); clear hg hgs hgm hb7)
          | (go_at_call 15; go_fit (HPC.out g gh b _ (HNT.out.below HB7.out) HG7.out HGS7.out HGM7.out); rintro e w8 ⟨va, vc, rfl, hv, hb8⟩; have HV8 := Lib.hid hv; have HX8 := Lib.hid (box_below HX7.out hb8); have HY8 := Lib.hid (box_below HY7.out hb8); have HZ8 := Lib.hid (box_below HZ7.out hb8); have HG8 := Lib.hid (HG7.out.below hb8); have HGS8 := Lib.hid (HGS7.out.below hb8); have HGM8 := Lib.hid (HGM7.out.below hb8); obtain ⟨x0, x1, x2, -, -, -⟩ := box3_cells HX8.out; obtain ⟨y0, y1, y2, y3⟩ := box4w_cells HY8.out; obtain ⟨z0, z1, z2, -, -, -⟩ := box3_cells HZ8.out; have HB8 := Lib.hid (HB7.out.trans (hb8.mono HB7.out.size)); clear hv hb8))
        clear x0 x1 x2 y0 y1 y2 y3 z0 z1 z2
        have mixed : Try.prog.follows .mixedOrders = true := by kernel_rfl
        have hpl : (PL : Int) ≤ 16 := by have := HMO.out; have := HXM.out; omega
        go_loopw [52] (fun i wr => ∃ (j : Nat), j ≤ PL ∧ i = .int .i64 j ∧ Hid (Below w8.heap.size w8 wr)) (fun i _ => PL - (intOf i).toNat)
        case atStart => exact ⟨0, by omega, rfl, Below.refl _ _⟩
        case round =>
          obtain ⟨j, hj, rfl, hb⟩ := hrel
          by_cases hlt : j < PL
          · have hltz : (j : Int) < (PL : Int) := by omega
            obtain ⟨ib, io, ⟨fst, fsq⟩, he, hib, hf, c0, c1⟩ := fnd_at (HV8.out.below hb.out) hlt
            cases he
            obtain ⟨a1, a2, a3⟩ := HAT.out _ _ hf
            have a1 : fsq ≤ xr * xr := a1
            have a2 : 0 ≤ fst := a2
            have a3 : fst < (hs.n : Int) := a3
            have ha1 : decide (xr * xr < fsq) = false := decide_eq_false (by omega)
            have ha2 : decide (fst < 0) = false := decide_eq_false (by omega)
            have ha3 : decide ((hs.n : Int) ≤ fst) = false := decide_eq_false (by omega)
            have hba : Below wr.heap.size wr (wr.alloc (.cells #[.int .i64 fst, .int .i64 fsq] 56)) := (Below.refl _ _).alloc (Nat.le_refl _) _
            have hb9 : Hid (Below w8.heap.size w8 (wr.alloc (.cells #[.int .i64 fst, .int .i64 fsq] 56))) := hb.out.trans (hba.mono hb.out.size)
            have HX9 := Lib.hid (box_below HX8.out hb9.out)
            have HY9 := Lib.hid (box_below HY8.out hb9.out)
            have HT9 := Lib.hid (box_new wr (.cells #[.int .i64 fst, .int .i64 fsq] 56))
            obtain ⟨t0, t1, -, -⟩ := box2_cells HT9.out
            obtain ⟨x0, x1, x2, -, -, -⟩ := box3_cells HX9.out
            obtain ⟨y0, y1, y2, y3⟩ := box4w_cells HY9.out
            have T0 := cell_regrown t0
            have T1 := cell_regrown t1
            have X1 := cell_regrown x1
            have Y0 := cell_regrown y0
            have HF := Lib.hid hf
            clear a1 a2 a3 hf x0 x1 x2 y0 y1 y2 y3 t0 t1
            cases j with
            | zero =>
              simp only [Nat.zero_mul, Nat.add_zero] at c0 c1
              go_upto_region 14 with fail
              refine wp_region_quiet_below (by assumption) (by kernel_rfl) ?_
              repeat (go_big_quiet_step (fail))
              refine wpQuiet_nil ?_
              intro w9 hw9
              obtain ⟨⟨nd, osq⟩, rfl⟩ := hw9
              have HB9 : Hid (Below w8.heap.size w8 (Go.Sort.grow (redrawn (wr.alloc (.cells #[.int .i64 fst, .int .i64 fsq] 56)) nd) osq)) := hb9.out.trans ((below_regrown _ nd osq).mono hb9.out.size)
              clear T0 T1 X1 Y0
              generalize Go.Sort.grow (redrawn (wr.alloc (.cells #[.int .i64 fst, .int .i64 fsq] 56)) nd) osq = w9 at HB9 ⊢
              go_wp2_with fail
              go_roundw
              case rel => exact ⟨0 + 1, by omega, by go_num, HB9.out⟩
              case measure => simp [intOf]; omega
            | succ i =>
              obtain ⟨b', off', ⟨gst, gsq⟩, hba', -, hg, g0, g1⟩ := fnd_at (HV8.out.below hb9.out) (i := i) (by omega)
              cases hba'
              have G0 := cell_regrown g0
              have G1 := cell_regrown g1
              have ho : gsq < fsq ∨ (gsq = fsq ∧ gst < fst) := HORD.out _ _ _ hg HF.out
              have r1 : IntKind.i64.wrap ((↑(i + 1) : Int) - 1) = (i : Int) := by rw [IntKind.wrap_i64]; omega
              have b2 : (i : Int) < (PL : Int) := by omega
              have b3 : (0 : Int) < (↑(i + 1) : Int) := by omega
              clear hg g0 g1
              rcases ho with ho | ⟨rfl, ho⟩
              · have ho1 : decide (fsq < gsq) = false := decide_eq_false (by omega)
                have ho2 : (fsq == gsq) = false := by simp; omega
                go_upto_region 14 with fail
                refine wp_region_quiet_below (by assumption) (by kernel_rfl) ?_
                repeat (go_big_quiet_step (fail))
                refine wpQuiet_nil ?_
                intro w9 hw9
                obtain ⟨⟨nd, osq⟩, rfl⟩ := hw9
                have HB9 : Hid (Below w8.heap.size w8 (Go.Sort.grow (redrawn (wr.alloc (.cells #[.int .i64 fst, .int .i64 fsq] 56)) nd) osq)) := hb9.out.trans ((below_regrown _ nd osq).mono hb9.out.size)
                clear T0 T1 X1 Y0 G0 G1
                generalize Go.Sort.grow (redrawn (wr.alloc (.cells #[.int .i64 fst, .int .i64 fsq] 56)) nd) osq = w9 at HB9 ⊢
                go_wp2_with fail
                go_roundw
                case rel => exact ⟨i + 1 + 1, by omega, by go_num, HB9.out⟩
                case measure => simp [intOf]; omega
              · have ho1 : decide (gsq < gsq) = false := decide_eq_false (by omega)
                have ho2 : decide (fst ≤ gst) = false := decide_eq_false (by omega)
                go_upto_region 14 with fail
                refine wp_region_quiet_below (by assumption) (by kernel_rfl) ?_
                repeat (go_big_quiet_step (fail))
                refine wpQuiet_nil ?_
                intro w9 hw9
                obtain ⟨⟨nd, osq⟩, rfl⟩ := hw9
                have HB9 : Hid (Below w8.heap.size w8 (Go.Sort.grow (redrawn (wr.alloc (.cells #[.int .i64 fst, .int .i64 gsq] 56)) nd) osq)) := hb9.out.trans ((below_regrown _ nd osq).mono hb9.out.size)
                clear T0 T1 X1 Y0 G0 G1
                generalize Go.Sort.grow (redrawn (wr.alloc (.cells #[.int .i64 fst, .int .i64 gsq] 56)) nd) osq = w9 at HB9 ⊢
                go_wp2_with fail
                go_roundw
                case rel => exact ⟨i + 1 + 1, by omega, by go_num, HB9.out⟩
                case measure => simp [intOf]; omega
          · have hjp : j = PL := by omega
            subst hjp
            have HYr := Lib.hid (box_below HY8.out hb.out)
            obtain ⟨y0, y1, y2, y3⟩ := box4w_cells HYr.out
            have hyl := box_lt HYr.out
            go_upto_region 18 with fail
            go_cut [] (fun wx => Hid (wx.heap[wr.heap.size]? = some (.cells #[.int .i64 mr, .int .i64 mm, .int .i64 xf, .int .i64 xc] 27 (0, 0)) ∧ Below wr.heap.size wr wx))
            case first =>
              have HYa := Lib.hid (box_alloc (o := .cells #[.int .i64 xr, .int .i64 xm, .int .i64 xf, .int .i64 xc] 27) HYr.out)
              obtain ⟨y0, y1, y2, y3⟩ := box4w_cells HYa.out
              go_region_held3 (fun w' => w'.cell? ⟨w.heap.size + 1, 0, none⟩ = some (.int .i64 xr) ∧ w'.cell? ⟨w.heap.size + 1, 1, none⟩ = some (.int .i64 xm))
                (go_keep) (fail)
              all_goals
                first | rw [HMR.out, HMM.out] | rw [HMR2.out, HMM2.out]
                go_wp2_with fail
                go_meet
                exact ⟨box_new wr (.cells #[.int .i64 mr, .int .i64 mm, .int .i64 xf, .int .i64 xc] 27), Below.drew ((Below.refl _ _).alloc (Nat.le_refl _) _)⟩
            case rest =>
              obtain ⟨hb9, hb9'⟩ := hcut.out
              rename World => w9
              have hb10 : Hid (Below w8.heap.size w8 w9) := hb.out.trans (hb9'.mono hb.out.size)
              have HM9 := Lib.hid hb9
              have HX9 := Lib.hid (box_below HX8.out hb10.out)
              have HY9 := Lib.hid (box_below HY8.out hb10.out)
              have HZ9 := Lib.hid (box_below HZ8.out hb10.out)
              have HB9 : Hid (Below w.heap.size w w9) := HB8.out.trans (hb10.out.mono HB8.out.size)
              clear hcut hb9 hb9' y0 y1 y2 y3
              obtain ⟨x0, x1, x2, -, -, -⟩ := box3_cells HX9.out
              obtain ⟨y0, y1, y2, y3⟩ := box4w_cells HY9.out
              obtain ⟨z0, z1, z2, -, -, -⟩ := box3_cells HZ9.out
              obtain ⟨m0, m1, m2, m3⟩ := box4w_cells HM9.out
              have hjm := HMO.out
              have hjq := HPQ.out
              have hjn : j ≤ QL := by omega
              go_wp2_with (first
                | (go_at_call 15; go_fit (HQC.out g gh b _ (HNT.out.below HB9.out) (HG8.out.below hb10.out) (HGS8.out.below hb10.out) (HGM8.out.below hb10.out)); rintro e w11 ⟨ua, uc, rfl, hu, hb11⟩; have HU11 := Lib.hid hu; have hsl := pts_upto hu hjn; have HX11 := Lib.hid (box_below HX9.out hb11); have HY11 := Lib.hid (box_below HY9.out hb11); obtain ⟨x0, x1, x2, -, -, -⟩ := box3_cells HX11.out; obtain ⟨y0, y1, y2, y3⟩ := box4w_cells HY11.out; have HB11 := Lib.hid (HB9.out.trans (hb11.mono HB9.out.size)); have HV11 := Lib.hid ((HV8.out.below hb10.out).below hb11); clear hu hb11)
                | (go_at_call 12; go_fit (psame_true ua j uc PT va vc _ (by have := HU11.out.upto hjn; rw [HPRE.out.1] at this; exact this) HV11.out); rintro e w12 ⟨rfl, hb12⟩; have HB12 := Lib.hid (HB11.out.trans (hb12.mono HB11.out.size)); clear hb12))
              go_ret
              exact ⟨rfl, HB12.out⟩
end Go.Proofs.Ytknbpnkonhniiaa.Ne

namespace Go.Proofs.Ytknbpnkonhniiaa.Ne
open Go.RowKit Go.V Go.Proofs Go.ChangeShapes Go.WideShapes Go.ChangeAt

theorem list4w {α : Type} {l : List α} (h : l.length = 4) : ∃ a b c d, l = [a, b, c, d] := by
  match l, h with
  | [a, b, c, d], _ => exact ⟨a, b, c, d, rfl⟩
set_option maxRecDepth 100000 in
theorem open_wgh {H : Type} {enc : TypeId × Value → H} {w : World} {b0 base : Nat} {spare : Nat → Bool} {held : Bool} {v : Value} {d : DataW H} {ps : List MemPlace} (hval : Value.okWide Try.prog w .any base 27 v) (h : DataW.Trod enc Try.prog w b0 spare held 27 v d ps) : ∃ x : Wgh, v = x.val := by
  simp only [Value.okWide, Try.underlying27] at hval
  obtain ⟨cs, rfl, hsz, -⟩ := hval
  obtain ⟨fuel, hf⟩ := h
  obtain ⟨xs, m, -, -, hl, hxl, hx⟩ := DataW.trod_struct Try.underlying27 hf
  have hc4 : Try.prog.cellsOf 27 = 4 := by kernel_rfl
  have hc1 : Try.prog.cellsOf 3 = 1 := by kernel_rfl
  obtain ⟨l⟩ := cs
  rw [hc4] at hsz
  obtain ⟨v0, v1, v2, v3, rfl⟩ := list4w (l := l) (by simpa using hsz)
  have hx4 : xs.length = 4 := by rw [hxl]; rfl
  obtain ⟨y0, y1, y2, y3, rfl⟩ := list4w hx4
  have g0 := hx 0 _ rfl
  have g1 := hx 1 _ rfl
  have g2 := hx 2 _ rfl
  have g3 := hx 3 _ rfl
  simp [Value.cells, hc1] at g0 g1 g2 g3
  obtain ⟨n0, e0, -, -⟩ := DataW.trod_int Try.underlying3 g0
  obtain ⟨n1, e1, -, -⟩ := DataW.trod_int Try.underlying3 g1
  obtain ⟨n2, e2, -, -⟩ := DataW.trod_int Try.underlying3 g2
  obtain ⟨n3, e3, -, -⟩ := DataW.trod_int Try.underlying3 g3
  simp at e0 e1 e2 e3
  subst e0; subst e1; subst e2; subst e3
  exact ⟨⟨n0, n1, n2, n3⟩, rfl⟩
set_option maxRecDepth 100000 in
theorem smp_opened {H : Type} {enc : TypeId × Value → H} {w : World} {b0 : Nat} {spare : Nat → Bool} {held : Bool} (n : Nat) (cs : List Value) (y : DataW H × List MemPlace) (h : DataW.trod enc Try.prog w b0 spare held n 42 cs = some y) : ∃ x, cs = Smp.cod.enc x ∧ Smp.ok x := by
  obtain ⟨xs, m, -, rfl, hl, hlen, hf⟩ := DataW.trod_struct Try.underlying42 h
  have hc : Try.prog.cellsOf 3 = 1 := by kernel_rfl
  have hl' : cs.length = 3 := by rw [hl]; kernel_rfl
  obtain ⟨v0, v1, v2, rfl⟩ := list3 hl'
  have hx3 : xs.length = 3 := by rw [hlen]; rfl
  obtain ⟨y0, y1, y2, rfl⟩ := list3 hx3
  have k0 := hf 0 _ rfl
  have k1 := hf 1 _ rfl
  have k2 := hf 2 _ rfl
  simp [hc] at k0 k1 k2
  obtain ⟨n0, e0, -, w0⟩ := DataW.trod_int Try.underlying3 k0
  obtain ⟨n1, e1, -, w1⟩ := DataW.trod_int Try.underlying3 k1
  obtain ⟨n2, e2, -, w2⟩ := DataW.trod_int Try.underlying3 k2
  simp at e0 e1 e2
  subst e0; subst e1; subst e2
  exact ⟨⟨n0, n1, n2⟩, rfl, w0, w1, w2⟩
set_option maxRecDepth 100000 in
theorem open_smp {H : Type} {enc : TypeId × Value → H} {w : World} {b0 base : Nat} {spare : Nat → Bool} {held : Bool} {v : Value} {d : DataW H} {ps : List MemPlace} (hval : Value.okWide Try.prog w .any base 42 v) (h : DataW.Trod enc Try.prog w b0 spare held 42 v d ps) : ∃ s : Smp, v = s.val := by
  simp only [Value.okWide, Try.underlying42] at hval
  obtain ⟨cs, rfl, hsz, -⟩ := hval
  obtain ⟨fuel, hf⟩ := h
  obtain ⟨s, e, -⟩ := smp_opened _ _ _ hf
  obtain ⟨l⟩ := cs
  have e : l = Smp.cod.enc s := by simpa [Value.cells] using e
  exact ⟨s, by rw [e]; rfl⟩
end Go.Proofs.Ytknbpnkonhniiaa.Ne

namespace Go.Proofs.Ytknbpnkonhniiaa.lawCandFits
open Go.ChangeShapes Go.WideShapes Go.ChangeAt Go.RowKit Go.V Go.Proofs.Ytknbpnkonhniiaa.Ne

theorem own : ownKnob Try.prog.godebug = none := by kernel_rfl
theorem laidOut : laidOutB Try.prog = true := by kernel_rfl

set_option maxRecDepth 100000 in
theorem lifted (os : Os) (started : os.Started) (H : Type) (enc : TypeId × Value → H) :
    ReturnsInHanded {} Try.checked os 5 .any (Rows.candFitsSpec.pre6 enc Try.prog Try.f5 Rows.candFitsRow.domain false) (Rows.candFitsSpec.post enc Try.prog Try.f5 false true false false) := by
  refine returnsInHanded_of_change (C := Try.checked) own started (by kernel_rfl) Try.func5
    (ChangeSpec.witness6 (enc := enc) (C := Try.checked) false ⟨#[], #[.agg #[.int .i64 0, .slice none 0 0, .slice none 0 0], .agg #[.int .i64 0, .int .i64 0, .int .i64 0, .int .i64 0], .agg #[.int .i64 0, .int .i64 0, .int .i64 0]], []⟩ 8 (by kernel_rfl) (by kernel_rfl) (by kernel_rfl) (by kernel_rfl)) ?_
  intro W base args ds gs before hval0 hW hcnd _
  have hval : ∀ (j : Nat) t v, Try.f5.params[j]? = some t → args[j]? = some v → Value.okWide Try.prog W .any base t v := hval0
  have hW' := hW
  obtain ⟨p, q, hA0, hV, rfl, hfz, hnd⟩ := hW
  have hA : DataW.TrodAll enc Try.prog W 0 (fun _ => true) true Try.f5.params.toList args.toList ds p := hA0
  rw [Try.params5] at hA hval
  obtain ⟨v0, vs0, d0, ds0, p0, q0, hargs, rfl, rfl, h0, r0⟩ := trodAll_cons hA
  obtain ⟨v1, vs1, d1, ds1, p1, q1, rfl, rfl, rfl, h1, r1⟩ := trodAll_cons r0
  obtain ⟨v2, vs2, d2, ds2, p2, q2, rfl, rfl, rfl, h2, r2⟩ := trodAll_cons r1
  obtain ⟨rfl, rfl, rfl⟩ := trodAll_nil r2
  obtain rfl : args = #[v0, v1, v2] := by cases args; simp_all
  obtain ⟨rfl, rfl⟩ := trodVars_none hV
  have k0 := h0
  have lt0 : ∀ x ∈ p0, x.block < W.heap.size := by obtain ⟨m, hm⟩ := k0; exact DataW.trod_lt m _ _ _ hm
  have k1 := h1
  have lt1 : ∀ x ∈ p1, x.block < W.heap.size := by obtain ⟨m, hm⟩ := k1; exact DataW.trod_lt m _ _ _ hm
  have k2 := h2
  have lt2 : ∀ x ∈ p2, x.block < W.heap.size := by obtain ⟨m, hm⟩ := k2; exact DataW.trod_lt m _ _ _ hm
  obtain ⟨nt, hs, hl, rfl, hnt, -, -, -⟩ := open_net (hval 0 25 v0 rfl rfl) h0
  obtain ⟨wx, rfl⟩ := open_wgh (hval 1 27 v1 rfl rfl) h1
  obtain ⟨sm2, rfl⟩ := open_smp (hval 2 42 v2 rfl rfl) h2
  clear hA0 hval0
  refine (cfits21_any nt hs hl wx sm2 W hnt).mono fun e W' ⟨he, bel⟩ => ?_
  subst he
  exact ⟨_, rfl, _, _, _, [], _, [], hW', trodAll_mk1 (shut_bool Try.underlying4 _), (trodAll_cons_mk (Below.trod laidOut (by kernel_rfl) (of_decide_eq_true (by kernel_rfl)) k0 bel lt0) (trodAll_cons_mk (Below.trod laidOut (by kernel_rfl) (of_decide_eq_true (by kernel_rfl)) k1 bel lt1) (trodAll_cons_mk (Below.trod laidOut (by kernel_rfl) (of_decide_eq_true (by kernel_rfl)) k2 bel lt2) trodAll_mk0))), rfl, bel.frame _, fun h => by cases h⟩

theorem over : Rows.candFitsRow.holds Try.pinned (OpenSpec.ofChange Rows.candFitsSpec) :=
  OpenClaim.holds_of_wide 5 Try.f5 rfl rfl rfl rfl rfl rfl rfl ⟨rfl, rfl, rfl, rfl, rfl⟩ rfl rfl rfl rfl rfl (by kernel_rfl) Try.func5 (by kernel_rfl)
    (of_decide_eq_true (by kernel_rfl)) (by unfold Func.isWrapper; first | (rw [if_pos (by decide +kernel)]; kernel_rfl) | (rw [if_neg (by decide +kernel)]; exact ⟨rfl, rfl⟩))
    (fun os started H enc _ => lifted os started H enc)

theorem proved : Rows.CandFitsSaid := over
#print axioms proved
end Go.Proofs.Ytknbpnkonhniiaa.lawCandFits
