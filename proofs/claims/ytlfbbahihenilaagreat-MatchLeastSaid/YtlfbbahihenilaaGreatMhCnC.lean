/- Candidates: a sample's points: walked. -/
import Derived.Test.YtlfbbahihenilaaGreatMg11
namespace Go.Proofs.YtlfbbahihenilaaGreat.Ne
open Go.RowKit Go.V Go.Shelf Go.Proofs

attribute [local go_sem] Oper.semAt_some

theorem setCell_grown (w : World) (g : Nat) (v0 : Value) : w.grownBy (w.setCell ⟨g, 0, none⟩ v0) (some g) :=
  ⟨rfl, rfl, rfl, by simp, fun k _ hk => by rw [heap_setCell_other _ ⟨g, 0, none⟩ k v0 (fun e => hk (by simp [e]))]⟩
theorem wpListIn_app {α : Type} {c : Cod α} {e t : TypeId} {base : Nat} {w : World} {F : Fence} {n : Nat} {P : Program} {bytes : Nat} (E : Elt P t e c bytes) {ops : Array Oper} {rest : List Oper} {o : Oper} {a : Act} {Q : Exit → Act → World → Prop} (hgd : o.guard = none) (s x : Operand)
    (ho : o.op = .call { callee := .builtin .append, args := #[s, x], argTypes := #[t, t] }) (v : Value) (xs : List α) (hs : a.eval s = v) (hown : V.Own e c base w v xs)
    (d : Addr) (m cx : Nat) (ys : List α) (hx : a.eval x = .slice (some d) m cx) (hsl : Sl c w (some d) m cx ys) (hm : xs.length + m ≤ maxLen) (hb : (xs.length + m) * bytes ≤ 140737488355328) (hbase : base ≤ w.heap.size)
    (h : ∀ v' w', V.Own e c base w' v' (xs ++ ys) → w.grownBy w' v.ownBlock → wpListIn F n P ops Q rest (a.put o.dst v') w') : wpListIn F n P ops Q (o :: rest) a w := by
  obtain ⟨i, z, h1, h2, h3, h4, h5⟩ := E.row
  refine wpListIn_append_own _ hgd s x t ho base e i z c.k bytes E.ht h1 h2 h3 h4 h5 E.pos v xs.length _ hs hown d m cx (ys.flatMap c.enc) hx (by rw [flat_len, hsl.hlen]) ?_ ?_ hm hb hbase ?_
  · exact hsl.src
  · exact fun u hu => by obtain ⟨y, -, hy⟩ := List.mem_flatMap.1 hu; exact c.one y u hy
  · intro v' w' k1 k2 k3
    refine h v' w' ?_ k2
    unfold V.Own
    rw [List.length_append, List.flatMap_append, ← hsl.hlen]; exact k1
/-- Between two rounds. -/
structure PtJ (w W1 : World) (Ba l D : Nat) (o : Obj) (pre : List Fnd) (W : World) : Prop where
  out : ∃ v, W.heap[Ba]? = some (.cells #[v] 110 (0, 0)) ∧ V.Own 141 Fnd.cod W1.heap.size W v pre
  rcd : W.heap[l]? = some o
  def_ : W.heap[D]? = some (.deferred (some []))
  bel : Below w.heap.size w W
  sz : W1.heap.size ≤ W.heap.size
  kp : ∀ k, k < W1.heap.size → k ≠ Ba → k ≠ l → W.heap[k]? = W1.heap[k]?
theorem PtJ.below {w W1 W W' : World} {Ba l D : Nat} {o : Obj} {pre : List Fnd} (h : PtJ w W1 Ba l D o pre W) (hb : Below W.heap.size W W') : PtJ w W1 Ba l D o pre W' := by
  obtain ⟨v, h1, h2⟩ := h.out
  exact ⟨⟨v, box_below h1 hb, h2.below hb⟩, box_below h.rcd hb, box_below h.def_ hb, h.bel.trans (hb.mono h.bel.size), Nat.le_trans h.sz hb.size, fun k hk h3 h4 => (hb.block k (Nat.lt_of_lt_of_le hk h.sz)).trans (h.kp k hk h3 h4)⟩
set_option maxHeartbeats 8000000 in
set_option maxRecDepth 100000 in
theorem cpoints_ok (g : Nat) (gh : Hdr) (z : Int) (b : Nat) (n : Net) (hs hl : Hdr) (x : Wgh) (s : Smp) (w : World)
    (hn : n.stops.length ≤ 200) (hz : 1 ≤ z ∧ z ≤ 67108864) (hSB : ∀ s ∈ n.stops, stpB s = true) (hx : mayW x = true) (hsm : smpB s = true) (hr : 0 ≤ x.reach ∧ x.reach ≤ 1048576 ∧ 0 ≤ x.most)
    (hnet : NetIn w n hs hl) (hg : GBox w g gh z b) (hgs : Sl Stp.cod w gh.a gh.n gh.cap n.stops) (hgm : GMap w b (idxs n.stops z)) :
    Calls Tryz.prog 52 #[gP g, n.val hs hl, x.val, s.val] w fun e w' => ∃ v, e = .returned (.tuple #[v, .int .i64 0]) ∧ V.Own 141 Fnd.cod w.heap.size w' v (ptsE n.stops s x.reach x.most.toNat) ∧ Below w.heap.size w w' := by
  obtain ⟨xr, xm, xf, xc⟩ := x
  have hnb : nearB s.x s.y xr xm = true := by
    unfold nearB
    rw [smp_may hsm, Bool.true_and]
    exact decide_eq_true hr
  have HX0 : Hid ((((w.alloc (n.box hs hl)).alloc (Wgh.mk xr xm xf xc).box).alloc (.cells #[.int .i64 s.t, .int .i64 s.x, .int .i64 s.y] 73)).heap[w.heap.size]? = some (n.box hs hl)) := box_alloc (box_alloc (box_new w _))
  have HY0 : Hid ((((w.alloc (n.box hs hl)).alloc (Wgh.mk xr xm xf xc).box).alloc (.cells #[.int .i64 s.t, .int .i64 s.x, .int .i64 s.y] 73)).heap[w.heap.size + 1]? = some (Wgh.mk xr xm xf xc).box) := by
    have := box_new (w.alloc (n.box hs hl)) (Wgh.mk xr xm xf xc).box
    rw [World.size_alloc] at this
    exact box_alloc this
  have HZ0 : Hid ((((w.alloc (n.box hs hl)).alloc (Wgh.mk xr xm xf xc).box).alloc (.cells #[.int .i64 s.t, .int .i64 s.x, .int .i64 s.y] 73)).heap[w.heap.size + 2]? = some (.cells #[.int .i64 s.t, .int .i64 s.x, .int .i64 s.y] 73 (0, 0))) := by
    have := box_new ((w.alloc (n.box hs hl)).alloc (Wgh.mk xr xm xf xc).box) (.cells #[.int .i64 s.t, .int .i64 s.x, .int .i64 s.y] 73)
    rw [World.size_alloc, World.size_alloc] at this
    exact this
  have HB0 : Hid (Below w.heap.size w (((w.alloc (n.box hs hl)).alloc (Wgh.mk xr xm xf xc).box).alloc (.cells #[.int .i64 s.t, .int .i64 s.x, .int .i64 s.y] 73))) := (((Below.refl _ _).alloc (Nat.le_refl _) _).alloc (by simp) _).alloc (by simp; omega) _
  have hs0 : (((w.alloc (n.box hs hl)).alloc (Wgh.mk xr xm xf xc).box).alloc (.cells #[.int .i64 s.t, .int .i64 s.x, .int .i64 s.y] 73)).heap.size = w.heap.size + 3 := by simp
  have hgn : gh.n = hs.n := by rw [hgs.hlen, hnet.s.hlen]
  have mixed : Tryz.prog.follows .mixedOrders = true := by kernel_rfl
  have HG := Lib.hid hg
  have HGS := Lib.hid hgs
  have HGM := Lib.hid hgm
  have HNT := Lib.hid hnet
  have HGN := Lib.hid hgn
  have HNB := Lib.hid hnb
  have HSM := Lib.hid hsm
  have HMW := Lib.hid hx
  clear hg hgs hgm hnet hgn hnb hr hx hsm
  refine (callsIn_wide (n := 8)).1 ?_
  refine callsIn_of_wp_marks Tryz.func52 rfl trivial ?_ rfl
  simp only [Tryz.ntmps52, List.size_toArray, List.length_cons, List.length_nil, Nat.reduceAdd, Nat.reduceSub, Array.replicate_succ, Array.replicate_zero, List.push_toArray, List.append_toArray, List.nil_append, List.cons_append]
  rw [wpIn_wide]
  go_upto_region 1 with fail
  obtain ⟨W0, hW0⟩ : ∃ W0, ((w.alloc (n.box hs hl)).alloc (Wgh.mk xr xm xf xc).box).alloc (.cells #[.int .i64 s.t, .int .i64 s.x, .int .i64 s.y] 73) = W0 := ⟨_, rfl⟩
  rw [hW0] at HX0 HY0 HZ0 HB0 hs0 ⊢
  clear hW0
  have x1 : W0.cell? ⟨w.heap.size, 1, none⟩ = some (.slice hs.a hs.n hs.cap) := (box_cell HX0.out 1).1
  have y0 : W0.cell? ⟨w.heap.size + 1, 0, none⟩ = some (.int .i64 xr) := (box_cell HY0.out 0).1
  have y1 : W0.cell? ⟨w.heap.size + 1, 1, none⟩ = some (.int .i64 xm) := (box_cell HY0.out 1).1
  have y2 : W0.cell? ⟨w.heap.size + 1, 2, none⟩ = some (.int .i64 xf) := (box_cell HY0.out 2).1
  have y3 : W0.cell? ⟨w.heap.size + 1, 3, none⟩ = some (.int .i64 xc) := (box_cell HY0.out 3).1
  have z0 : W0.cell? ⟨w.heap.size + 1 + 1, 0, none⟩ = some (.int .i64 s.t) := (box_cell HZ0.out 0).1
  have z1 : W0.cell? ⟨w.heap.size + 1 + 1, 1, none⟩ = some (.int .i64 s.x) := (box_cell HZ0.out 1).1
  have z2 : W0.cell? ⟨w.heap.size + 1 + 1, 2, none⟩ = some (.int .i64 s.y) := (box_cell HZ0.out 2).1
  have X1 := cell_regrown x1
  have Y0 := cell_regrown y0
  have Y1 := cell_regrown y1
  have Y2 := cell_regrown y2
  have Y3 := cell_regrown y3
  have Z0 := cell_regrown z0
  have Z1 := cell_regrown z1
  have Z2 := cell_regrown z2
  have hG0 := HG.out.below HB0.out
  have q1 : ∀ nd osq, Calls Tryz.prog 29 #[(Wgh.mk xr xm xf xc).val] (Go.Sort.grow (redrawn W0 nd) osq) fun e w' => e = .returned (.bool true) ∧ Below (Go.Sort.grow (redrawn W0 nd) osq).heap.size (Go.Sort.grow (redrawn W0 nd) osq) w' := fun nd osq => (cmay_any ⟨xr, xm, xf, xc⟩ _).mono fun e w' ⟨k1, k2⟩ => ⟨by rw [k1, HMW.out], k2⟩
  have q2 : ∀ nd osq, Calls Tryz.prog 50 #[s.val] (Go.Sort.grow (redrawn W0 nd) osq) fun e w' => e = .returned (.bool true) ∧ Below (Go.Sort.grow (redrawn W0 nd) osq).heap.size (Go.Sort.grow (redrawn W0 nd) osq) w' := fun nd osq => (smay_any s _).mono fun e w' ⟨k1, k2⟩ => ⟨by rw [k1, HSM.out], k2⟩
  have q3 : ∀ nd osq, Calls Tryz.prog 83 #[gP g] (Go.Sort.grow (redrawn W0 nd) osq) fun e w' => e = .returned (.int .i64 hs.n) ∧ Below (Go.Sort.grow (redrawn W0 nd) osq).heap.size (Go.Sort.grow (redrawn W0 nd) osq) w' := fun nd osq => (grlen_any g gh z b _ (hG0.below (below_regrown W0 nd osq))).mono fun e w' ⟨k1, k2⟩ => ⟨by rw [k1, HGN.out], k2 ▸ Below.refl _ _⟩
  clear x1 y0 y1 y2 y3 z0 z1 z2 hG0
  refine wp_region_quiet_below (by assumption) (by kernel_rfl) ?_
  repeat (go_big_quiet_step (first
    | (go_at_call 29; exact Calls.regrown_of (q1 _ _))
    | (go_at_call 50; exact Calls.regrown_of (q2 _ _))
    | (go_at_call 83; exact Calls.regrown_of (q3 _ _))))
  refine wpQuiet_nil ?_
  intro w9 hw9
  obtain ⟨⟨nd, osq⟩, rfl⟩ := hw9
  have hb9 := below_regrown W0 nd osq
  have HB9 : Hid (Below w.heap.size w (Go.Sort.grow (redrawn W0 nd) osq)) := HB0.out.trans (hb9.mono HB0.out.size)
  have HX9 := Lib.hid (box_below HX0.out hb9)
  have HY9 := Lib.hid (box_below HY0.out hb9)
  have HZ9 := Lib.hid (box_below HZ0.out hb9)
  have hs9 : w.heap.size + 3 ≤ (Go.Sort.grow (redrawn W0 nd) osq).heap.size := by have := hb9.size; omega
  clear X1 Y0 Y1 Y2 Y3 Z0 Z1 Z2 q1 q2 q3
  generalize Go.Sort.grow (redrawn W0 nd) osq = w9 at HB9 HX9 HY9 HZ9 hs9 ⊢
  clear hb9
  have y0 : w9.cell? ⟨w.heap.size + 1, 0, none⟩ = some (.int .i64 xr) := (box_cell HY9.out 0).1
  have y1 : w9.cell? ⟨w.heap.size + 1, 1, none⟩ = some (.int .i64 xm) := (box_cell HY9.out 1).1
  have z1 : w9.cell? ⟨w.heap.size + 1 + 1, 1, none⟩ = some (.int .i64 s.x) := (box_cell HZ9.out 1).1
  have z2 : w9.cell? ⟨w.heap.size + 1 + 1, 2, none⟩ = some (.int .i64 s.y) := (box_cell HZ9.out 2).1
  have hnums := pts_nums n.stops s xr xm.toNat
  have hin : ∀ i ∈ nearL s.pt n.stops (xr * xr) xm.toNat, ∃ j : Nat, i = (j : Int) ∧ j < n.stops.length := by
    intro i hi
    obtain ⟨f, hf, rfl⟩ := List.mem_map.1 hi
    obtain ⟨k, hk, rfl, -⟩ := ((near_good s.pt n.stops (xr * xr)).2 f).1 (List.mem_of_mem_take hf)
    exact ⟨k, rfl, hk⟩
  have hll : (nearL s.pt n.stops (xr * xr) xm.toNat).length ≤ 200 := Nat.le_trans (by unfold nearL; rw [List.length_map, List.length_take]; have := near_len s.pt n.stops (xr * xr); omega) hn
  have hnear := grnear_any g gh z b n.stops s.pt xr xm w9 hn hz HNB.out hSB (HG.out.below HB9.out) (HGS.out.below HB9.out) (HGM.out.below HB9.out)
  obtain ⟨L, hL⟩ : ∃ L, nearL s.pt n.stops (xr * xr) xm.toNat = L := ⟨_, rfl⟩
  rw [hL] at hnums hin hll hnear
  have HNU := Lib.hid hnums
  have HIN := Lib.hid hin
  have HLL := Lib.hid hll
  have HNE := Lib.hid hnear
  clear hnums hin hll hnear hL
  go_upto_block 0 with (first
    | (go_at_call 84; refine HNE.out.mono ?_; rintro e w10 ⟨v, rfl, ho, hb⟩; obtain ⟨la, lc, rfl, hsl, -⟩ := ho.slice; have HLS := Lib.hid hsl; have HB10 := Lib.hid (HB9.out.trans (hb.mono HB9.out.size)); have hs10 := hb.size; have HX10 := Lib.hid (box_below HX9.out hb); have HZ10 := Lib.hid (box_below HZ9.out hb); have x1 : w10.cell? ⟨w.heap.size, 1, none⟩ = some (.slice hs.a hs.n hs.cap) := (box_cell HX10.out 1).1; have z0 : w10.cell? ⟨w.heap.size + 1 + 1, 0, none⟩ = some (.int .i64 s.t) := (box_cell HZ10.out 0).1; have z1 : w10.cell? ⟨w.heap.size + 1 + 1, 1, none⟩ = some (.int .i64 s.x) := (box_cell HZ10.out 1).1; have z2 : w10.cell? ⟨w.heap.size + 1 + 1, 2, none⟩ = some (.int .i64 s.y) := (box_cell HZ10.out 2).1; have hlx : w.heap.size < w10.heap.size := (by omega); have hlz : w.heap.size + 1 + 1 < w10.heap.size := (by omega); clear ho hsl hb)
    | (go_at_call 85; go_fit (points_any la L.length lc hs.a hs.n hs.cap s _); rintro e w11 ⟨rfl, rfl⟩))
  have A2 : Hid (((((w10.alloc (.cells #[.slice none 0 0] 110)).alloc (.cells #[.slice hs.a hs.n hs.cap] 22)).alloc (.cells #[.slice la L.length lc] 35)).alloc (.cells #[.int .i64 s.t, .int .i64 s.x, .int .i64 s.y] 73)).heap[w10.heap.size]? = some (.cells #[.slice none 0 0] 110 (0, 0))) := box_alloc (box_alloc (box_alloc (box_new w10 _)))
  have N2 : Hid (((((w10.alloc (.cells #[.slice none 0 0] 110)).alloc (.cells #[.slice hs.a hs.n hs.cap] 22)).alloc (.cells #[.slice la L.length lc] 35)).alloc (.cells #[.int .i64 s.t, .int .i64 s.x, .int .i64 s.y] 73)).heap[w10.heap.size + 1]? = some (.cells #[.slice hs.a hs.n hs.cap] 22 (0, 0))) := by
    have := box_new (w10.alloc (.cells #[.slice none 0 0] 110)) (.cells #[.slice hs.a hs.n hs.cap] 22)
    rw [World.size_alloc] at this
    exact box_alloc (box_alloc this)
  have L2 : Hid (((((w10.alloc (.cells #[.slice none 0 0] 110)).alloc (.cells #[.slice hs.a hs.n hs.cap] 22)).alloc (.cells #[.slice la L.length lc] 35)).alloc (.cells #[.int .i64 s.t, .int .i64 s.x, .int .i64 s.y] 73)).heap[w10.heap.size + 1 + 1]? = some (.cells #[.slice la L.length lc] 35 (0, 0))) := by
    have := box_new ((w10.alloc (.cells #[.slice none 0 0] 110)).alloc (.cells #[.slice hs.a hs.n hs.cap] 22)) (.cells #[.slice la L.length lc] 35)
    rw [World.size_alloc, World.size_alloc] at this
    exact box_alloc this
  have S2 : Hid (((((w10.alloc (.cells #[.slice none 0 0] 110)).alloc (.cells #[.slice hs.a hs.n hs.cap] 22)).alloc (.cells #[.slice la L.length lc] 35)).alloc (.cells #[.int .i64 s.t, .int .i64 s.x, .int .i64 s.y] 73)).heap[w10.heap.size + 1 + 2]? = some (.cells #[.int .i64 s.t, .int .i64 s.x, .int .i64 s.y] 73 (0, 0))) := by
    have := box_new (((w10.alloc (.cells #[.slice none 0 0] 110)).alloc (.cells #[.slice hs.a hs.n hs.cap] 22)).alloc (.cells #[.slice la L.length lc] 35)) (.cells #[.int .i64 s.t, .int .i64 s.x, .int .i64 s.y] 73)
    rw [World.size_alloc, World.size_alloc, World.size_alloc] at this
    exact this
  have B2 : Hid (Below w10.heap.size w10 ((((w10.alloc (.cells #[.slice none 0 0] 110)).alloc (.cells #[.slice hs.a hs.n hs.cap] 22)).alloc (.cells #[.slice la L.length lc] 35)).alloc (.cells #[.int .i64 s.t, .int .i64 s.x, .int .i64 s.y] 73))) := ((((Below.refl _ _).alloc (Nat.le_refl _) _).alloc (by simp) _).alloc (by simp; omega) _).alloc (by simp; omega) _
  have hz2 : ((((w10.alloc (.cells #[.slice none 0 0] 110)).alloc (.cells #[.slice hs.a hs.n hs.cap] 22)).alloc (.cells #[.slice la L.length lc] 35)).alloc (.cells #[.int .i64 s.t, .int .i64 s.x, .int .i64 s.y] 73)).heap.size = w10.heap.size + 4 := by simp
  obtain ⟨w2, hw2⟩ : ∃ w2, ((((w10.alloc (.cells #[.slice none 0 0] 110)).alloc (.cells #[.slice hs.a hs.n hs.cap] 22)).alloc (.cells #[.slice la L.length lc] 35)).alloc (.cells #[.int .i64 s.t, .int .i64 s.x, .int .i64 s.y] 73)) = w2 := ⟨_, rfl⟩
  rw [hw2] at A2 N2 L2 S2 B2 hz2 ⊢
  have HZ2 := Lib.hid hz2
  clear hw2 hz2 y0 y1 z1 z2 x1 z0
  rw [← wpIn_wide (n := 8)]
  gi_wp2
  refine range_named (by omega) rfl (enters_of Tryz.func108 (by kernel_rfl) rfl) ?_
  obtain ⟨Bo, hBo⟩ : ∃ Bo, w10.heap.size = Bo := ⟨_, rfl⟩
  rw [hBo] at A2 N2 L2 S2 HZ2
  have hwb : w.heap.size ≤ Bo := by omega
  intro fn L0 W1 hL hl1 hd1 hb1 hsz
  have HL := Lib.hid hL
  have HSZ := Lib.hid hsz
  have hz : Bo + 4 ≤ w2.heap.size := by have := HZ2.out; omega
  have hz' : w2.heap.size ≤ Bo + 4 := by have := HZ2.out; omega
  have hll : w2.heap.size + 1 < W1.heap.size := by omega
  have HB1 : Hid (Below w10.heap.size w10 W1) := B2.out.trans (hb1.mono (by omega))
  have HBW1 : Hid (Below w.heap.size w W1) := HB10.out.trans (HB1.out.mono (by omega))
  clear hL hsz
  rw [hBo]
  refine (pts1_in 7 (w2.heap.size + 1) (Bo + 1 + 1) (Bo + 1) (Bo + 1 + 2) Bo la L.length lc L hs.a hs.n hs.cap n.stops s (PtJ w W1 Bo (w2.heap.size + 1) w2.heap.size (L0 .ready none)) W1 (by omega) (by have := HLL.out; omega) HIN.out ((hb1.block _ (by omega)).trans L2.out) ((hb1.block _ (by omega)).trans N2.out) ((hb1.block _ (by omega)).trans S2.out) ⟨by omega, by omega, by omega, by omega, by omega, by omega⟩ (HLS.out.below HB1.out) (HNT.out.s.below HBW1.out) ?la ?sa (fun pre W j => ⟨j.sz, j.kp⟩) (fun pre W W' j hb => j.below hb) ?yields ?start).mono ?_
  case la =>
    intro d hd h0
    have := (HLS.out.hat d hd h0).2.1
    omega
  case sa =>
    intro d hd h0
    have := (HNT.out.s.hat d hd h0).2.1
    omega
  case start => exact ⟨⟨_, (hb1.block _ (by omega)).trans A2.out, Own.nil⟩, hl1, hd1, HBW1.out, Nat.le_refl _, fun _ _ _ _ => rfl⟩
  case yields =>
    rintro pre ⟨xa, xb⟩ rest W hsp ⟨⟨v, j1, j2⟩, j3, j4, j5, j6, j7⟩
    refine yield_named HL.out j3 rfl ?_
    have hlen : pre.length ≤ 1000000 := by
      have e1 := congrArg List.length hsp
      rw [List.length_append, List.length_cons, List.length_map] at e1
      have := HLL.out
      omega
    clear hsp
    obtain ⟨va, vc, hv, -⟩ := j2.slice
    dsimp only [encP]
    gi_wp2
    refine ⟨box_alloc j3, ?_⟩
    have hltW : w2.heap.size + 1 < W.heap.size := (Array.getElem?_eq_some_iff.1 j3).1
    have hgb := grownBy_putObj' (W.alloc (.cells #[.int .i64 xa, .int .i64 xb] 141)) (w2.heap.size + 1) (L0 .busy none)
    have v1 : Hid (((W.alloc (.cells #[.int .i64 xa, .int .i64 xb] 141)).putObj (w2.heap.size + 1) (L0 .busy none)).heap[Bo]? = some (.cells #[v] 110 (0, 0))) := (World.putObj_heap_other (by omega)).trans (box_alloc j1)
    have v2 : Hid (V.Own 141 Fnd.cod W1.heap.size ((W.alloc (.cells #[.int .i64 xa, .int .i64 xb] 141)).putObj (w2.heap.size + 1) (L0 .busy none)) v pre) := (j2.alloc _).kept hgb (.inr fun q => by have := (World.ownsRow.lt j2 _ q).1; omega)
    have v3 : Hid (((W.alloc (.cells #[.int .i64 xa, .int .i64 xb] 141)).putObj (w2.heap.size + 1) (L0 .busy none)).heap[W.heap.size]? = some (.cells #[.int .i64 xa, .int .i64 xb] 141 (0, 0))) := (World.putObj_heap_other (by omega)).trans (box_new _ _)
    have v4 : Hid (((W.alloc (.cells #[.int .i64 xa, .int .i64 xb] 141)).putObj (w2.heap.size + 1) (L0 .busy none)).heap[w2.heap.size + 1]? = some (L0 .busy none)) := World.putObj_heap_same (by simp; omega)
    have v5 : Hid (((W.alloc (.cells #[.int .i64 xa, .int .i64 xb] 141)).putObj (w2.heap.size + 1) (L0 .busy none)).heap[w2.heap.size]? = some (.deferred (some []))) := (World.putObj_heap_other (by omega)).trans (box_alloc j4)
    have v6 : Hid (Below w.heap.size w ((W.alloc (.cells #[.int .i64 xa, .int .i64 xb] 141)).putObj (w2.heap.size + 1) (L0 .busy none))) := (j5.alloc j5.size _).grown hgb (by have := j5.size; simp; omega) (fun k hk => by cases hk; omega)
    have v7 : Hid (∀ k, k < W1.heap.size → k ≠ Bo → k ≠ w2.heap.size + 1 → ((W.alloc (.cells #[.int .i64 xa, .int .i64 xb] 141)).putObj (w2.heap.size + 1) (L0 .busy none)).heap[k]? = W1.heap[k]?) := fun k hk h2 h3 => (World.putObj_heap_other (fun e => h3 e)).trans ((Below.heap_alloc W _ k (by omega)).trans (j7 k hk h2 h3))
    have v8 : Hid (((W.alloc (.cells #[.int .i64 xa, .int .i64 xb] 141)).putObj (w2.heap.size + 1) (L0 .busy none)).heap.size = W.heap.size + 1) := by show _ = _; simp
    obtain ⟨V, hV⟩ : ∃ V, (W.alloc (.cells #[.int .i64 xa, .int .i64 xb] 141)).putObj (w2.heap.size + 1) (L0 .busy none) = V := ⟨_, rfl⟩
    rw [hV] at v1 v2 v3 v4 v5 v6 v7 v8 ⊢
    clear hV hgb
    have v9 : W1.heap.size ≤ V.heap.size := by have := v8.out; omega
    subst hv
    have q1 : V.cell? ⟨Bo, 0, none⟩ = some (.slice va pre.length vc) := (box_cell v1.out 0).1
    have q1f : V.frozen? ⟨Bo, 0, none⟩ = false := (box_cell v1.out 0).2
    have q2 : V.cell? ⟨W.heap.size, 0, none⟩ = some (.int .i64 xa) := (box_cell v3.out 0).1
    have q3 : V.cell? ⟨W.heap.size, 1, none⟩ = some (.int .i64 xb) := (box_cell v3.out 1).1
    have HLS : Hid ((pre ++ [(⟨xa, xb⟩ : Fnd)]).length = pre.length + 1) := by show _ = _; simp
    have hmx1 : Hid (pre.length + 1 ≤ maxLen) := by show _ ≤ _; unfold maxLen; omega
    have hmx2 : Hid ((pre.length + 1) * 16 ≤ 140737488355328) := by show _ ≤ _; omega
    clear j1 j2 j3 j4 j5 j6 j7 hl1 hd1
    gi_wp2_with (gi_at_builtin; go_loud (refine wpListIn_app eltPt rfl _ _ rfl (.slice va pre.length vc) pre (by simp [Act.eval]) (v2.out.alloc _) ⟨V.heap.size, 0, none⟩ 1 1 [⟨xa, xb⟩] (by simp [Act.eval]) (sl_new (c := Fnd.cod) V #[.int .i64 xa, .int .i64 xb] 141 [⟨xa, xb⟩] 1 rfl (by unfold maxLen; omega) rfl) hmx1.out hmx2.out (by simp; omega) ?_); intro v' V2 hown hgr; obtain ⟨a', c', ev', -⟩ := hown.slice; rw [HLS.out] at ev'; subst ev'; have HO := Lib.hid hown; have HG := Lib.hid hgr; have HB2 : Hid (V2.heap[Bo]? = some (.cells #[.slice va pre.length vc] 110 (0, 0))) := (hgr.block _ (by simp; omega) (fun q => by have := (World.ownsRow.lt v2.out _ q.symm).1; omega)).trans (box_alloc v1.out); obtain ⟨r0, r0f⟩ := box_cell HB2.out 0; have r0 : V2.cell? ⟨Bo, 0, none⟩ = some (.slice va pre.length vc) := r0; have hblt := box_lt HB2.out; clear hown hgr)
    have hoth : ∀ k, k ≠ Bo → (V2.setCell ⟨Bo, 0, none⟩ (.slice a' (pre.length + 1) c')).heap[k]? = V2.heap[k]? := fun k hk => heap_setCell_other _ _ _ _ hk
    have hold : ∀ k, k < V.heap.size → k < W1.heap.size ∨ k ≤ w2.heap.size + 1 → V2.heap[k]? = V.heap[k]? := fun k hk hk2 => (HG.out.block k (by simp; omega) (fun q => by have := (World.ownsRow.lt v2.out _ q.symm).1; omega)).trans (Below.heap_alloc V _ k hk)
    have hgs := setCell_grown V2 Bo (.slice a' (pre.length + 1) c')
    have hgp := grownBy_putObj' (V2.setCell ⟨Bo, 0, none⟩ (.slice a' (pre.length + 1) c')) (w2.heap.size + 1) (L0 .ready none)
    have hne1 := fun q => (World.ownsRow.lt HO.out Bo q).1
    have hne2 := fun q => (World.ownsRow.lt HO.out (w2.heap.size + 1) q).1
    have h2s : V.heap.size ≤ V2.heap.size := by have := HG.out.size; simp at this; omega
    refine ⟨(hoth _ (by omega)).trans ((hold _ (by omega) (.inr (Nat.le_refl _))).trans v4.out), ⟨⟨_, (World.putObj_heap_other (by omega)).trans (heap_setCell_same V2 Bo 0 _ _ _ HB2.out), (HO.out.kept hgs (.inr fun q => by have := hne1 q; omega)).kept hgp (.inr fun q => by have := hne2 q; omega)⟩, World.putObj_heap_same (by simp; omega), (World.putObj_heap_other (by omega)).trans ((hoth _ (by omega)).trans ((hold _ (by omega) (.inr (by omega))).trans v5.out)), ?_, by simp; omega, fun k hk h1 h2 => (World.putObj_heap_other (fun e => h2 e)).trans ((hoth k h1).trans ((hold k (by omega) (.inl hk)).trans (v7.out k hk h1 h2)))⟩⟩
    have hb1' : Below w.heap.size V V2 := ⟨HG.out.os, HG.out.tape, HG.out.output, h2s, fun k hk => hold k (by omega) (.inl (by omega))⟩
    have hb2' : Below w.heap.size w (V2.setCell ⟨Bo, 0, none⟩ (.slice a' (pre.length + 1) c')) := (v6.out.trans hb1').setCell (p := ⟨Bo, 0, none⟩) (by show w.heap.size ≤ Bo; omega) _
    exact hb2'.grown hgp (by simp; omega) (fun k hk => by have := Option.some.inj hk; omega)
  rintro e W2 ⟨⟨v, rfl⟩, hJ⟩
  refine ⟨⟨_, rfl⟩, .inl ⟨hJ.rcd, ?_⟩⟩
  obtain ⟨v, o1, o2⟩ := hJ.out
  have hszJ := hJ.sz
  have hgp := grownBy_putObj' W2 (w2.heap.size + 1) (L0 .exhausted none)
  have u1 : Hid ((W2.putObj (w2.heap.size + 1) (L0 .exhausted none)).heap[Bo]? = some (.cells #[v] 110 (0, 0))) := (World.putObj_heap_other (by omega)).trans o1
  have u2 : Hid ((W2.putObj (w2.heap.size + 1) (L0 .exhausted none)).heap[w2.heap.size]? = some (.deferred (some []))) := (World.putObj_heap_other (by omega)).trans hJ.def_
  have u3 : Hid (Below w.heap.size w (W2.putObj (w2.heap.size + 1) (L0 .exhausted none))) := hJ.bel.grown hgp hJ.bel.size (fun k hk => by have := Option.some.inj hk; omega)
  have u4 : Hid (V.Own 141 Fnd.cod W1.heap.size (W2.putObj (w2.heap.size + 1) (L0 .exhausted none)) v (L.map (fnd s.pt n.stops))) := o2.kept hgp (.inr fun q => by have := (World.ownsRow.lt o2 _ q).1; omega)
  obtain ⟨V, hV⟩ : ∃ V, W2.putObj (w2.heap.size + 1) (L0 .exhausted none) = V := ⟨_, rfl⟩
  rw [hV] at u1 u2 u3 u4 ⊢
  clear hV hgp hJ o1 o2 hl1 hd1
  have q1 : V.cell? ⟨Bo, 0, none⟩ = some v := (box_cell u1.out 0).1
  gi_wp2
  go_wp2_with fail
  refine ⟨by simp, .inl ⟨_, _, rfl, run_takeDeferred u2.out, ?_⟩⟩
  refine ⟨_, results_tmp2 rfl _ _ _, ?_⟩
  refine ⟨_, rfl, ?_, u3.out.grown (grownBy_putObj' _ _ _) u3.out.size (fun k hk => by have := Option.some.inj hk; omega)⟩
  have o := u4.out
  rw [HNU.out] at o
  refine Own.lower (base := W1.heap.size) (Go.V.Own.kept o (grownBy_putObj' _ _ _) (.inr fun q => ?_)) (by omega)
  have := (World.ownsRow.lt o _ q).1
  omega
end Go.Proofs.YtlfbbahihenilaaGreat.Ne
