/- Networks: viterbi: the best sequence, walked. -/
import Derived.Test.YtlfbbahihenilaaGreatMhNxE
namespace Go.Proofs.YtlfbbahihenilaaGreat.Ne
open Go.RowKit Go.V Go.Shelf Go.Proofs Go.Sort Go.Maps
attribute [local go_sem] Oper.semAt_some

theorem vmay_ok {x : Wgh} {gs : List (List Pnt)} (h : vmayE x gs = 0) : mayW x = true ∧ gs.length ≤ 2048 ∧ (∀ r ∈ gs, okRow r ∧ r.length ≤ 16) ∧ gs ≠ [] := by
  unfold vmayE at h
  split at h
  · next h1 =>
    split at h
    · omega
    next h2 =>
    split at h
    · next h3 =>
      split at h
      · omega
      next h4 =>
      refine ⟨h1, by omega, fun r hr => ?_, fun e => h4 (by rw [e]; rfl)⟩
      have := List.all_eq_true.1 h3 r hr
      unfold rowOk at this
      rw [Bool.and_eq_true] at this
      refine ⟨fun p hp => ?_, of_decide_eq_true this.1⟩
      have := List.all_eq_true.1 this.2 p hp
      exact of_decide_eq_true this
    · omega
  · omega

/-- What Best has in memory behind the iterator. -/
structure BV (w V0 W : World) (base tg mg N A Hb D pn : Nat) (n : Net) (hs hl : Hdr) (x : Wgh) (Ls : Nat → List Int) : Prop where
  tab : TabIn W base tg mg N n hs hl
  chg : Chg w W mg none
  rng : ∀ j, j < pn → W.rangeAt A (j * 16) (padV (Ls j))
  hdr : W.heap[Hb]? = some (.cells #[.slice (some ⟨A, 0, none⟩) pn pn] 134 (0, 0))
  xb : W.heap[w.heap.size]? = some x.box
  def_ : W.heap[D]? = some (.deferred (some []))
  sz : V0.heap.size ≤ W.heap.size
structure BM (w V0 : World) (mg A Hb D : Nat) : Prop where
  lt : A < V0.heap.size ∧ Hb < V0.heap.size ∧ D < V0.heap.size ∧ w.heap.size < V0.heap.size
  ne : A ≠ mg ∧ Hb ≠ mg ∧ D ≠ mg ∧ w.heap.size ≠ mg
section
variable {w V0 W W' : World} {base tg mg N N' A Hb D pn : Nat} {n : Net} {hs hl : Hdr} {x : Wgh} {Ls : Nat → List Int}
theorem BV.kq (hM : BM w V0 mg A Hb D) (h : BV w V0 W base tg mg N A Hb D pn n hs hl x Ls) (ht : TabIn W' base tg mg N' n hs hl) (hk : Kq V0.heap.size mg W W') : BV w V0 W' base tg mg N' A Hb D pn n hs hl x Ls := by
  obtain ⟨l1, l2, l3, l4⟩ := hM.lt
  obtain ⟨n1, n2, n3, n4⟩ := hM.ne
  refine ⟨ht, ⟨hk.os.trans h.chg.os, hk.tape.trans h.chg.tape, hk.output.trans h.chg.output, Nat.le_trans h.chg.size hk.size, fun k h1 h2 h3 => (hk.block k (by omega) h2).trans (h.chg.block k h1 h2 h3)⟩, fun j hj => range_of_heap (h.rng j hj) (hk.block A l1 n1), (hk.block Hb l2 n2).trans h.hdr, (hk.block _ l4 n4).trans h.xb, (hk.block D l3 n3).trans h.def_, Nat.le_trans h.sz hk.size⟩
theorem BV.below (hM : BM w V0 mg A Hb D) (h : BV w V0 W base tg mg N A Hb D pn n hs hl x Ls) (hb : RowKit.Below W.heap.size W W') : BV w V0 W' base tg mg N A Hb D pn n hs hl x Ls :=
  h.kq hM (h.tab.below hb) (Kq.of_chg (Chg.of_below hb mg none) h.sz)
theorem own_chg {α : Type} {c : Cod α} {e : TypeId} {b0 : Nat} {v : Value} {xs : List α} (h : V.Own e c b0 W v xs) (hc : Chg W W' mg none) (hm : mg < b0) : V.Own e c b0 W' v xs :=
  h.kept (row := some mg) ⟨hc.os, hc.tape, hc.output, hc.size, fun k hk hne => hc.block k hk (fun e => hne (by rw [e])) (by simp)⟩ (.inr fun e => by have := (World.ownsRow.lt h mg e).1; omega)
end
theorem TabIn.off_kind {w : World} {base tg mg N g : Nat} {n : Net} {hs hl : Hdr} {ol : Obj} (h : TabIn w base tg mg N n hs hl) (hg : w.heap[g]? = some ol) (hol : ∀ cur, ol ≠ .cells cur 3 (0, 0)) : TOff w mg g := by
  intro N' D' ho a v hh hv e
  obtain ⟨D, g1, g2⟩ := h.map
  have := ownsMap_one g1 ho
  subst this
  obtain ⟨v', e', r1, r2, o, cap, r3, r4, r5, cur, r6⟩ := g2 a hh
  rw [e'] at hv
  have hv := DataW.held.inj hv
  subst hv
  rw [r3] at e
  have e : o = g := by simpa [Value.ownBlock] using e
  subst e
  rw [hg] at r6
  exact hol cur (Option.some.inj r6)
/-- The iterator's jump is taken up. -/
theorem BV.done {w V0 W : World} {base tg mg N A Hb D pn : Nat} {n : Net} {hs hl : Hdr} {x : Wgh} {Ls : Nat → List Int} (h : BV w V0 W base tg mg N A Hb D pn n hs hl x Ls) (hD : w.heap.size ≤ D) (hb : base ≤ D) (h1 : D ≠ tg) (h2 : D ≠ mg) (o : Obj) : TabIn (W.putObj D o) base tg mg N n hs hl ∧ Chg w (W.putObj D o) mg none := by
  refine ⟨h.tab.grown (grownBy_putObj' W D o) (fun g hg => ?_), ?_⟩
  · have e : D = g := Option.some.inj hg
    subst e
    exact ⟨h.tab.off_kind h.def_ (fun cur e => by cases e), hb, h1, h2⟩
  · exact ⟨h.chg.os, h.chg.tape, h.chg.output, by have := h.chg.size; simpa using this, fun k hk h3 h4 => (World.putObj_heap_other (by omega)).trans (h.chg.block k hk h3 h4)⟩
theorem own_done {W : World} {D b0 : Nat} {v : Value} {xs : List Int} (h : Go.V.Own 3 icod b0 W v xs) (hD : D < b0) (o : Obj) : Go.V.Own 3 icod b0 (W.putObj D o) v xs :=
  h.kept (grownBy_putObj' W D o) (.inr fun e => by have := (World.ownsRow.lt h D e).1; omega)
/-- One stop more is told. -/
theorem BV.app {w V0 W w' : World} {base tg mg N A Hb D pn : Nat} {n : Net} {hs hl : Hdr} {x : Wgh} {Ls : Nat → List Int} {v v' : Value} {xs : List Int} {o : Obj} (hM : BM w V0 mg A Hb D) (h : BV w V0 W base tg mg N A Hb D pn n hs hl x Ls) (ho : Go.V.Own 3 icod V0.heap.size W v xs) (ht : ∀ g, v.ownBlock = some g → TOff W mg g)
    (hg : (W.alloc o).grownBy w' v.ownBlock) (hat : v'.ownBlock = v.ownBlock ∨ v'.ownBlock = some (W.alloc o).heap.size) (hx : base ≤ V0.heap.size ∧ tg < V0.heap.size ∧ mg < V0.heap.size) : BV w V0 w' base tg mg N A Hb D pn n hs hl x Ls ∧ ∀ g, v'.ownBlock = some g → TOff w' mg g := by
  have hlt := fun g e => World.ownsRow.lt ho g e
  have hta : ∀ g, v.ownBlock = some g → TOff (W.alloc o) mg g := fun g e => (ht g e).same (Below.heap_alloc W _ mg h.tab.mg_lt)
  have ht1 : TabIn (W.alloc o) base tg mg N n hs hl := h.tab.below ((Below.refl _ _).alloc (Nat.le_refl _) _)
  have ht2 : TabIn w' base tg mg N n hs hl := ht1.grown hg (fun g e => ⟨hta g e, by have := (hlt g e).1; omega, by have := (hlt g e).1; omega, by have := (hlt g e).1; omega⟩)
  have hmg : w'.heap[mg]? = (W.alloc o).heap[mg]? := hg.block mg (by have := h.tab.mg_lt; simp; omega) (fun e => by have := (hlt mg e.symm).1; omega)
  refine ⟨h.kq hM ht2 ⟨hg.os, hg.tape, hg.output, by have := hg.size; simp at this; omega, fun k hk hne => (hg.block k (by have := h.sz; simp; omega) (fun e => by have := (hlt k e.symm).1; omega)).trans (Below.heap_alloc W _ k (by have := h.sz; omega))⟩, fun g e => ?_⟩
  rcases hat with q | q
  · rw [q] at e; exact (hta g e).same hmg
  · rw [q] at e
    have e := Option.some.inj e
    exact (ht1.off_new (by omega)).same hmg
theorem map_one (o : Option (List Int)) (sp : Int) (xs : List Int) : (o.map (sp :: ·)).map (xs ++ ·) = o.map ((xs ++ [sp]) ++ ·) := by cases o <;> simp
theorem last_one (sp : Int) (xs : List Int) : (xs ++ [sp]).getLast? = some sp := by simp
theorem goE_cons (st : Int → Int → Int) (g : List Pnt) (gs : List (List Pnt)) (prev : Option Int) : goE st (g :: gs) prev = if (pickE st prev (g :: gs)).1 < 0 then none else (goE st gs (some (pickE st prev (g :: gs)).2)).map ((pickE st prev (g :: gs)).2 :: ·) := rfl

set_option maxRecDepth 100000 in
set_option maxHeartbeats 16000000 in
theorem vbest_any (w : World) (base tg mg N : Nat) (n : Net) (hs hl : Hdr) (x : Wgh) (hp : Hdr) (gs : List (List Pnt))
    (hT : TabIn w base tg mg N n hs hl) (hok : checkE n = 0) (h60 : hs.n ≤ 60) (h120 : hl.n ≤ 120) (hP : PtsIn w hp.a hp.n hp.cap gs) (h40 : gs.length ≤ 60) (hN : N ≤ 10) (hne : tg ≠ mg) :
    Calls Tryz.prog 43 #[.pointer (some ⟨tg, 0, none⟩), x.val, .slice hp.a hp.n hp.cap] w fun e w' => TabIn w' base tg mg (N + 20000) n hs hl ∧ Chg w w' mg none ∧
      (vmayE x gs ≠ 0 → e = .returned (.tuple #[.slice none 0 0, .int .i64 0, .int .i64 (vmayE x gs)])) ∧
      (vmayE x gs = 0 → (goE (stepE n hs.n x) gs none = none → e = .returned (.tuple #[.slice none 0 0, .int .i64 0, .int .i64 31])) ∧
        ∀ l, goE (stepE n hs.n x) gs none = some l → ∃ v, e = .returned (.tuple #[v, .int .i64 (pickE (stepE n hs.n x) none gs).1, .int .i64 0]) ∧ V.Own 3 icod w.heap.size w' v l) := by
  obtain ⟨xr, xm, xf, xc⟩ := x
  obtain ⟨pa, pn, pc⟩ := hp
  obtain ⟨hpl0, hp9⟩ := hP.len
  have HPL : Hid (pn = gs.length) := hpl0
  have hpn : pn ≤ 60 := by have : pn = gs.length := hpl0; omega
  clear hpl0 hp9
  have hmgw := hT.mg_lt
  have htgw : tg < w.heap.size := box_lt hT.box
  have HT0 := Lib.hid hT
  have HOK := Lib.hid hok
  have HP := Lib.hid hP
  have HMP := Lib.hid hT.mapAt
  clear hT hok hP
  have HX0 := Lib.hid (box_new w (Wgh.mk xr xm xf xc).box)
  obtain ⟨ve, hve⟩ : ∃ ve, vmayE ⟨xr, xm, xf, xc⟩ gs = ve := ⟨_, rfl⟩
  have HVE := Lib.hid hve
  rw [hve]
  clear hve
  refine (callsIn_wide (n := 8)).1 ?_
  refine callsIn_of_wp_marks Tryz.func43 rfl trivial ?_ rfl
  simp only [Tryz.ntmps43, List.size_toArray, List.length_cons, List.length_nil, Nat.reduceAdd, Nat.reduceSub, Array.replicate_succ, Array.replicate_zero, List.push_toArray, List.append_toArray, List.nil_append, List.cons_append]
  have hf1 : Fence.wide.fn 74 := trivial
  have hf2 : Fence.wide.fn 75 := trivial
  have hf3 : Fence.wide.fn 57 := trivial
  have HBX : Hid (RowKit.Below w.heap.size w (w.alloc (Wgh.mk xr xm xf xc).box)) := (Below.refl _ _).alloc (Nat.le_refl _) _
  obtain ⟨c0, c1, c2, c3⟩ := box4_cells HX0.out
  by_cases hv0 : ve = 0
  case neg =>
    have hvb : (ve != 0) = true := by simpa using hv0
    have HV0 := Lib.hid hv0
    clear hv0
    gi_wp2_with (gi_at_call 74; go_loud (refine (callsIn_wide.2 (vmay_any ⟨xr, xm, xf, xc⟩ pa pn pc gs _ (HP.out.below HBX.out))).mono ?_); rintro e w1 ⟨rfl, hb1⟩; rw [HVE.out]; have HB1 := Lib.hid (HBX.out.trans (hb1.mono HBX.out.size)); clear hb1)
    refine ⟨_, results_tmp3 rfl _ _ _, ?_⟩
    exact ⟨(HT0.out.below HB1.out).upto (by omega), Chg.of_below HB1.out mg none, fun _ => rfl, fun h => absurd h HV0.out⟩
  case pos =>
    subst hv0
    obtain ⟨o1, o2, o3, o4⟩ := vmay_ok HVE.out
    have HRO := Lib.hid o3
    have HNE := Lib.hid o4
    clear o1 o2 o3 o4
    obtain ⟨mc, hmcs, hmk⟩ : ∃ mc : Array Value, mc.size = pn * 16 ∧ ∀ w, (Instr.makeSlice 134 (.int .i64 (pn : Int)) (.int .i64 (pn : Int))).run Tryz.prog w = .ok (.slice (some ⟨w.heap.size, 0, none⟩) pn pn) (w.alloc (.cells mc 139)) := ⟨_, size_madeCells _ _, make_left pn (by omega)⟩
    have HMC := Lib.hid hmcs
    clear hmcs
    gi_wp2_with (first
      | (gi_at_call 74; go_loud (refine (callsIn_wide.2 (vmay_any ⟨xr, xm, xf, xc⟩ pa pn pc gs _ (HP.out.below HBX.out))).mono ?_); rintro e w1 ⟨rfl, hb1⟩; rw [HVE.out]; have HB1 := Lib.hid (HBX.out.trans (hb1.mono HBX.out.size)); have HX1 := Lib.hid (box_below HX0.out hb1); obtain ⟨d0, d1, d2, d3⟩ := box4_cells HX1.out; have hx1 : w.heap.size < w1.heap.size := box_lt HX1.out; clear hb1)
      | (gi_at_call 75; go_loud (refine (callsIn_wide.2 (vback_any tg ⟨xr, xm, xf, xc⟩ ⟨pa, pn, pc⟩ _)).mono ?_); rintro e w2 ⟨rfl, rfl⟩))
    clear d0 d1 d2 d3 c0 c1 c2 c3 hmk
    have HW2 : Hid (∃ w2, (((((w1.alloc (.cells mc 139)).alloc (.cells #[.slice (some ⟨w1.heap.size, 0, none⟩) pn pn] 134)).alloc (.cells #[.pointer (some ⟨tg, 0, none⟩)] 47)).alloc (Wgh.mk xr xm xf xc).box).alloc (.cells #[.slice pa pn pc] 63)) = w2 ∧
        w2.heap[w1.heap.size]? = some (.cells mc 139 (0, 0)) ∧ w2.heap[w1.heap.size + 1]? = some (.cells #[.slice (some ⟨w1.heap.size, 0, none⟩) pn pn] 134 (0, 0)) ∧ w2.heap[w1.heap.size + 1 + 1]? = some (.cells #[.pointer (some ⟨tg, 0, none⟩)] 47 (0, 0)) ∧
        w2.heap[w1.heap.size + 1 + 1 + 1]? = some (Wgh.mk xr xm xf xc).box ∧ w2.heap[w1.heap.size + 1 + 1 + 2]? = some (.cells #[.slice pa pn pc] 63 (0, 0)) ∧ RowKit.Below w1.heap.size w1 w2 ∧ w2.heap.size = w1.heap.size + 5) := by
      refine ⟨_, rfl, box_alloc (box_alloc (box_alloc (box_alloc (box_new _ _)))), box_alloc (box_alloc (box_alloc ?_)), box_alloc (box_alloc ?_), box_alloc ?_, ?_, (((((Below.refl _ _).alloc (Nat.le_refl _) _).alloc (by simp) _).alloc (by simp; omega) _).alloc (by simp; omega) _).alloc (by simp; omega) _, by simp⟩
      · have := box_new (w1.alloc (.cells mc 139)) (.cells #[.slice (some ⟨w1.heap.size, 0, none⟩) pn pn] 134)
        simpa using this
      · have := box_new ((w1.alloc (.cells mc 139)).alloc (.cells #[.slice (some ⟨w1.heap.size, 0, none⟩) pn pn] 134)) (.cells #[.pointer (some ⟨tg, 0, none⟩)] 47)
        simpa using this
      · have := box_new (((w1.alloc (.cells mc 139)).alloc (.cells #[.slice (some ⟨w1.heap.size, 0, none⟩) pn pn] 134)).alloc (.cells #[.pointer (some ⟨tg, 0, none⟩)] 47)) (Wgh.mk xr xm xf xc).box
        simpa using this
      · have := box_new ((((w1.alloc (.cells mc 139)).alloc (.cells #[.slice (some ⟨w1.heap.size, 0, none⟩) pn pn] 134)).alloc (.cells #[.pointer (some ⟨tg, 0, none⟩)] 47)).alloc (Wgh.mk xr xm xf xc).box) (.cells #[.slice pa pn pc] 63)
        simpa using this
    obtain ⟨w2, hw2, y1, y2, y3, y4, y5, y6, y7⟩ := HW2.out
    rw [hw2]
    have A2 := Lib.hid y1
    have H2 := Lib.hid y2
    have T2 := Lib.hid y3
    have X2 := Lib.hid y4
    have P2 := Lib.hid y5
    have B2 : Hid (RowKit.Below w.heap.size w w2) := HB1.out.trans (y6.mono HB1.out.size)
    have X2w : Hid (w2.heap[w.heap.size]? = some (Wgh.mk xr xm xf xc).box) := (y6.block _ hx1).trans HX1.out
    have HZ2 := Lib.hid y7
    clear hw2 y1 y2 y3 y4 y5 y6 y7 HW2
    refine range_named (by omega) rfl (enters_of Tryz.func97 (by kernel_rfl) rfl) ?_
    intro fn L W1 hL hl1 hd1 hb1 hsz
    have HL := Lib.hid hL
    have HSZ := Lib.hid hsz
    have hwz : w.heap.size ≤ w1.heap.size := HB1.out.size
    have hz2 : w2.heap.size = w1.heap.size + 5 := HZ2.out
    have hW1 : RowKit.Below w.heap.size w W1 := B2.out.trans (hb1.mono B2.out.size)
    have hAW : W1.heap[w1.heap.size]? = some (.cells mc 139 (0, 0)) := (hb1.block _ (by omega)).trans A2.out
    have hXW : W1.heap[w.heap.size]? = some (Wgh.mk xr xm xf xc).box := (hb1.block _ (by omega)).trans X2w.out
    have HBL : Hid (BL w W1 mg w1.heap.size (w1.heap.size + 1) (w2.heap.size + 1) w2.heap.size) := ⟨⟨by omega, by omega⟩, ⟨by omega, by omega, by omega, by omega⟩, ⟨by omega, by omega, by omega, by omega⟩, ⟨by omega, by omega, by omega⟩, ⟨by omega, by omega⟩, by omega⟩
    have hbase : base ≤ w.heap.size := by have := HT0.out.bt; omega
    have HBI : Hid (BI w W1 (w1.heap.size + 1 + 1 + 2) (w1.heap.size + 1 + 1) (w1.heap.size + 1 + 1 + 1) w1.heap.size (w2.heap.size + 1) base tg mg N n hs hl ⟨xr, xm, xf, xc⟩ ⟨pa, pn, pc⟩ gs) :=
      ⟨(hb1.block _ (by omega)).trans P2.out, (hb1.block _ (by omega)).trans T2.out, (hb1.block _ (by omega)).trans X2.out, HP.out, Chg.of_below hW1 mg none, HMP.out, ⟨by omega, by omega⟩, HOK.out, ⟨h60, h120, h40, by omega⟩, HRO.out, HT0.out.below hW1, ⟨hne, by omega, by omega, by omega, by omega⟩, ⟨by omega, by omega⟩, ⟨TabIn.off_kind (HT0.out.below hW1) hAW (fun cur e => left_int (by injection e)), TabIn.off_kind (HT0.out.below hW1) hl1 (fun cur e => by rw [hL] at e; cases e)⟩, ⟨by omega, by omega⟩, ⟨⟨by omega, by omega, by omega⟩, ⟨by omega, by omega, by omega⟩, ⟨by omega, by omega, by omega⟩⟩⟩
    have HJ0 : Hid (BJ w W1 mg w1.heap.size (w1.heap.size + 1) (w2.heap.size + 1) w2.heap.size pn (L .ready none) (fun j => bkL (stepE n hs.n ⟨xr, xm, xf, xc⟩) (gs.drop j)) pn W1) :=
      ⟨⟨mc, hAW, HMC.out⟩, fun j h1 h2 => by omega, (hb1.block _ (by omega)).trans H2.out, hl1, hd1, Chg.of_below hW1 mg none, Nat.le_refl _, fun _ _ _ _ _ => rfl⟩
    have HXW := Lib.hid hXW
    clear hL hl1 hd1 hb1 hsz hW1 hAW hXW hz2
    refine (back1_in 7 (w2.heap.size + 1) (w1.heap.size + 1 + 1 + 2) (w1.heap.size + 1 + 1) (w1.heap.size + 1 + 1 + 1) w1.heap.size base tg mg N n hs hl ⟨xr, xm, xf, xc⟩ ⟨pa, pn, pc⟩ gs w W1 (BJ w W1 mg w1.heap.size (w1.heap.size + 1) (w2.heap.size + 1) w2.heap.size pn (L .ready none) (fun j => bkL (stepE n hs.n ⟨xr, xm, xf, xc⟩) (gs.drop j))) (by omega) HBI.out (fun i W W' hj hk => hj.kq HBL.out hk) ?yields (by rw [← HPL.out]; exact HJ0.out)).mono ?_
    case yields =>
      intro i W hi hj
      have hip : i < pn := by have := HPL.out; omega
      have hlen : (bkL (stepE n hs.n ⟨xr, xm, xf, xc⟩) (gs.drop i)).length ≤ 16 := by
        rw [bkL_len, drop_at (List.getElem?_eq_getElem hi)]
        exact (HRO.out _ (List.getElem_mem hi)).2
      have HJi := Lib.hid hj
      have hrc := hj.rcd
      refine yield_named HL.out hrc rfl ?_
      obtain ⟨LI, hLI⟩ : ∃ LI, bkL (stepE n hs.n ⟨xr, xm, xf, xc⟩) (gs.drop i) = LI := ⟨_, rfl⟩
      rw [hLI] at hlen ⊢
      have HLI := Lib.hid hLI
      have HSZ16 : Hid ((padV LI).toArray.size = 16) := by show _ = _; rw [List.size_toArray, padV_len hlen]
      have HTH : Hid ((W.alloc (.cells #[.int .i64 0, .int .i64 0, .int .i64 0, .int .i64 0, .int .i64 0, .int .i64 0, .int .i64 0, .int .i64 0, .int .i64 0, .int .i64 0, .int .i64 0, .int .i64 0, .int .i64 0, .int .i64 0, .int .i64 0, .int .i64 0] 139)).there W.heap.size 0 16) := there_block (box_new W (arrO []))
      clear hj hrc hLI
      gi_wp2_with (with_reducible refine wpListIn_store_mid rfl 139 (.tmp 12) (.tmp 37) rfl W.heap.size 0 (padV LI).toArray rfl rfl (by rw [HSZ16.out]; exact HTH.out) (by rw [HSZ16.out]; exact infoLeft) (all_oneCell_toArray (padV_one LI)) ?_)
      have hls : w2.heap.size + 1 < W.heap.size := box_lt HJi.out.rcd
      have hAs : w1.heap.size < W.heap.size := by have := HBL.out.lt.1; have := HJi.out.sz; omega
      have HZB : Hid ((W.alloc (.cells #[.int .i64 0, .int .i64 0, .int .i64 0, .int .i64 0, .int .i64 0, .int .i64 0, .int .i64 0, .int .i64 0, .int .i64 0, .int .i64 0, .int .i64 0, .int .i64 0, .int .i64 0, .int .i64 0, .int .i64 0, .int .i64 0] 139)).heap[W.heap.size]? = some (arrO [])) := box_new W (arrO [])
      have HZO : Hid (∀ k, k < W.heap.size → (W.alloc (.cells #[.int .i64 0, .int .i64 0, .int .i64 0, .int .i64 0, .int .i64 0, .int .i64 0, .int .i64 0, .int .i64 0, .int .i64 0, .int .i64 0, .int .i64 0, .int .i64 0, .int .i64 0, .int .i64 0, .int .i64 0, .int .i64 0] 139)).heap[k]? = W.heap[k]?) := fun k hk => Below.heap_alloc W _ k hk
      have HZS : Hid ((W.alloc (.cells #[.int .i64 0, .int .i64 0, .int .i64 0, .int .i64 0, .int .i64 0, .int .i64 0, .int .i64 0, .int .i64 0, .int .i64 0, .int .i64 0, .int .i64 0, .int .i64 0, .int .i64 0, .int .i64 0, .int .i64 0, .int .i64 0] 139)).heap.size = W.heap.size + 1) := by show _ = _; simp
      have HZR : Hid ((W.alloc (.cells #[.int .i64 0, .int .i64 0, .int .i64 0, .int .i64 0, .int .i64 0, .int .i64 0, .int .i64 0, .int .i64 0, .int .i64 0, .int .i64 0, .int .i64 0, .int .i64 0, .int .i64 0, .int .i64 0, .int .i64 0, .int .i64 0] 139)).os = W.os ∧ (W.alloc (.cells #[.int .i64 0, .int .i64 0, .int .i64 0, .int .i64 0, .int .i64 0, .int .i64 0, .int .i64 0, .int .i64 0, .int .i64 0, .int .i64 0, .int .i64 0, .int .i64 0, .int .i64 0, .int .i64 0, .int .i64 0, .int .i64 0] 139)).tape = W.tape ∧ (W.alloc (.cells #[.int .i64 0, .int .i64 0, .int .i64 0, .int .i64 0, .int .i64 0, .int .i64 0, .int .i64 0, .int .i64 0, .int .i64 0, .int .i64 0, .int .i64 0, .int .i64 0, .int .i64 0, .int .i64 0, .int .i64 0, .int .i64 0] 139)).output = W.output) := ⟨rfl, rfl, rfl⟩
      obtain ⟨Z, hZ⟩ : ∃ Z, W.alloc (.cells #[.int .i64 0, .int .i64 0, .int .i64 0, .int .i64 0, .int .i64 0, .int .i64 0, .int .i64 0, .int .i64 0, .int .i64 0, .int .i64 0, .int .i64 0, .int .i64 0, .int .i64 0, .int .i64 0, .int .i64 0, .int .i64 0] 139) = Z := ⟨_, rfl⟩
      rw [hZ] at HZB HZO HZS HZR ⊢
      clear hZ HTH
      have HUB : Hid ((Z.setCells W.heap.size 0 (padV LI)).heap[W.heap.size]? = some (arrO LI)) := by
        have := setCells_block HZB.out (padV LI) (by rw [padV_len hlen]; rfl)
        exact this
      have HUO : Hid (∀ k, k < W.heap.size → (Z.setCells W.heap.size 0 (padV LI)).heap[k]? = W.heap[k]?) := fun k hk => (setCells_other (by omega) _ _ _).trans (HZO.out k hk)
      have HUR : Hid ((Z.setCells W.heap.size 0 (padV LI)).os = W.os ∧ (Z.setCells W.heap.size 0 (padV LI)).tape = W.tape ∧ (Z.setCells W.heap.size 0 (padV LI)).output = W.output ∧ (Z.setCells W.heap.size 0 (padV LI)).heap.size = W.heap.size + 1) := by
        obtain ⟨r1, r2, r3, r4⟩ := setCells_rest W.heap.size (padV LI) 0 Z
        obtain ⟨z1, z2, z3⟩ := HZR.out
        exact ⟨r1.trans z1, r2.trans z2, r3.trans z3, r4.trans HZS.out⟩
      obtain ⟨U, hU⟩ : ∃ U, Z.setCells W.heap.size 0 (padV LI) = U := ⟨_, rfl⟩
      rw [hU] at HUB HUO HUR ⊢
      clear hU HZB HZO HZS HZR
      refine ⟨(HUO.out _ hls).trans HJi.out.rcd, ?_⟩
      have HVB : Hid ((U.putObj (w2.heap.size + 1) (L .busy none)).heap[W.heap.size]? = some (arrO LI)) := (World.putObj_heap_other (by omega)).trans HUB.out
      have HVO : Hid (∀ k, k < W.heap.size → k ≠ w2.heap.size + 1 → (U.putObj (w2.heap.size + 1) (L .busy none)).heap[k]? = W.heap[k]?) := fun k hk hne => (World.putObj_heap_other (fun e => hne e)).trans (HUO.out k hk)
      have HVL : Hid ((U.putObj (w2.heap.size + 1) (L .busy none)).heap[w2.heap.size + 1]? = some (L .busy none)) := World.putObj_heap_same (by have := HUR.out.2.2.2; omega)
      have HVR : Hid ((U.putObj (w2.heap.size + 1) (L .busy none)).os = W.os ∧ (U.putObj (w2.heap.size + 1) (L .busy none)).tape = W.tape ∧ (U.putObj (w2.heap.size + 1) (L .busy none)).output = W.output ∧ (U.putObj (w2.heap.size + 1) (L .busy none)).heap.size = W.heap.size + 1) := by
        obtain ⟨r1, r2, r3, r4⟩ := HUR.out
        exact ⟨r1, r2, r3, by rw [← r4]; simp⟩
      obtain ⟨V, hV⟩ : ∃ V, U.putObj (w2.heap.size + 1) (L .busy none) = V := ⟨_, rfl⟩
      rw [hV] at HVB HVO HVL HVR ⊢
      clear hV HUB HUO HUR
      have hne1 : w1.heap.size ≠ w2.heap.size + 1 := fun e => HBL.out.na.2.1 e.symm
      have hVA : V.heap[w1.heap.size]? = W.heap[w1.heap.size]? := HVO.out _ hAs hne1
      have q1 : V.cell? ⟨w1.heap.size + 1, 0, none⟩ = some (.slice (some ⟨w1.heap.size, 0, none⟩) pn pn) := (box_cell ((HVO.out _ (by have := HBL.out.lt.2.1; have := HJi.out.sz; omega) (HBL.out.nl.1)).trans HJi.out.hdr) 0).1
      have hii : (i : Int) < (pn : Int) := by omega
      have HTH : Hid (V.there w1.heap.size (i * 16) 16) := by
        obtain ⟨cs, a1, a2⟩ := HJi.out.arr
        exact there_part (there_block (hVA.trans a1)) (by rw [a2]; omega)
      have hsz9 : w1.heap.size < V.heap.size := by have := HVR.out.2.2.2; omega
      have HVA := Lib.hid hVA
      clear hVA
      gi_wp2_with (first
        | (with_reducible refine wpListIn_load_mid rfl 139 (.tmp 12) rfl W.heap.size 0 rfl (padV LI) _ (arr_range HVB.out) Tryz.underlying139 rfl (by rw [padV_len hlen]; exact infoLeft) ?_)
        | (with_reducible refine wpListIn_store_mid rfl 139 (.tmp 41) (.tmp 40) rfl w1.heap.size (i * 16) (padV LI).toArray rfl rfl (by rw [HSZ16.out]; exact HTH.out) (by rw [HSZ16.out]; exact infoLeft) (all_oneCell_toArray (padV_one LI)) ?_))
      obtain ⟨r1, r2, r3, r4⟩ := HVR.out
      obtain ⟨t1, t2, t3, t4⟩ := setCells_rest w1.heap.size (padV LI) (i * 16) V
      refine ⟨(setCells_other (fun e => hne1 e.symm) _ _ _).trans HVL.out, ?_⟩
      rw [← HLI.out] at t1 t2 t3 t4 ⊢
      exact HJi.out.put HBL.out hip (by show (bkL _ _).length ≤ 16; rw [HLI.out]; exact hlen) HVA.out HVO.out (by omega) r1 r2 r3 (fun k hk => World.putObj_heap_other (fun e => hk e)) (World.putObj_heap_same (by rw [t4]; omega)) (by rw [← t4]; simp) t1 t2 t3
    rintro e W2 ⟨⟨v9, rfl⟩, hJ, hT2, hK2⟩
    refine ⟨⟨_, rfl⟩, .inl ⟨hJ.rcd, ?_⟩⟩
    have hls : w2.heap.size + 1 < W2.heap.size := box_lt hJ.rcd
    have hpz : ∀ k, k ≠ w2.heap.size + 1 → (W2.putObj (w2.heap.size + 1) (L .exhausted none)).heap[k]? = W2.heap[k]? := fun k hk => World.putObj_heap_other (fun e => hk e)
    have hBM : BM w W2 mg w1.heap.size (w1.heap.size + 1) w2.heap.size := by
      have h1 := HBL.out.lt
      have h2 := HBL.out.ne
      have h3 := hJ.sz
      have h4 := HBL.out.w1
      have := HZ2.out
      exact ⟨⟨by omega, by omega, by omega, by omega⟩, ⟨h2.1, h2.2.1, h2.2.2.2, by omega⟩⟩
    have hBV : BV w W2 (W2.putObj (w2.heap.size + 1) (L .exhausted none)) base tg mg (N + 16000) w1.heap.size (w1.heap.size + 1) w2.heap.size pn n hs hl ⟨xr, xm, xf, xc⟩ (fun j => bkL (stepE n hs.n ⟨xr, xm, xf, xc⟩) (gs.drop j)) := by
      obtain ⟨cs, a1, -⟩ := hJ.arr
      have hz2 := HZ2.out
      refine ⟨hT2.keep a1 left_int hJ.rcd (fun cur e => by rw [HL.out] at e; cases e) rfl rfl rfl (by simp) (fun k _ _ h => hpz k h) HBI.out.bs.1 HBI.out.bs.2 ⟨HBI.out.ne.2.1, HBI.out.ne.2.2.1⟩ ⟨HBI.out.ne.2.2.2.1, HBI.out.ne.2.2.2.2⟩, ?_, fun j hj => range_of_heap (hJ.rng j (Nat.zero_le _) hj) (hpz _ (fun e => HBL.out.na.2.1 e.symm)), (hpz _ HBL.out.nl.1).trans hJ.hdr, (hpz _ (by omega)).trans ((hJ.kp _ (by have := HBL.out.w1; have := HBL.out.lt.1; omega) (by omega) (by omega) (by omega)).trans HXW.out), (hpz _ HBL.out.nl.2).trans hJ.def_, by simp⟩
      refine ⟨hJ.chg.os, hJ.chg.tape, hJ.chg.output, by have := hJ.chg.size; simpa using this, fun k h1 h2 h3 => (hpz k ?_).trans (hJ.chg.block k h1 h2 h3)⟩
      have := HBL.out.old.2
      omega
    have HBV := Lib.hid hBV
    have HBM := Lib.hid hBM
    have hVs : (W2.putObj (w2.heap.size + 1) (L .exhausted none)).heap.size = W2.heap.size := by simp
    obtain ⟨U9, hV⟩ : ∃ U9, W2.putObj (w2.heap.size + 1) (L .exhausted none) = U9 := ⟨_, rfl⟩
    rw [hV] at HBV hVs ⊢
    have HVS := Lib.hid hVs
    have HDD : Hid (w.heap.size ≤ w2.heap.size ∧ base ≤ w.heap.size ∧ tg < w.heap.size ∧ mg < w.heap.size ∧ w2.heap.size < W2.heap.size) := by
      have h1 := B2.out.size
      have h2 := HBM.out.lt.2.2.1
      show _ ∧ _; omega
    have HNX : Hid (base ≤ W2.heap.size ∧ tg < W2.heap.size ∧ mg < W2.heap.size ∧ w.heap.size ≤ W2.heap.size) := by
      have := HBM.out.lt.2.2.2
      show _ ∧ _; omega
    have HST0 : Hid (∀ a b, -1 ≤ stepE n hs.n ⟨xr, xm, xf, xc⟩ a b ∧ stepE n hs.n ⟨xr, xm, xf, xc⟩ a b ≤ 15461868568576) := fun a b => stepE_in HOK.out HT0.out.netIn.s.hlen h60 (by have := HT0.out.netIn.l.hlen; omega) _ a b
    have HLV : Hid (∀ i, ∀ v ∈ bkL (stepE n hs.n ⟨xr, xm, xf, xc⟩) (gs.drop i), -1 ≤ v ∧ v ≤ 1000000000000000) := by
      intro i v hv
      have h1 := bkL_in (stepE n hs.n ⟨xr, xm, xf, xc⟩) 15461868568576 (by omega) (fun a b => (HST0.out a b).2) (gs.drop i) (fun r hr => (HRO.out r (List.mem_of_mem_drop hr)).1) v hv
      have h2 : (gs.drop i).length ≤ 60 := by simp; omega
      omega
    obtain ⟨st, hste⟩ : ∃ st, stepE n hs.n ⟨xr, xm, xf, xc⟩ = st := ⟨_, rfl⟩
    rw [hste] at HST0 HLV HBV
    have HSTE := Lib.hid hste
    have hsz9 : w1.heap.size < W2.heap.size := HBM.out.lt.1
    have hszh : w1.heap.size + 1 < W2.heap.size := HBM.out.lt.2.1
    clear hV hVs hBV hBM hpz hJ hT2 hK2 hls hste HBI HBL HJ0 HXW HX1 HMC HZ2 HSZ HL
    simp only [Exit.inBlock, Exit.then]
    refine (show ∀ (a : Act) (w : World), Code.wpIn _ _ _ _ _ a w → _ from by assumption) _ _ ?_
    rw [wpIn_wide]
    go_wp2_with fail
    go_loopw [13, 14, 44] (fun v lv i wr => ∃ j N1 outL lq, i = .int .i64 ((j : Nat) : Int) ∧ j ≤ pn ∧ lv = .int .i64 lq ∧ N1 ≤ N + 16000 + j * 16 ∧ Hid (Go.V.Own 3 icod W2.heap.size wr v outL) ∧ Hid (outL.length = j) ∧ Hid (0 < j → lq = (pickE st none gs).1) ∧ Hid (BV w W2 wr base tg mg N1 w1.heap.size (w1.heap.size + 1) w2.heap.size pn n hs hl ⟨xr, xm, xf, xc⟩ (fun j => bkL st (gs.drop j))) ∧ Hid (∀ g, v.ownBlock = some g → TOff wr mg g) ∧ Hid (goE st gs none = (goE st (gs.drop j) outL.getLast?).map (outL ++ ·))) (fun _ _ i _ => pn - (intOf i).toNat)
    case atStart => exact ⟨0, N + 16000, [], 0, by go_num, by omega, rfl, by omega, Own.nil, rfl, fun h => by omega, HBV.out, fun g hg => by simp [Value.ownBlock] at hg, by show _ = _; cases h : goE st gs none <;> simp [h]⟩
    case round =>
      clear HBV HVS
      obtain ⟨j, N1, outL, lq, rfl, hj, rfl, hN1, HO, HOL, HLQ, HBV, HTO, HGO⟩ := hrel
      obtain ⟨wo, rfl⟩ : ∃ wo : World, wo = wr := ⟨_, rfl⟩
      by_cases hjl : j < pn
      · obtain ⟨pb, po, rh, g, e1, hpb, hg, hrc, hgq⟩ := HP.out.at hjl
        have e1 : pa = _ := e1
        subst e1
        obtain ⟨ra, rn, rc⟩ := rh
        have hrc0 := cell_chgm HMP.out HBV.out.chg hrc
        have HGQ := Lib.hid hgq
        have HRN : Hid (rn = g.length) := hgq.hlen
        have hrn : rn ≤ 16 := by
          have h1 := (HRO.out g (List.mem_of_getElem? hg)).2
          have h2 : rn = g.length := hgq.hlen
          omega
        have hr16 : rn ≤ 9223372036854775807 := by omega
        have HG := Lib.hid hg
        have HD : Hid (gs.drop j = g :: gs.drop (j + 1)) := drop_at hg
        have hpbw : pb < wo.heap.size := World.block_lt_of_cell? wo _ hrc0
        have hji : (j : Int) < (pn : Int) := by omega
        obtain ⟨LI, hLI⟩ : ∃ LI, bkL st (gs.drop j) = LI := ⟨_, rfl⟩
        have HLI := Lib.hid hLI
        have HLL : Hid (LI.length = g.length) := by
          show _ = _
          rw [← hLI, bkL_len, drop_at hg]; rfl
        have HPE : Hid (∀ prev, pickE st prev (gs.drop j) = pickG st prev (g.zip LI) (-1, 0)) := fun prev => by
          unfold pickE
          rw [hLI, drop_at hg]; rfl
        clear hg hgq hrc hLI
        by_cases hj0 : j = 0
        · skip
--<<A
          subst hj0
          have hov : outL = [] := List.eq_nil_of_length_eq_zero HOL.out
          subst hov
          have hjc : ((0 : Nat) : Int) = 0 := rfl
          rw [hjc] at hji ⊢
          have HP0 := HPE.out none
          obtain ⟨P, hP9⟩ : ∃ P, pickG st none (g.zip LI) (-1, 0) = P := ⟨_, rfl⟩
          rw [hP9] at HP0
          have HPP := Lib.hid hP9
          have HPQ := Lib.hid HP0
          clear HP0 hP9 hjc
          rw [Nat.add_zero] at hrc0
          go_wp2_with fail
          go_loopw [17, 18, 51] (fun b t c wr => ∃ k N2 bb sp, c = .int .i64 ((k : Nat) : Int) ∧ k ≤ rn ∧ b = .int .i64 bb ∧ t = .int .i64 sp ∧ -1 ≤ bb ∧ bb ≤ 1100000000000000 ∧ N2 ≤ N1 + k ∧ Hid (pickG st none ((g.zip LI).drop k) (bb, sp) = P) ∧ Hid (Go.V.Own 3 icod W2.heap.size wr u13 []) ∧ Hid (BV w W2 wr base tg mg N2 w1.heap.size (w1.heap.size + 1) w2.heap.size pn n hs hl ⟨xr, xm, xf, xc⟩ (fun j => bkL st (gs.drop j))) ∧ Hid (∀ g, u13.ownBlock = some g → TOff wr mg g)) (fun _ _ c _ => rn - (intOf c).toNat)
          case atStart => exact ⟨0, N1, -1, 0, by go_num, by omega, rfl, rfl, by omega, by omega, by omega, by rw [List.drop_zero]; exact HPP.out, HO.out, HBV.out, HTO.out⟩
          case round =>
            clear HBV HO HTO HPP
            obtain ⟨k, N2, bb, sp, rfl, hk, rfl, rfl, bb0, bb1, hN2, HPG, HO, HBV, HTO⟩ := hrel
            by_cases hkl : k < rn
            · obtain ⟨b1, o1, p, e2, hbl1, hp, p0, p1⟩ := pnt_at (slq_chgm HMP.out HBV.out.chg HGQ.out) hkl
              have e2 : ra = _ := e2
              subst e2
              obtain ⟨ps, pq⟩ := p
              have hkn : k < LI.length := by have := HLL.out; have := HRN.out; omega
              obtain ⟨v, hv⟩ : ∃ v, LI[k]? = some v := ⟨_, List.getElem?_eq_getElem hkn⟩
              obtain ⟨vb0, vb1⟩ : -1 ≤ v ∧ v ≤ 1000000000000000 := HLV.out 0 v (by rw [HLI.out]; exact List.mem_of_getElem? hv)
              have hz : (g.zip LI)[k]? = some (⟨ps, pq⟩, v) := by
                rw [List.getElem?_zip_eq_some]; exact ⟨hp, hv⟩
              have hpg := HPG.out
              rw [drop_at hz] at hpg
              have hpg : pickG st none ((g.zip LI).drop (k + 1)) (pickAt st none ⟨ps, pq⟩ v (bb, sp)) = P := hpg
              have HPG1 := Lib.hid hpg
              have hcell := HBV.out.rng 0 hjl k _ (padV_at (l := bkL st (gs.drop 0)) (by rw [HLI.out]; exact hv))
              rw [Nat.zero_mul, Nat.zero_add] at hcell
              have hh0 := (box_cell HBV.out.hdr 0).1
              have hh0 : wr.cell? ⟨w1.heap.size + 1, 0, none⟩ = some (.slice (some ⟨w1.heap.size, 0, none⟩) pn pn) := hh0
              have haw : w1.heap.size < wr.heap.size := by have := HBV.out.sz; omega
              have hahw : w1.heap.size + 1 < wr.heap.size := by have := HBV.out.sz; omega
              have hki : (k : Int) < (rn : Int) := by omega
              have hk16 : (k : Int) < 16 := by omega
              have HB5 := Lib.hid (HBV.out.below HBM.out ((Below.refl _ _).alloc (Nat.le_refl _) (.cells #[.int .i64 ps, .int .i64 pq] 141)))
              have HO5 := Lib.hid (HO.out.alloc (.cells #[.int .i64 ps, .int .i64 pq] 141))
              have HT5 : Hid (∀ g, u13.ownBlock = some g → TOff (wr.alloc (.cells #[.int .i64 ps, .int .i64 pq] 141)) mg g) := fun g hg => (HTO.out g hg).same (Below.heap_alloc wr _ mg (by have := HBV.out.tab.mg_lt; omega))
              clear hp hv hz hpg HPG
              by_cases hv0 : 0 ≤ v
              · have HST : Hid (∀ q, (v, ps) = q → (bb < 0 ∨ v < bb ∨ v = bb ∧ ps < sp) → pickG st none ((g.zip LI).drop (k + 1)) q = P) := fun q hq hh => by
                  have := HPG1.out
                  rw [pickAt_eq] at this
                  have e0 : toE st none ps = 0 := rfl
                  simp only [e0, Int.zero_add] at this
                  rw [if_pos ⟨hv0, by omega, hh⟩, hq] at this; exact this
                have HSF : Hid (¬ (bb < 0 ∨ v < bb ∨ v = bb ∧ ps < sp) → pickG st none ((g.zip LI).drop (k + 1)) (bb, sp) = P) := fun hh => by
                  have := HPG1.out
                  rw [pickAt_eq] at this
                  have e0 : toE st none ps = 0 := rfl
                  simp only [e0, Int.zero_add] at this
                  rw [if_neg (fun q => hh q.2.2)] at this; exact this
                by_cases hb0 : bb < 0
                · skip
                  go_wp2_with fail
                  go_quiet (fail)
                  go_wp2_with fail
                  go_roundw
                  case rel => exact ⟨k + 1, N2, _, _, by go_num, by omega, rfl, rfl, by omega, by omega, by omega, HST.out _ rfl (by first | omega | (have := HEQ.out; omega)), (by first | exact HO5.out | exact HO5.out.below (below_drewN (Below.refl _ _) _) | exact HO5.out.below (Below.drew (Below.refl _ _))), (by first | exact HB5.out | exact HB5.out.below HBM.out (below_drewN (Below.refl _ _) _) | exact HB5.out.below HBM.out (Below.drew (Below.refl _ _))), (fun g hg => (HT5.out g hg).same rfl)⟩
                  case measure => simp [intOf] <;> omega
                · have hb1 : decide (bb < 0) = false := decide_eq_false hb0
                  by_cases hlt : v < bb
                  · skip
                    go_wp2_with fail
                    go_quiet (fail)
                    go_wp2_with fail
                    go_roundw
                    case rel => exact ⟨k + 1, N2, _, _, by go_num, by omega, rfl, rfl, by omega, by omega, by omega, HST.out _ rfl (by first | omega | (have := HEQ.out; omega)), (by first | exact HO5.out | exact HO5.out.below (below_drewN (Below.refl _ _) _) | exact HO5.out.below (Below.drew (Below.refl _ _))), (by first | exact HB5.out | exact HB5.out.below HBM.out (below_drewN (Below.refl _ _) _) | exact HB5.out.below HBM.out (Below.drew (Below.refl _ _))), (fun g hg => (HT5.out g hg).same rfl)⟩
                    case measure => simp [intOf] <;> omega
                  · have hb2 : decide (v < bb) = false := decide_eq_false hlt
                    by_cases heq : v = bb
                    · have hb3 : (v == bb) = true := by simpa using heq
                      by_cases hps : ps < sp
                      · skip
                        have HEQ := Lib.hid heq
                        clear heq
                        go_wp2_with fail
                        go_quiet (fail)
                        go_wp2_with fail
                        go_roundw
                        case rel => exact ⟨k + 1, N2, _, _, by go_num, by omega, rfl, rfl, by omega, by omega, by omega, HST.out _ rfl (by first | omega | (have := HEQ.out; omega)), (by first | exact HO5.out | exact HO5.out.below (below_drewN (Below.refl _ _) _) | exact HO5.out.below (Below.drew (Below.refl _ _))), (by first | exact HB5.out | exact HB5.out.below HBM.out (below_drewN (Below.refl _ _) _) | exact HB5.out.below HBM.out (Below.drew (Below.refl _ _))), (fun g hg => (HT5.out g hg).same rfl)⟩
                        case measure => simp [intOf] <;> omega
                      · have hb4 : decide (ps < sp) = false := decide_eq_false hps
                        have HEQ := Lib.hid heq
                        clear heq
                        go_wp2_with fail
                        go_roundw
                        case rel => exact ⟨k + 1, N2, bb, sp, by go_num, by omega, rfl, rfl, by omega, by omega, by omega, HSF.out (by first | omega | (have := HEQ.out; omega)), (by first | exact HO5.out | exact HO5.out.below (below_drewN (Below.refl _ _) _) | exact HO5.out.below (Below.drew (Below.refl _ _))), (by first | exact HB5.out | exact HB5.out.below HBM.out (below_drewN (Below.refl _ _) _) | exact HB5.out.below HBM.out (Below.drew (Below.refl _ _))), (fun g hg => (HT5.out g hg).same rfl)⟩
                        case measure => simp [intOf] <;> omega
                    · have hb3 : (v == bb) = false := by simpa using heq
                      have HEQ := Lib.hid heq
                      clear heq
                      go_wp2_with fail
                      go_roundw
                      case rel => exact ⟨k + 1, N2, bb, sp, by go_num, by omega, rfl, rfl, by omega, by omega, by omega, HSF.out (by first | omega | (have := HEQ.out; omega)), (by first | exact HO5.out | exact HO5.out.below (below_drewN (Below.refl _ _) _) | exact HO5.out.below (Below.drew (Below.refl _ _))), (by first | exact HB5.out | exact HB5.out.below HBM.out (below_drewN (Below.refl _ _) _) | exact HB5.out.below HBM.out (Below.drew (Below.refl _ _))), (fun g hg => (HT5.out g hg).same rfl)⟩
                      case measure => simp [intOf] <;> omega
              · have hd0 : decide (0 ≤ v) = false := decide_eq_false hv0
                have HP2 : Hid (pickG st none ((g.zip LI).drop (k + 1)) (bb, sp) = P) := by
                  have := HPG1.out
                  rw [pickAt_eq, if_neg (fun q => hv0 q.1)] at this; exact this
                go_wp2_with fail
                go_roundw
                case rel => exact ⟨k + 1, N2, bb, sp, by go_num, by omega, rfl, rfl, by omega, by omega, by omega, HP2.out, HO5.out, HB5.out, HT5.out⟩
                case measure => simp [intOf] <;> omega
            · have hkn : rn = k := by omega
              subst hkn
              have hPb : P = (bb, sp) := by
                have := HPG.out
                rw [List.drop_of_length_le (by rw [List.length_zip]; have := HRN.out; omega)] at this
                exact this.symm
              have HGC : Hid (goE st gs none = (if bb < 0 then none else (goE st (gs.drop (0 + 1)) (some sp)).map (sp :: ·)).map ([] ++ ·)) := by
                have h1 := HGO.out
                have h2 := HPQ.out
                rw [HD.out] at h1 h2
                rw [goE_cons] at h1
                have h3 : pickE st ([].getLast?) (g :: gs.drop (0 + 1)) = P := h2
                rw [h3, hPb] at h1
                exact h1
              by_cases hb0 : bb < 0
              · have HE : Hid (goE st gs none = none) := by
                  have := HGC.out
                  rw [if_pos hb0] at this; exact this
                go_wp2_with fail
                refine ⟨by simp, .inl ⟨_, _, rfl, run_takeDeferred HBV.out.def_, ?_⟩⟩
                refine ⟨_, results_tmp3 rfl _ _ _, ?_⟩
                obtain ⟨f1, f2⟩ := HBV.out.done (by have := HDD.out; omega) (by have := HDD.out; omega) (by have := HDD.out; omega) (by have := HDD.out; omega) (.deferred none)
                rw [HSTE.out]
                refine ⟨f1.upto (by omega), f2, fun h => ?_, fun l hl => ?_⟩
                · rfl
                · rw [HE.out] at hl; cases hl
              · have hbd : decide (bb < 0) = false := decide_eq_false hb0
                have HE : Hid (goE st gs none = (goE st (gs.drop (0 + 1)) ([] ++ [sp]).getLast?).map (([] ++ [sp]) ++ ·)) := by
                  have := HGC.out
                  rw [if_neg hb0] at this
                  show _ = _
                  rw [this, map_one, last_one]
                have HM1 : Hid (([] : List Int).length + 1 ≤ maxLen) := by show _ ≤ _; rw [HOL.out]; unfold maxLen; omega
                have HM2 : Hid ((([] : List Int).length + 1) * 8 ≤ 140737488355328) := by show _ ≤ _; rw [HOL.out]; omega
                go_wp2_with (at_builtin; go_loud (refine wpList_app_at eltI rfl (.tmp 114) (.tmp 116) rfl (base := W2.heap.size) _ [] rfl (HO.out.alloc _) _ 1 1 [sp] rfl (sl_new (c := icod) _ #[.int .i64 sp] 3 [sp] 1 rfl (by unfold maxLen; omega) rfl) HM1.out HM2.out (by have := HBV.out.sz; simp; omega) ?_); intro v8 w8 ho8 hg8 hat8; have HA8 := Lib.hid (HBV.out.app HBM.out HO.out HTO.out hg8 hat8 ⟨HNX.out.1, HNX.out.2.1, HNX.out.2.2.1⟩); have HO8 := Lib.hid ho8; clear ho8 hg8 hat8)
                go_roundw
                case rel => exact ⟨0 + 1, N2, [sp], bb, by go_num, by omega, rfl, by omega, HO8.out, rfl, fun _ => by have := HPQ.out; rw [List.drop_zero, hPb] at this; rw [this], HA8.out.1, HA8.out.2, HE.out⟩
                case measure => simp [intOf] <;> omega
--<<Z
        · skip
--<<B
          obtain ⟨o, oc, cur9, hv9, hob9, -⟩ := own_ne HO.out (by intro e; have := HOL.out; rw [e] at this; simp at this; omega)
          rw [HOL.out] at hv9
          subst hv9
          have hj1 : (0 : Int) < (j : Int) := by omega
          have hjz : ((j : Int) == 0) = false := by simp; omega
          obtain ⟨pv, hpv⟩ : ∃ pv, outL.getLast? = some pv := ⟨_, List.getLast?_eq_some_getLast (by intro e; have := HOL.out; rw [e] at this; simp at this; omega)⟩
          have HPV := Lib.hid hpv
          have HP0 := HPE.out outL.getLast?
          obtain ⟨P, hP9⟩ : ∃ P, pickG st outL.getLast? (g.zip LI) (-1, 0) = P := ⟨_, rfl⟩
          rw [hP9] at HP0
          have HPP := Lib.hid hP9
          have HPQ := Lib.hid HP0
          clear HP0 hP9 hpv
          go_wp2_with fail
          go_loopw [17, 18, 51] (fun b t c wr => ∃ k N2 bb sp, c = .int .i64 ((k : Nat) : Int) ∧ k ≤ rn ∧ b = .int .i64 bb ∧ t = .int .i64 sp ∧ -1 ≤ bb ∧ bb ≤ 1100000000000000 ∧ N2 ≤ N1 + k ∧ Hid (pickG st outL.getLast? ((g.zip LI).drop k) (bb, sp) = P) ∧ Hid (Go.V.Own 3 icod W2.heap.size wr (Value.slice (some ⟨o, 0, none⟩) j oc) outL) ∧ Hid (BV w W2 wr base tg mg N2 w1.heap.size (w1.heap.size + 1) w2.heap.size pn n hs hl ⟨xr, xm, xf, xc⟩ (fun j => bkL st (gs.drop j))) ∧ Hid (∀ g, (Value.slice (some ⟨o, 0, none⟩) j oc).ownBlock = some g → TOff wr mg g)) (fun _ _ c _ => rn - (intOf c).toNat)
          case atStart => exact ⟨0, N1, -1, 0, by go_num, by omega, rfl, rfl, by omega, by omega, by omega, by rw [List.drop_zero]; exact HPP.out, HO.out, HBV.out, HTO.out⟩
          case round =>
            clear HBV HO HTO HPP
            obtain ⟨k, N2, bb, sp, rfl, hk, rfl, rfl, bb0, bb1, hN2, HPG, HO, HBV, HTO⟩ := hrel
            by_cases hkl : k < rn
            · obtain ⟨b1, o1, p, e2, hbl1, hp, p0, p1⟩ := pnt_at (slq_chgm HMP.out HBV.out.chg HGQ.out) hkl
              have e2 : ra = _ := e2
              subst e2
              obtain ⟨ps, pq⟩ := p
              have hkn : k < LI.length := by have := HLL.out; have := HRN.out; omega
              obtain ⟨v, hv⟩ : ∃ v, LI[k]? = some v := ⟨_, List.getElem?_eq_getElem hkn⟩
              obtain ⟨vb0, vb1⟩ : -1 ≤ v ∧ v ≤ 1000000000000000 := HLV.out j v (by rw [HLI.out]; exact List.mem_of_getElem? hv)
              have hz : (g.zip LI)[k]? = some (⟨ps, pq⟩, v) := by
                rw [List.getElem?_zip_eq_some]; exact ⟨hp, hv⟩
              have hpg := HPG.out
              rw [drop_at hz] at hpg
              have hpg : pickG st outL.getLast? ((g.zip LI).drop (k + 1)) (pickAt st outL.getLast? ⟨ps, pq⟩ v (bb, sp)) = P := hpg
              have HPG1 := Lib.hid hpg
              have hcell := HBV.out.rng j hjl k _ (padV_at (l := bkL st (gs.drop j)) (by rw [HLI.out]; exact hv))
              have hjc9 : True := trivial
              have hh0 := (box_cell HBV.out.hdr 0).1
              have hh0 : wr.cell? ⟨w1.heap.size + 1, 0, none⟩ = some (.slice (some ⟨w1.heap.size, 0, none⟩) pn pn) := hh0
              have haw : w1.heap.size < wr.heap.size := by have := HBV.out.sz; omega
              have hahw : w1.heap.size + 1 < wr.heap.size := by have := HBV.out.sz; omega
              have hki : (k : Int) < (rn : Int) := by omega
              have hk16 : (k : Int) < 16 := by omega
              have HB5 := Lib.hid (HBV.out.below HBM.out ((Below.refl _ _).alloc (Nat.le_refl _) (.cells #[.int .i64 ps, .int .i64 pq] 141)))
              have HO5 := Lib.hid (HO.out.alloc (.cells #[.int .i64 ps, .int .i64 pq] 141))
              have HT5 : Hid (∀ g, (Value.slice (some ⟨o, 0, none⟩) j oc).ownBlock = some g → TOff (wr.alloc (.cells #[.int .i64 ps, .int .i64 pq] 141)) mg g) := fun g hg => (HTO.out g hg).same (Below.heap_alloc wr _ mg (by have := HBV.out.tab.mg_lt; omega))
              clear hp hv hz hpg HPG
              by_cases hv0 : 0 ≤ v
              · obtain ⟨sv, hsv⟩ : ∃ sv, st pv ps = sv := ⟨_, rfl⟩
                have hsb := HST0.out pv ps
                rw [hsv] at hsb
                have HSV := Lib.hid hsv
                have e1 : toE st outL.getLast? ps = sv := by rw [HPV.out]; exact hsv
                obtain ⟨cv, hcv⟩ : ∃ cv, v + sv = cv := ⟨_, rfl⟩
                have HST : Hid (0 ≤ sv → ∀ q, (cv, ps) = q → (bb < 0 ∨ cv < bb ∨ cv = bb ∧ ps < sp) → pickG st outL.getLast? ((g.zip LI).drop (k + 1)) q = P) := fun hs q hq hh => by
                  have := HPG1.out
                  rw [pickAt_eq, e1, Int.add_comm sv v, hcv, if_pos ⟨hv0, hs, hh⟩, hq] at this; exact this
                have HSF : Hid (¬ (0 ≤ sv ∧ (bb < 0 ∨ cv < bb ∨ cv = bb ∧ ps < sp)) → pickG st outL.getLast? ((g.zip LI).drop (k + 1)) (bb, sp) = P) := fun hh => by
                  have := HPG1.out
                  rw [pickAt_eq, e1, Int.add_comm sv v, hcv, if_neg (fun q => hh q.2)] at this; exact this
                have HCV : Hid (v + sv = cv) := hcv
                have hcb : -1 ≤ v + sv ∧ v + sv ≤ 1100000000000000 := by omega
                clear hsv e1 hcv
                go_upto_region 20 with fail
                obtain ⟨x0, x1, x2, x3⟩ := box4_cells HBV.out.xb
                have HX5 := Lib.hid (box_new wr (.cells #[.int .i64 ps, .int .i64 pq] 141))
                have hxbw : w.heap.size < wr.heap.size := box_lt HBV.out.xb
                obtain ⟨d9, hd9, q0, -, hol⟩ := icells HO.out HOL.out.symm (show j - 1 < j by omega)
                have hpv9 : d9 = pv := by
                  have h1 := HPV.out
                  rw [List.getLast?_eq_getElem?, HOL.out, hd9] at h1; exact Option.some.inj h1
                subst hpv9
                have i0 : (j : Int) - 1 = ((j - 1 : Nat) : Int) := by omega
                have i1 : IntKind.i64.wrap ((j : Int) - 1) = ((j - 1 : Nat) : Int) := by rw [IntWalk.i64_in _ (by omega)]; exact i0
                have i2 : ((j - 1 : Nat) : Int) < (j : Int) := by omega
                have HI0 := Lib.hid i0
                clear i0 hd9
                obtain ⟨W6, hW6⟩ : ∃ W6, wr.alloc (.cells #[.int .i64 ps, .int .i64 pq] 141) = W6 := ⟨_, rfl⟩
                have g0 : W6.cell? ⟨wr.heap.size, 0, none⟩ = some (.int .i64 ps) := by rw [← hW6]; exact (box_cell HX5.out 0).1
                have q6 : W6.cell? ⟨o, j - 1, none⟩ = some (.int .i64 d9) := by rw [← hW6, World.cell?_alloc_lt _ _ _ hol]; exact q0
                have z0 : W6.cell? ⟨w.heap.size, 0, none⟩ = some (.int .i64 xr) := by rw [← hW6, World.cell?_alloc_lt _ _ _ hxbw]; exact x0
                have z1 : W6.cell? ⟨w.heap.size, 1, none⟩ = some (.int .i64 xm) := by rw [← hW6, World.cell?_alloc_lt _ _ _ hxbw]; exact x1
                have z2 : W6.cell? ⟨w.heap.size, 2, none⟩ = some (.int .i64 xf) := by rw [← hW6, World.cell?_alloc_lt _ _ _ hxbw]; exact x2
                have z3 : W6.cell? ⟨w.heap.size, 3, none⟩ = some (.int .i64 xc) := by rw [← hW6, World.cell?_alloc_lt _ _ _ hxbw]; exact x3
                rw [hW6] at HB5 HO5 HT5 HX5 ⊢
                have HB6 := Lib.hid (HB5.out.below HBM.out (Below.drew (Below.refl _ _)))
                have HO6 := Lib.hid (HO5.out.below (Below.drew (Below.refl _ _)))
                have HX6 := Lib.hid (box_below HX5.out (Below.drew (Below.refl _ _)))
                have HT6 : Hid (∀ g, (Value.slice (some ⟨o, 0, none⟩) j oc).ownBlock = some g → TOff W6.drew mg g) := fun g hg => (HT5.out g hg).same rfl
                have hd : ∀ a, W6.drew.cell? a = W6.cell? a := fun a => rfl
                clear hW6 x0 x1 x2 x3 q0
                go_still_tail 9, (by kernel_rfl)
                repeat still_step
                clear hd
                by_cases hs0 : sv < 0
                · go_wp2_with (go_at_call 57; go_loud (refine (cstep_gen _ base tg mg N2 n hs hl ⟨xr, xm, xf, xc⟩ d9 ps HB6.out.tab HOK.out h60 h120 (by omega) hne).mono ?_); rintro e w6 ⟨rfl, ht6, hc6⟩; rw [HSTE.out, HSV.out]; have HB7 := Lib.hid (HB6.out.kq HBM.out ht6 (Kq.of_chg hc6.chg HB6.out.sz)); have HO7 := Lib.hid (own_chg HO6.out hc6.chg HNX.out.2.2.1); have HT7 : Hid (∀ g, (Value.slice (some ⟨o, 0, none⟩) j oc).ownBlock = some g → TOff w6 mg g) := (fun g hg => hc6.rows g (World.ownsRow.lt HO6.out g hg).2 (HT6.out g hg)); have HX7 := Lib.hid (hc6.chg.box HX6.out (by have := HBV.out.tab.mg_lt; omega) (by simp)); obtain ⟨y0, y1, -, -⟩ := box2_cells HX7.out; have hx7 : wr.heap.size < w6.heap.size := box_lt HX7.out; clear ht6 hc6)
                  go_roundw
                  case rel => exact ⟨k + 1, N2 + 1, bb, sp, by go_num, by omega, rfl, rfl, by omega, by omega, by omega, HSF.out (by omega), HO7.out, HB7.out, HT7.out⟩
                  case measure => simp [intOf] <;> omega
                · have hs1 : decide (sv < 0) = false := decide_eq_false hs0
                  have hs2 : 0 ≤ sv := by omega
                  have hcv := HCV.out
                  rw [hcv] at hcb
                  have hcv0 : 0 ≤ cv := by omega
                  by_cases hb0 : bb < 0
                  · skip
                    go_wp2_with (go_at_call 57; go_loud (refine (cstep_gen _ base tg mg N2 n hs hl ⟨xr, xm, xf, xc⟩ d9 ps HB6.out.tab HOK.out h60 h120 (by omega) hne).mono ?_); rintro e w6 ⟨rfl, ht6, hc6⟩; rw [HSTE.out, HSV.out]; have HB7 := Lib.hid (HB6.out.kq HBM.out ht6 (Kq.of_chg hc6.chg HB6.out.sz)); have HO7 := Lib.hid (own_chg HO6.out hc6.chg HNX.out.2.2.1); have HT7 : Hid (∀ g, (Value.slice (some ⟨o, 0, none⟩) j oc).ownBlock = some g → TOff w6 mg g) := (fun g hg => hc6.rows g (World.ownsRow.lt HO6.out g hg).2 (HT6.out g hg)); have HX7 := Lib.hid (hc6.chg.box HX6.out (by have := HBV.out.tab.mg_lt; omega) (by simp)); obtain ⟨y0, y1, -, -⟩ := box2_cells HX7.out; have hx7 : wr.heap.size < w6.heap.size := box_lt HX7.out; clear ht6 hc6)
                    go_quiet (fail)
                    go_wp2_with fail
                    go_roundw
                    case rel => exact ⟨k + 1, N2 + 1, _, _, by go_num, by omega, rfl, rfl, by omega, by omega, by omega, HST.out hs2 _ rfl (by first | omega | (have := HEQ.out; omega)), (by first | exact HO7.out | exact HO7.out.below (below_drewN (Below.refl _ _) _) | exact HO7.out.below (Below.drew (Below.refl _ _))), (by first | exact HB7.out | exact HB7.out.below HBM.out (below_drewN (Below.refl _ _) _) | exact HB7.out.below HBM.out (Below.drew (Below.refl _ _))), (fun g hg => (HT7.out g hg).same rfl)⟩
                    case measure => simp [intOf] <;> omega
                  · have hb1 : decide (bb < 0) = false := decide_eq_false hb0
                    by_cases hlt : cv < bb
                    · skip
                      go_wp2_with (go_at_call 57; go_loud (refine (cstep_gen _ base tg mg N2 n hs hl ⟨xr, xm, xf, xc⟩ d9 ps HB6.out.tab HOK.out h60 h120 (by omega) hne).mono ?_); rintro e w6 ⟨rfl, ht6, hc6⟩; rw [HSTE.out, HSV.out]; have HB7 := Lib.hid (HB6.out.kq HBM.out ht6 (Kq.of_chg hc6.chg HB6.out.sz)); have HO7 := Lib.hid (own_chg HO6.out hc6.chg HNX.out.2.2.1); have HT7 : Hid (∀ g, (Value.slice (some ⟨o, 0, none⟩) j oc).ownBlock = some g → TOff w6 mg g) := (fun g hg => hc6.rows g (World.ownsRow.lt HO6.out g hg).2 (HT6.out g hg)); have HX7 := Lib.hid (hc6.chg.box HX6.out (by have := HBV.out.tab.mg_lt; omega) (by simp)); obtain ⟨y0, y1, -, -⟩ := box2_cells HX7.out; have hx7 : wr.heap.size < w6.heap.size := box_lt HX7.out; clear ht6 hc6)
                      go_quiet (fail)
                      go_wp2_with fail
                      go_roundw
                      case rel => exact ⟨k + 1, N2 + 1, _, _, by go_num, by omega, rfl, rfl, by omega, by omega, by omega, HST.out hs2 _ rfl (by first | omega | (have := HEQ.out; omega)), (by first | exact HO7.out | exact HO7.out.below (below_drewN (Below.refl _ _) _) | exact HO7.out.below (Below.drew (Below.refl _ _))), (by first | exact HB7.out | exact HB7.out.below HBM.out (below_drewN (Below.refl _ _) _) | exact HB7.out.below HBM.out (Below.drew (Below.refl _ _))), (fun g hg => (HT7.out g hg).same rfl)⟩
                      case measure => simp [intOf] <;> omega
                    · have hb2 : decide (cv < bb) = false := decide_eq_false hlt
                      by_cases heq : cv = bb
                      · have hb3 : (cv == bb) = true := by simpa using heq
                        by_cases hps : ps < sp
                        · skip
                          have HEQ := Lib.hid heq
                          clear heq
                          go_wp2_with (go_at_call 57; go_loud (refine (cstep_gen _ base tg mg N2 n hs hl ⟨xr, xm, xf, xc⟩ d9 ps HB6.out.tab HOK.out h60 h120 (by omega) hne).mono ?_); rintro e w6 ⟨rfl, ht6, hc6⟩; rw [HSTE.out, HSV.out]; have HB7 := Lib.hid (HB6.out.kq HBM.out ht6 (Kq.of_chg hc6.chg HB6.out.sz)); have HO7 := Lib.hid (own_chg HO6.out hc6.chg HNX.out.2.2.1); have HT7 : Hid (∀ g, (Value.slice (some ⟨o, 0, none⟩) j oc).ownBlock = some g → TOff w6 mg g) := (fun g hg => hc6.rows g (World.ownsRow.lt HO6.out g hg).2 (HT6.out g hg)); have HX7 := Lib.hid (hc6.chg.box HX6.out (by have := HBV.out.tab.mg_lt; omega) (by simp)); obtain ⟨y0, y1, -, -⟩ := box2_cells HX7.out; have hx7 : wr.heap.size < w6.heap.size := box_lt HX7.out; clear ht6 hc6)
                          go_quiet (fail)
                          go_wp2_with fail
                          go_roundw
                          case rel => exact ⟨k + 1, N2 + 1, _, _, by go_num, by omega, rfl, rfl, by omega, by omega, by omega, HST.out hs2 _ rfl (by first | omega | (have := HEQ.out; omega)), (by first | exact HO7.out | exact HO7.out.below (below_drewN (Below.refl _ _) _) | exact HO7.out.below (Below.drew (Below.refl _ _))), (by first | exact HB7.out | exact HB7.out.below HBM.out (below_drewN (Below.refl _ _) _) | exact HB7.out.below HBM.out (Below.drew (Below.refl _ _))), (fun g hg => (HT7.out g hg).same rfl)⟩
                          case measure => simp [intOf] <;> omega
                        · have hb4 : decide (ps < sp) = false := decide_eq_false hps
                          have HEQ := Lib.hid heq
                          clear heq
                          go_wp2_with (go_at_call 57; go_loud (refine (cstep_gen _ base tg mg N2 n hs hl ⟨xr, xm, xf, xc⟩ d9 ps HB6.out.tab HOK.out h60 h120 (by omega) hne).mono ?_); rintro e w6 ⟨rfl, ht6, hc6⟩; rw [HSTE.out, HSV.out]; have HB7 := Lib.hid (HB6.out.kq HBM.out ht6 (Kq.of_chg hc6.chg HB6.out.sz)); have HO7 := Lib.hid (own_chg HO6.out hc6.chg HNX.out.2.2.1); have HT7 : Hid (∀ g, (Value.slice (some ⟨o, 0, none⟩) j oc).ownBlock = some g → TOff w6 mg g) := (fun g hg => hc6.rows g (World.ownsRow.lt HO6.out g hg).2 (HT6.out g hg)); have HX7 := Lib.hid (hc6.chg.box HX6.out (by have := HBV.out.tab.mg_lt; omega) (by simp)); obtain ⟨y0, y1, -, -⟩ := box2_cells HX7.out; have hx7 : wr.heap.size < w6.heap.size := box_lt HX7.out; clear ht6 hc6)
                          go_roundw
                          case rel => exact ⟨k + 1, N2 + 1, bb, sp, by go_num, by omega, rfl, rfl, by omega, by omega, by omega, HSF.out (by first | omega | (have := HEQ.out; omega)), (by first | exact HO7.out | exact HO7.out.below (below_drewN (Below.refl _ _) _) | exact HO7.out.below (Below.drew (Below.refl _ _))), (by first | exact HB7.out | exact HB7.out.below HBM.out (below_drewN (Below.refl _ _) _) | exact HB7.out.below HBM.out (Below.drew (Below.refl _ _))), (fun g hg => (HT7.out g hg).same rfl)⟩
                          case measure => simp [intOf] <;> omega
                      · have hb3 : (cv == bb) = false := by simpa using heq
                        have HEQ := Lib.hid heq
                        clear heq
                        go_wp2_with (go_at_call 57; go_loud (refine (cstep_gen _ base tg mg N2 n hs hl ⟨xr, xm, xf, xc⟩ d9 ps HB6.out.tab HOK.out h60 h120 (by omega) hne).mono ?_); rintro e w6 ⟨rfl, ht6, hc6⟩; rw [HSTE.out, HSV.out]; have HB7 := Lib.hid (HB6.out.kq HBM.out ht6 (Kq.of_chg hc6.chg HB6.out.sz)); have HO7 := Lib.hid (own_chg HO6.out hc6.chg HNX.out.2.2.1); have HT7 : Hid (∀ g, (Value.slice (some ⟨o, 0, none⟩) j oc).ownBlock = some g → TOff w6 mg g) := (fun g hg => hc6.rows g (World.ownsRow.lt HO6.out g hg).2 (HT6.out g hg)); have HX7 := Lib.hid (hc6.chg.box HX6.out (by have := HBV.out.tab.mg_lt; omega) (by simp)); obtain ⟨y0, y1, -, -⟩ := box2_cells HX7.out; have hx7 : wr.heap.size < w6.heap.size := box_lt HX7.out; clear ht6 hc6)
                        go_roundw
                        case rel => exact ⟨k + 1, N2 + 1, bb, sp, by go_num, by omega, rfl, rfl, by omega, by omega, by omega, HSF.out (by first | omega | (have := HEQ.out; omega)), (by first | exact HO7.out | exact HO7.out.below (below_drewN (Below.refl _ _) _) | exact HO7.out.below (Below.drew (Below.refl _ _))), (by first | exact HB7.out | exact HB7.out.below HBM.out (below_drewN (Below.refl _ _) _) | exact HB7.out.below HBM.out (Below.drew (Below.refl _ _))), (fun g hg => (HT7.out g hg).same rfl)⟩
                        case measure => simp [intOf] <;> omega
              · have hd0 : decide (0 ≤ v) = false := decide_eq_false hv0
                have HP2 : Hid (pickG st outL.getLast? ((g.zip LI).drop (k + 1)) (bb, sp) = P) := by
                  have := HPG1.out
                  rw [pickAt_eq, if_neg (fun q => hv0 q.1)] at this; exact this
                go_wp2_with fail
                go_roundw
                case rel => exact ⟨k + 1, N2, bb, sp, by go_num, by omega, rfl, rfl, by omega, by omega, by omega, HP2.out, HO5.out, HB5.out, HT5.out⟩
                case measure => simp [intOf] <;> omega
            · have hkn : rn = k := by omega
              subst hkn
              have hPb : P = (bb, sp) := by
                have := HPG.out
                rw [List.drop_of_length_le (by rw [List.length_zip]; have := HRN.out; omega)] at this
                exact this.symm
              have HGC : Hid (goE st gs none = (if bb < 0 then none else (goE st (gs.drop (j + 1)) (some sp)).map (sp :: ·)).map (outL ++ ·)) := by
                have h1 := HGO.out
                have h2 := HPQ.out
                rw [HD.out] at h1 h2
                rw [goE_cons] at h1
                have h3 : pickE st (outL.getLast?) (g :: gs.drop (j + 1)) = P := h2
                rw [h3, hPb] at h1
                exact h1
              by_cases hb0 : bb < 0
              · have HE : Hid (goE st gs none = none) := by
                  have := HGC.out
                  rw [if_pos hb0] at this; exact this
                go_wp2_with fail
                refine ⟨by simp, .inl ⟨_, _, rfl, run_takeDeferred HBV.out.def_, ?_⟩⟩
                refine ⟨_, results_tmp3 rfl _ _ _, ?_⟩
                obtain ⟨f1, f2⟩ := HBV.out.done (by have := HDD.out; omega) (by have := HDD.out; omega) (by have := HDD.out; omega) (by have := HDD.out; omega) (.deferred none)
                rw [HSTE.out]
                refine ⟨f1.upto (by omega), f2, fun h => ?_, fun l hl => ?_⟩
                · rfl
                · rw [HE.out] at hl; cases hl
              · have hbd : decide (bb < 0) = false := decide_eq_false hb0
                have HE : Hid (goE st gs none = (goE st (gs.drop (j + 1)) (outL ++ [sp]).getLast?).map ((outL ++ [sp]) ++ ·)) := by
                  have := HGC.out
                  rw [if_neg hb0] at this
                  show _ = _
                  rw [this, map_one, last_one]
                have HM1 : Hid ((outL : List Int).length + 1 ≤ maxLen) := by show _ ≤ _; rw [HOL.out]; unfold maxLen; omega
                have HM2 : Hid (((outL : List Int).length + 1) * 8 ≤ 140737488355328) := by show _ ≤ _; rw [HOL.out]; omega
                go_wp2_with (at_builtin; go_loud (refine wpList_app_at eltI rfl (.tmp 114) (.tmp 116) rfl (base := W2.heap.size) _ outL rfl (HO.out.alloc _) _ 1 1 [sp] rfl (sl_new (c := icod) _ #[.int .i64 sp] 3 [sp] 1 rfl (by unfold maxLen; omega) rfl) HM1.out HM2.out (by have := HBV.out.sz; simp; omega) ?_); intro v8 w8 ho8 hg8 hat8; have HA8 := Lib.hid (HBV.out.app HBM.out HO.out HTO.out hg8 hat8 ⟨HNX.out.1, HNX.out.2.1, HNX.out.2.2.1⟩); have HO8 := Lib.hid ho8; clear ho8 hg8 hat8)
                go_roundw
                case rel => exact ⟨j + 1, N2, outL ++ [sp], lq, by go_num, by omega, rfl, by omega, HO8.out, by show _ = _; rw [List.length_append, HOL.out]; rfl, fun _ => HLQ.out (by omega), HA8.out.1, HA8.out.2, HE.out⟩
                case measure => simp [intOf] <;> omega
--<<Y
      · have hjn : pn = j := by omega
        subst hjn
        have HE : Hid (goE st gs none = some outL) := by
          have := HGO.out
          rw [List.drop_of_length_le (by rw [← HPL.out]; exact Nat.le_refl _)] at this
          have e : goE st [] outL.getLast? = some [] := rfl
          rw [e] at this
          show _ = _
          simpa using this
        have HLQ2 : Hid (lq = (pickE st none gs).1) := HLQ.out (by
          rcases Nat.eq_zero_or_pos pn with e | e
          · exfalso
            have h1 := HPL.out
            exact HNE.out (List.eq_nil_of_length_eq_zero (by omega))
          · exact e)
        go_wp2_with fail
        refine ⟨by simp, .inl ⟨_, _, rfl, run_takeDeferred HBV.out.def_, ?_⟩⟩
        refine ⟨_, results_tmp3 rfl _ _ _, ?_⟩
        obtain ⟨f1, f2⟩ := HBV.out.done (by have := HDD.out; omega) (by have := HDD.out; omega) (by have := HDD.out; omega) (by have := HDD.out; omega) (.deferred none)
        rw [HSTE.out]
        refine ⟨f1.upto (by omega), f2, fun h => ?_, fun l hl => ?_⟩
        · rw [HE.out] at h; cases h
        · rw [HE.out] at hl
          cases hl
          exact ⟨_, (by rw [← HLQ2.out]; rfl), (own_done HO.out (by have := HDD.out; omega) _).lower (by have := HNX.out; omega)⟩
end Go.Proofs.YtlfbbahihenilaaGreat.Ne
