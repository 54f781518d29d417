/- Ways: legs, gathered: walked. -/
/- Ways: legs, the document's word: walked. -/
import Derived.Test.YtlfbbahihenilaaGreatMg11
import Derived.Test.YtlfbbahihenilaaGreatMhCnC
import Derived.Test.YtlfbbahihenilaaGreatMg05
namespace Go.Proofs.YtlfbbahihenilaaGreat.Ne
open Go.RowKit Go.V Go.Shelf Go.Proofs

attribute [local go_sem] Oper.semAt_some

theorem infoLg : (Tryz.prog.info? 53).map (fun i => (i.zero, i.size, i.bytes)) = some (some (.agg #[.int .i64 0, .int .i64 0, .int .i64 0, .int .i64 0]), 4, 32) := by kernel_rfl
theorem eltLg : Elt Tryz.prog 37 53 Lg.cod 32 := Elt.of Tryz.underlying37 infoLg rfl (by decide)
theorem chg_below {w W W' : World} {g : Nat} (h : Chg w W g none) (hb : Below w.heap.size W W') : Chg w W' g none :=
  ⟨hb.os.trans h.os, hb.tape.trans h.tape, hb.output.trans h.output, Nat.le_trans h.size hb.size, fun k hk h1 h2 => (hb.block k hk).trans (h.block k hk h1 h2)⟩
/-- Between two rounds. -/
structure LgJ (w W1 : World) (Ba Bl l D : Nat) (o : Obj) (pre : List Lg) (W : World) : Prop where
  out : ∃ v, W.heap[Ba]? = some (.cells #[v] 37 (0, 0)) ∧ V.Own 53 Lg.cod W1.heap.size W v pre
  rcd : W.heap[l]? = some o
  def_ : W.heap[D]? = some (.deferred (some []))
  chg : Chg w W Bl none
  sz : W1.heap.size ≤ W.heap.size
  kp : ∀ k, k < W1.heap.size → k ≠ Ba → k ≠ l → k ≠ Bl → W.heap[k]? = W1.heap[k]?
theorem LgJ.below {w W1 W W' : World} {Ba Bl l D : Nat} {o : Obj} {pre : List Lg} (h : LgJ w W1 Ba Bl l D o pre W) (hb : Below W.heap.size W W') : LgJ w W1 Ba Bl l D o pre W' := by
  obtain ⟨v, h1, h2⟩ := h.out
  exact ⟨⟨v, box_below h1 hb, h2.below hb⟩, box_below h.rcd hb, box_below h.def_ hb, chg_below h.chg (hb.mono h.chg.size), Nat.le_trans h.sz hb.size, fun k hk h3 h4 h5 => (hb.block k (Nat.lt_of_lt_of_le hk h.sz)).trans (h.kp k hk h3 h4 h5)⟩
theorem LgJ.set {w W1 W : World} {Ba Bl l D : Nat} {o : Obj} {pre : List Lg} (h : LgJ w W1 Ba Bl l D o pre W) (h1 : Bl ≠ Ba) (h2 : Bl ≠ l) (h3 : Bl ≠ D) (h4 : Bl < W1.heap.size) (u : Value) : LgJ w W1 Ba Bl l D o pre (W.setCell ⟨Bl, 0, none⟩ u) := by
  have hg := setCell_grown W Bl u
  obtain ⟨v, k1, k2⟩ := h.out
  have oth : ∀ k, k ≠ Bl → (W.setCell ⟨Bl, 0, none⟩ u).heap[k]? = W.heap[k]? := fun k hk => heap_setCell_other _ ⟨Bl, 0, none⟩ k u hk
  refine ⟨⟨v, (oth _ h1.symm).trans k1, k2.kept hg (.inr fun q => by have := (World.ownsRow.lt k2 _ q).1; omega)⟩, (oth _ h2.symm).trans h.rcd, (oth _ h3.symm).trans h.def_, h.chg.trans (Chg.of_grown hg Bl none (fun k hk => .inl (Option.some.inj hk).symm)) (.inl rfl), Nat.le_trans h.sz hg.size, fun k hk e1 e2 e3 => (oth k e3).trans (h.kp k hk e1 e2 e3)⟩

set_option maxHeartbeats 8000000 in
set_option maxRecDepth 100000 in
theorem appendseq_any (Bl Br : Nat) (a0 : Option Addr) (n0 c0 : Nat) (R0 : List Rn) (least : Int) (w : World)
    (hbl : w.heap[Bl]? = some (.cells #[.slice a0 n0 c0] 36 (0, 0))) (hbr : w.heap[Br]? = some (.cells #[.int .i64 least] 3 (0, 0))) (hne : Bl ≠ Br)
    (hR : Sl Rn.cod w a0 n0 c0 R0) (hok : RunsOk R0) (hn : n0 ≤ 1000000) (hla : ∀ d, a0 = some d → 0 < c0 → d.block ≠ Bl) :
    Calls Tryz.prog 100 #[.slice none 0 0, .func (.func 101) #[] #[.pointer (some ⟨Bl, 0, none⟩), .pointer (some ⟨Br, 0, none⟩)]] w fun e w' => ∃ v, e = .returned v ∧ V.Own 53 Lg.cod w.heap.size w' v (legsE R0 least) ∧ Chg w w' Bl none := by
  have mixed : Tryz.prog.follows .mixedOrders = true := by kernel_rfl
  have hll0 := box_lt hbl
  have hlr0 := box_lt hbr
  have A2 : Hid ((w.alloc (.cells #[.slice none 0 0] 37)).heap[w.heap.size]? = some (.cells #[.slice none 0 0] 37 (0, 0))) := box_new w _
  have hs2 : (w.alloc (.cells #[.slice none 0 0] 37)).heap.size = w.heap.size + 1 := by simp
  have B2 : Hid (Below w.heap.size w (w.alloc (.cells #[.slice none 0 0] 37))) := (Below.refl _ _).alloc (Nat.le_refl _) _
  have HLL : Hid ((legsE R0 least).length ≤ 1000000) := by
    have := (legs_ok least R0.length R0 (Nat.le_refl _) hok).2.2
    have h2 := hR.hlen
    show _ ≤ _
    omega
  have HBL := Lib.hid hbl
  have HBR := Lib.hid hbr
  have HR := Lib.hid hR
  have HOK := Lib.hid hok
  have HLA := Lib.hid hla
  clear hbl hbr hR hok hla
  refine (callsIn_wide (n := 8)).1 ?_
  refine callsIn_of_wp_marks Tryz.func100 rfl trivial ?_ rfl
  simp only [Tryz.ntmps100, List.size_toArray, List.length_cons, List.length_nil, Nat.reduceAdd, Nat.reduceSub, Array.replicate_succ, Array.replicate_zero, List.push_toArray, List.append_toArray, List.nil_append, List.cons_append]
  rw [wpIn_wide]
  go_upto_block 0 with fail
  obtain ⟨w2, hw2⟩ : ∃ w2, w.alloc (.cells #[.slice none 0 0] 37) = w2 := ⟨_, rfl⟩
  rw [hw2] at A2 B2 hs2 ⊢
  have HZ2 := Lib.hid hs2
  clear hw2 hs2
  rw [← wpIn_wide (n := 8)]
  gi_wp2
  refine range_named (by omega) rfl (enters_of Tryz.func101 (by kernel_rfl) rfl) ?_
  intro fn L0 W1 hL hl1 hd1 hb1 hsz
  have HL := Lib.hid hL
  have HSZ := Lib.hid hsz
  have hz : w2.heap.size ≤ w.heap.size + 1 := Nat.le_of_eq HZ2.out
  have hz' : w.heap.size + 1 ≤ w2.heap.size := Nat.le_of_eq HZ2.out.symm
  have HBW1 : Hid (Below w.heap.size w W1) := B2.out.trans (hb1.mono B2.out.size)
  have hll : w2.heap.size + 1 < W1.heap.size := by have := HSZ.out; omega
  clear hL hsz
  have HKB : Hid (∀ k, k < w.heap.size → W1.heap[k]? = w.heap[k]?) := fun k hk => HBW1.out.block k hk
  refine (legs1_in 7 (w2.heap.size + 1) Bl Br w.heap.size a0 n0 c0 R0 least (LgJ w W1 w.heap.size Bl (w2.heap.size + 1) w2.heap.size (L0 .ready none)) W1 (by omega) ((HKB.out _ hll0).trans HBL.out) ((HKB.out _ hlr0).trans HBR.out) ⟨by omega, by omega, by omega, by omega, hne⟩ (HR.out.below HBW1.out) HOK.out ?la (fun pre W j => ⟨j.sz, j.kp⟩) (fun pre W W' j hb => j.below hb) (fun pre W u j => j.set (by omega) (by omega) (by omega) (by omega) u) ?yields ?start).mono ?_
  case la =>
    intro d hd h0
    have h1 := (HR.out.hat d hd h0).2.1
    have h2 := HLA.out d hd h0
    exact ⟨by omega, by omega, h2⟩
  case start => exact ⟨⟨_, (hb1.block _ (by omega)).trans A2.out, Own.nil⟩, hl1, hd1, Chg.of_below HBW1.out _ _, Nat.le_refl _, fun _ _ _ _ _ => rfl⟩
  case yields =>
    rintro pre ⟨xa, xb, xc, xd⟩ rest W hsp ⟨⟨v, j1, j2⟩, j3, j4, j5, j6, j7⟩
    refine yield_named HL.out j3 rfl ?_
    have hlen : pre.length ≤ 1000000 := by
      have e1 := congrArg List.length hsp
      rw [List.length_append, List.length_cons] at e1
      have := HLL.out
      omega
    clear hsp
    obtain ⟨va, vc, hv, -⟩ := j2.slice
    dsimp only [encL]
    gi_wp2
    refine ⟨box_alloc j3, ?_⟩
    have hltW : w2.heap.size + 1 < W.heap.size := (Array.getElem?_eq_some_iff.1 j3).1
    have hgb := grownBy_putObj' (W.alloc (.cells #[.int .i64 xa, .int .i64 xb, .int .i64 xc, .int .i64 xd] 53)) (w2.heap.size + 1) (L0 .busy none)
    have v1 : Hid (((W.alloc (.cells #[.int .i64 xa, .int .i64 xb, .int .i64 xc, .int .i64 xd] 53)).putObj (w2.heap.size + 1) (L0 .busy none)).heap[w.heap.size]? = some (.cells #[v] 37 (0, 0))) := (World.putObj_heap_other (by omega)).trans (box_alloc j1)
    have v2 : Hid (V.Own 53 Lg.cod W1.heap.size ((W.alloc (.cells #[.int .i64 xa, .int .i64 xb, .int .i64 xc, .int .i64 xd] 53)).putObj (w2.heap.size + 1) (L0 .busy none)) v pre) := (j2.alloc _).kept hgb (.inr fun q => by have := (World.ownsRow.lt j2 _ q).1; omega)
    have v3 : Hid (((W.alloc (.cells #[.int .i64 xa, .int .i64 xb, .int .i64 xc, .int .i64 xd] 53)).putObj (w2.heap.size + 1) (L0 .busy none)).heap[W.heap.size]? = some (.cells #[.int .i64 xa, .int .i64 xb, .int .i64 xc, .int .i64 xd] 53 (0, 0))) := (World.putObj_heap_other (by omega)).trans (box_new _ _)
    have v4 : Hid (((W.alloc (.cells #[.int .i64 xa, .int .i64 xb, .int .i64 xc, .int .i64 xd] 53)).putObj (w2.heap.size + 1) (L0 .busy none)).heap[w2.heap.size + 1]? = some (L0 .busy none)) := World.putObj_heap_same (by simp; omega)
    have v5 : Hid (((W.alloc (.cells #[.int .i64 xa, .int .i64 xb, .int .i64 xc, .int .i64 xd] 53)).putObj (w2.heap.size + 1) (L0 .busy none)).heap[w2.heap.size]? = some (.deferred (some []))) := (World.putObj_heap_other (by omega)).trans (box_alloc j4)
    have hbq : Below w.heap.size W ((W.alloc (.cells #[.int .i64 xa, .int .i64 xb, .int .i64 xc, .int .i64 xd] 53)).putObj (w2.heap.size + 1) (L0 .busy none)) := ((Below.refl w.heap.size W).alloc (by omega) _).grown hgb (by simp; omega) (fun k hk => by cases hk; omega)
    have v6 : Hid (Chg w ((W.alloc (.cells #[.int .i64 xa, .int .i64 xb, .int .i64 xc, .int .i64 xd] 53)).putObj (w2.heap.size + 1) (L0 .busy none)) Bl none) := chg_below j5 hbq
    have v7 : Hid (∀ k, k < W1.heap.size → k ≠ w.heap.size → k ≠ w2.heap.size + 1 → k ≠ Bl → ((W.alloc (.cells #[.int .i64 xa, .int .i64 xb, .int .i64 xc, .int .i64 xd] 53)).putObj (w2.heap.size + 1) (L0 .busy none)).heap[k]? = W1.heap[k]?) := fun k hk h2 h3 h4 => (World.putObj_heap_other (fun e => h3 e)).trans ((Below.heap_alloc W _ k (by omega)).trans (j7 k hk h2 h3 h4))
    have v8 : Hid (((W.alloc (.cells #[.int .i64 xa, .int .i64 xb, .int .i64 xc, .int .i64 xd] 53)).putObj (w2.heap.size + 1) (L0 .busy none)).heap.size = W.heap.size + 1) := by show _ = _; simp
    have v10 : Hid (((W.alloc (.cells #[.int .i64 xa, .int .i64 xb, .int .i64 xc, .int .i64 xd] 53)).putObj (w2.heap.size + 1) (L0 .busy none)).heap[Bl]? = W.heap[Bl]?) := (World.putObj_heap_other (by omega)).trans (Below.heap_alloc W _ Bl (by omega))
    obtain ⟨V, hV⟩ : ∃ V, (W.alloc (.cells #[.int .i64 xa, .int .i64 xb, .int .i64 xc, .int .i64 xd] 53)).putObj (w2.heap.size + 1) (L0 .busy none) = V := ⟨_, rfl⟩
    rw [hV] at v1 v2 v3 v4 v5 v6 v7 v8 v10 ⊢
    clear hV hgb hbq
    have v9 : W1.heap.size ≤ V.heap.size := by have := v8.out; omega
    subst hv
    have q1 : V.cell? ⟨w.heap.size, 0, none⟩ = some (.slice va pre.length vc) := (box_cell v1.out 0).1
    have q1f : V.frozen? ⟨w.heap.size, 0, none⟩ = false := (box_cell v1.out 0).2
    have q2 : V.cell? ⟨W.heap.size, 0, none⟩ = some (.int .i64 xa) := (box_cell v3.out 0).1
    have q3 : V.cell? ⟨W.heap.size, 1, none⟩ = some (.int .i64 xb) := (box_cell v3.out 1).1
    have q4 : V.cell? ⟨W.heap.size, 2, none⟩ = some (.int .i64 xc) := (box_cell v3.out 2).1
    have q5 : V.cell? ⟨W.heap.size, 3, none⟩ = some (.int .i64 xd) := (box_cell v3.out 3).1
    have HLS : Hid ((pre ++ [(⟨xa, xb, xc, xd⟩ : Lg)]).length = pre.length + 1) := by show _ = _; simp
    have hmx1 : Hid (pre.length + 1 ≤ maxLen) := by show _ ≤ _; unfold maxLen; omega
    have hmx2 : Hid ((pre.length + 1) * 32 ≤ 140737488355328) := by show _ ≤ _; omega
    clear j1 j2 j3 j4 j5 j6 j7 hl1 hd1
    gi_wp2_with (gi_at_builtin; go_loud (refine wpListIn_app eltLg rfl _ _ rfl (.slice va pre.length vc) pre (by simp [Act.eval]) (v2.out.alloc _) ⟨V.heap.size, 0, none⟩ 1 1 [⟨xa, xb, xc, xd⟩] (by simp [Act.eval]) (sl_new (c := Lg.cod) V #[.int .i64 xa, .int .i64 xb, .int .i64 xc, .int .i64 xd] 53 [⟨xa, xb, xc, xd⟩] 1 rfl (by unfold maxLen; omega) rfl) hmx1.out hmx2.out (by simp; omega) ?_); intro v' V2 hown hgr; obtain ⟨a', c', ev', -⟩ := hown.slice; rw [HLS.out] at ev'; subst ev'; have HO := Lib.hid hown; have HG := Lib.hid hgr; have HB2 : Hid (V2.heap[w.heap.size]? = some (.cells #[.slice va pre.length vc] 37 (0, 0))) := (hgr.block _ (by simp; omega) (fun q => by have := (World.ownsRow.lt v2.out _ q.symm).1; omega)).trans (box_alloc v1.out); obtain ⟨r0, r0f⟩ := box_cell HB2.out 0; have r0 : V2.cell? ⟨w.heap.size, 0, none⟩ = some (.slice va pre.length vc) := r0; have hblt := box_lt HB2.out; clear hown hgr)
    have hoth : ∀ k, k ≠ w.heap.size → (V2.setCell ⟨w.heap.size, 0, none⟩ (.slice a' (pre.length + 1) c')).heap[k]? = V2.heap[k]? := fun k hk => heap_setCell_other _ _ _ _ hk
    have hold : ∀ k, k < V.heap.size → k < W1.heap.size ∨ k ≤ w2.heap.size + 1 → V2.heap[k]? = V.heap[k]? := fun k hk hk2 => (HG.out.block k (by simp; omega) (fun q => by have := (World.ownsRow.lt v2.out _ q.symm).1; omega)).trans (Below.heap_alloc V _ k hk)
    have hgs := setCell_grown V2 w.heap.size (.slice a' (pre.length + 1) c')
    have hgp := grownBy_putObj' (V2.setCell ⟨w.heap.size, 0, none⟩ (.slice a' (pre.length + 1) c')) (w2.heap.size + 1) (L0 .ready none)
    have hne1 := fun q => (World.ownsRow.lt HO.out w.heap.size q).1
    have hne2 := fun q => (World.ownsRow.lt HO.out (w2.heap.size + 1) q).1
    have h2s : V.heap.size ≤ V2.heap.size := by have := HG.out.size; simp at this; omega
    have hb1' : Below w.heap.size V V2 := ⟨HG.out.os, HG.out.tape, HG.out.output, h2s, fun k hk => hold k (by omega) (.inl (by omega))⟩
    have hb2' : Below w.heap.size V (V2.setCell ⟨w.heap.size, 0, none⟩ (.slice a' (pre.length + 1) c')) := hb1'.setCell (p := ⟨w.heap.size, 0, none⟩) (Nat.le_refl _) _
    have hb3' := hb2'.grown hgp (by simp; omega) (fun k hk => by have := Option.some.inj hk; omega)
    refine ⟨(hoth _ (by omega)).trans ((hold _ (by omega) (.inr (Nat.le_refl _))).trans v4.out), ⟨⟨_, (World.putObj_heap_other (by omega)).trans (heap_setCell_same V2 w.heap.size 0 _ _ _ HB2.out), (HO.out.kept hgs (.inr fun q => by have := hne1 q; omega)).kept hgp (.inr fun q => by have := hne2 q; omega)⟩, World.putObj_heap_same (by simp; omega), (World.putObj_heap_other (by omega)).trans ((hoth _ (by omega)).trans ((hold _ (by omega) (.inr (by omega))).trans v5.out)), chg_below v6.out hb3', by simp; omega, fun k hk h1 h2 h3 => (World.putObj_heap_other (fun e => h2 e)).trans ((hoth k h1).trans ((hold k (by omega) (.inl hk)).trans (v7.out k hk h1 h2 h3)))⟩, (World.putObj_heap_other (by omega)).trans ((hoth Bl (by omega)).trans ((hold Bl (by omega) (.inl (by omega))).trans v10.out))⟩
  rintro e W2 ⟨⟨v, rfl⟩, hJ⟩
  refine ⟨⟨_, rfl⟩, .inl ⟨hJ.rcd, ?_⟩⟩
  obtain ⟨v, o1, o2⟩ := hJ.out
  have hszJ := hJ.sz
  have hgp := grownBy_putObj' W2 (w2.heap.size + 1) (L0 .exhausted none)
  have hbp : Below w.heap.size W2 (W2.putObj (w2.heap.size + 1) (L0 .exhausted none)) := (Below.refl w.heap.size W2).grown hgp (by omega) (fun k hk => by have := Option.some.inj hk; omega)
  have u1 : Hid ((W2.putObj (w2.heap.size + 1) (L0 .exhausted none)).heap[w.heap.size]? = some (.cells #[v] 37 (0, 0))) := (World.putObj_heap_other (by omega)).trans o1
  have u2 : Hid ((W2.putObj (w2.heap.size + 1) (L0 .exhausted none)).heap[w2.heap.size]? = some (.deferred (some []))) := (World.putObj_heap_other (by omega)).trans hJ.def_
  have u3 : Hid (Chg w (W2.putObj (w2.heap.size + 1) (L0 .exhausted none)) Bl none) := chg_below hJ.chg hbp
  have u4 : Hid (V.Own 53 Lg.cod W1.heap.size (W2.putObj (w2.heap.size + 1) (L0 .exhausted none)) v (legsE R0 least)) := o2.kept hgp (.inr fun q => by have := (World.ownsRow.lt o2 _ q).1; omega)
  obtain ⟨V, hV⟩ : ∃ V, W2.putObj (w2.heap.size + 1) (L0 .exhausted none) = V := ⟨_, rfl⟩
  rw [hV] at u1 u2 u3 u4 ⊢
  clear hV hgp hJ o1 o2 hl1 hd1 hbp
  have q1 : V.cell? ⟨w.heap.size, 0, none⟩ = some v := (box_cell u1.out 0).1
  gi_wp2
  go_wp2_with fail
  refine ⟨by simp, .inl ⟨_, _, rfl, run_takeDeferred u2.out, ?_⟩⟩
  refine ⟨_, results_tmp rfl _ _ _, ?_⟩
  refine ⟨_, rfl, ?_, chg_below u3.out ((Below.refl _ V).grown (grownBy_putObj' _ _ _) (by have := u3.out.size; omega) (fun k hk => by have := Option.some.inj hk; omega))⟩
  refine Own.lower (base := W1.heap.size) (Go.V.Own.kept u4.out (grownBy_putObj' _ _ _) (.inr fun q => ?_)) (by omega)
  have := (World.ownsRow.lt u4.out _ q).1
  omega

set_option maxHeartbeats 2000000 in
set_option maxRecDepth 100000 in
theorem collect_any (Bl Br : Nat) (a0 : Option Addr) (n0 c0 : Nat) (R0 : List Rn) (least : Int) (w : World)
    (hbl : w.heap[Bl]? = some (.cells #[.slice a0 n0 c0] 36 (0, 0))) (hbr : w.heap[Br]? = some (.cells #[.int .i64 least] 3 (0, 0))) (hne : Bl ≠ Br)
    (hR : Sl Rn.cod w a0 n0 c0 R0) (hok : RunsOk R0) (hn : n0 ≤ 1000000) (hla : ∀ d, a0 = some d → 0 < c0 → d.block ≠ Bl) :
    Calls Tryz.prog 77 #[.func (.func 101) #[] #[.pointer (some ⟨Bl, 0, none⟩), .pointer (some ⟨Br, 0, none⟩)]] w fun e w' => ∃ v, e = .returned v ∧ V.Own 53 Lg.cod w.heap.size w' v (legsE R0 least) ∧ Chg w w' Bl none := by
  have HA := Lib.hid (appendseq_any Bl Br a0 n0 c0 R0 least w hbl hbr hne hR hok hn hla)
  clear hbl hbr hR hok hla
  go_enter Tryz.func77, Tryz.ntmps77
  go_wp2_with (go_at_call 100; go_fit HA.out; rintro e w1 ⟨v, rfl, ho, hc⟩; have HO := Lib.hid ho; have HC := Lib.hid hc; clear ho hc)
  go_ret
  exact ⟨_, rfl, HO.out, HC.out⟩

theorem seglegs_any (a : Option Addr) (n cap : Nat) (least : Int) (w : World) : Calls Tryz.prog 78 #[.slice a n cap, .int .i64 least] w fun e w' => e = .returned (.func (.func 101) #[] #[.pointer (some ⟨w.heap.size, 0, none⟩), .pointer (some ⟨w.heap.size + 1, 0, none⟩)]) ∧ w' = (w.alloc (.cells #[.slice a n cap] 36)).alloc (.cells #[.int .i64 least] 3) := by
  go_enter Tryz.func78, Tryz.ntmps78
  go_wp2
  go_ret
  exact ⟨by simp, rfl⟩

set_option maxHeartbeats 4000000 in
set_option maxRecDepth 100000 in
theorem legs_any (a : Option Addr) (n cap : Nat) (R : List Rn) (least : Int) (w : World) (hn : n ≤ 1000000) (h : Sl Rn.cod w a n cap R) (hr : RunsOk R) (h0 : 0 ≤ least) :
    Calls Tryz.prog 47 #[.slice a n cap, .int .i64 least] w fun e w' => ∃ v, e = .returned (.tuple #[v, .int .i64 0]) ∧ V.Own 53 Lg.cod w.heap.size w' v (legsE R least) ∧ Below w.heap.size w w' := by
  have HS := Lib.hid h
  have HR := Lib.hid hr
  have hd : decide (least < 0) = false := decide_eq_false (by omega)
  have HCO : Hid (∀ W, Sl Rn.cod W a n cap R → Calls Tryz.prog 77 #[.func (.func 101) #[] #[.pointer (some ⟨W.heap.size, 0, none⟩), .pointer (some ⟨W.heap.size + 1, 0, none⟩)]] ((W.alloc (.cells #[.slice a n cap] 36)).alloc (.cells #[.int .i64 least] 3)) fun e w' => ∃ v, e = .returned v ∧ V.Own 53 Lg.cod W.heap.size w' v (legsE R least) ∧ Below W.heap.size W w') := fun W hW => by
    have hb : Below W.heap.size W ((W.alloc (.cells #[.slice a n cap] 36)).alloc (.cells #[.int .i64 least] 3)) := ((Below.refl _ _).alloc (Nat.le_refl _) _).alloc (by simp) _
    have hbr := box_new (W.alloc (.cells #[.slice a n cap] 36)) (.cells #[.int .i64 least] 3)
    rw [World.size_alloc] at hbr
    refine (collect_any W.heap.size (W.heap.size + 1) a n cap R least _ (box_alloc (box_new W _)) hbr (by omega) (hW.below hb) HR.out hn (fun d hd hc => by have := (hW.hat d hd hc).2.1; omega)).mono ?_
    rintro e w' ⟨v, rfl, ho, hc⟩
    exact ⟨v, rfl, ho.lower (by simp; omega), hb.trans (hc.below (Nat.le_refl _) (by simp) (by simp; omega))⟩
  clear h hr h0
  go_enter Tryz.func47, Tryz.ntmps47
  go_wp2_with (first
    | (go_at_call 76; go_fit (dright_any a n cap R _ HS.out HR.out); rintro e w1 ⟨rfl, hb1⟩; have HB1 := Lib.hid hb1; clear hb1)
    | (go_at_call 78; go_fit (seglegs_any a n cap least _); rintro e w2 ⟨rfl, rfl⟩)
    | (go_at_call 77; go_fit (HCO.out _ (HS.out.below HB1.out)); rintro e w3 ⟨v, rfl, ho, hb3⟩; have HO := Lib.hid ho; have HB3 := Lib.hid (HB1.out.trans (hb3.mono HB1.out.size)); clear ho hb3))
  go_ret2
  exact ⟨_, rfl, HO.out.lower HB1.out.size, HB3.out⟩
end Go.Proofs.YtlfbbahihenilaaGreat.Ne

namespace Go.Proofs.YtlfbbahihenilaaGreat.Ne
open Go.RowKit Go.V Go.Proofs

set_option maxHeartbeats 8000000 in
set_option maxRecDepth 100000 in
theorem rlegs_any (a : Option Addr) (n cap : Nat) (R : List Rn) (least : Int) (w : World) (hn : n ≤ 1000000) (h : Sl Rn.cod w a n cap R) (hr : RunsOk R) :
    Calls Tryz.prog 27 #[.slice a n cap, .int .i64 least] w fun e w' => ∃ v, e = .returned v ∧ V.Own 53 Lg.cod w.heap.size w' v (legsE R least) ∧ Below w.heap.size w w' := by
  have HS := Lib.hid h
  have HR := Lib.hid hr
  have HN : Hid (n = R.length) := h.hlen
  have mixed : Tryz.prog.follows .mixedOrders = true := by kernel_rfl
  clear h hr
  go_enter Tryz.func27, Tryz.ntmps27
  go_wp2_with fail
  go_loopw [5, 6] (fun ov0 iv wr => ∃ (i : Nat) (ov : Value), ov = ov0 ∧ iv = .int .i64 i ∧ i ≤ n ∧ Hid (∃ L : List Lg, L.length ≤ i ∧ legsE R least = L ++ legsE (R.drop i) least ∧ V.Own 53 Lg.cod w.heap.size wr ov L ∧ Below w.heap.size w wr)) (fun _ iv _ => n - (intOf iv).toNat)
  case atStart => exact ⟨0, _, rfl, rfl, Nat.zero_le _, [], Nat.le_refl _, rfl, Own.nil, Below.refl _ _⟩
  case round =>
    obtain ⟨i, ov, rfl, rfl, hi, hrel⟩ := hrel
    obtain ⟨L, hll, hle, ho, hb⟩ := hrel.out
    have HLE := Lib.hid hle
    have HO := Lib.hid ho
    have HB := Lib.hid hb
    clear hrel hle ho hb
    have hw1 : IntKind.i64.wrap ((i : Int) + 1) = (i : Int) + 1 := by rw [IntKind.wrap_i64]; omega
    by_cases hlt : i + 1 < n
    · have hltz : (i : Int) + 1 < (n : Int) := by omega
      have hltz2 : (i : Int) < (n : Int) := by omega
      have hcn := HS.out.hcap
      obtain ⟨b, off, ⟨s1, f1, t1⟩, ha, hbl, hra, q0w, q1w, q2w⟩ := rn_at HS.out (i := i) (by omega)
      subst ha
      obtain ⟨k, hk⟩ : ∃ k, chkE (R.drop i) least = k := ⟨_, rfl⟩
      have hkin : 1 ≤ k ∧ k < n - i := by
        rw [← hk, HN.out]
        have := chkE_in (R := R.drop i) least (by rw [List.length_drop, ← HN.out]; omega)
        rw [List.length_drop] at this
        exact this
      obtain ⟨q, hq⟩ : ∃ q, i + k = q := ⟨_, rfl⟩
      have hqn : q < n := by omega
      obtain ⟨_, _, ⟨s2, f2, t2⟩, hb', -, hrb, p0w, p1w, p2w⟩ := rn_at HS.out hqn
      cases hb'
      have hwq : IntKind.i64.wrap ((i : Int) + (k : Int)) = (q : Int) := by rw [IntKind.wrap_i64]; omega
      have hqz : (q : Int) < (n : Int) := by omega
      have hrun := run_rn_from HS.out (q := i) (by omega)
      have HFR := Lib.hid (HS.out.from (j := i) (by omega) (by omega))
      have HCK := Lib.hid (rcheck24_any (some ⟨b, off + i * 3, none⟩) (n - i) (cap - i) (R.drop i) least)
      have HKE := Lib.hid hk
      have HLG : Hid (legsE R least = (L ++ [(⟨s1, s2, t1, f2⟩ : Lg)]) ++ legsE (R.drop q) least) := by
        show _ = _
        rw [HLE.out, legsE_step least (by rw [List.length_drop, ← HN.out]; omega), hk, List.drop_drop, hq, List.append_assoc]
        unfold legAt
        rw [List.getD_eq_getElem?_getD, List.getElem?_drop, List.getD_eq_getElem?_getD, List.getElem?_drop, Nat.add_zero, hra, hq, hrb]
        rfl
      have HK : Hid (∀ w', Below w.heap.size w w' → w'.cell? ⟨b, off + i * 3, none⟩ = some (.int .i64 s1) ∧ w'.cell? ⟨b, off + i * 3 + 2, none⟩ = some (.int .i64 t1) ∧ w'.cell? ⟨b, off + q * 3, none⟩ = some (.int .i64 s2) ∧ w'.cell? ⟨b, off + q * 3 + 1, none⟩ = some (.int .i64 f2)) := fun w' hw' => ⟨(hw'.cell (p := ⟨b, off + i * 3, none⟩) hbl).trans q0w, (hw'.cell (p := ⟨b, off + i * 3 + 2, none⟩) hbl).trans q2w, (hw'.cell (p := ⟨b, off + q * 3, none⟩) hbl).trans p0w, (hw'.cell (p := ⟨b, off + q * 3 + 1, none⟩) hbl).trans p1w⟩
      have HM1 : Hid (L.length + 1 ≤ maxLen) := by show _ ≤ _; unfold maxLen; omega
      have HM2 : Hid ((L.length + 1) * 32 ≤ 140737488355328) := by show _ ≤ _; omega
      have HQ := Lib.hid hq
      clear hk hra hrb q0w q1w q2w p0w p1w p2w hq
      go_upto_region 5 with (go_at_call 65; go_fit (HCK.out _ (HFR.out.below HB.out) (HR.out.drop i) (by omega)); rintro e w9 ⟨rfl, hb9⟩; rw [HKE.out]; have HB9 : Hid (Below w.heap.size w w9) := HB.out.trans (hb9.mono HB.out.size); have HO9 := Lib.hid (HO.out.below hb9); clear hb9)
      obtain ⟨g0, g1, g2, g3⟩ := HK.out _ HB9.out
      have hle9 : w.heap.size ≤ w9.heap.size := HB9.out.size
      go_region_held3 (fun w' => w'.cell? ⟨b, off + i * 3, none⟩ = some (.int .i64 s1) ∧ w'.cell? ⟨b, off + i * 3 + 2, none⟩ = some (.int .i64 t1) ∧ w'.cell? ⟨b, off + q * 3, none⟩ = some (.int .i64 s2) ∧ w'.cell? ⟨b, off + q * 3 + 1, none⟩ = some (.int .i64 f2)) (first | exact HK.out _ HB9.out | exact HK.out _ (HB9.out.trans (Below.drew (Below.refl _ _))) | exact HK.out _ (HB9.out.trans (Below.drew ((Below.refl _ _).alloc HB9.out.size _))) | exact HKK.out) (first | (refine step_app_at eltLg rfl (.tmp 22) (.tmp 48) rfl ov L (by rfl) (HO9.out.below (Below.drew ((Below.refl _ _).alloc (Nat.le_refl _) _))) ⟨w9.heap.size, 0, none⟩ 1 1 [(⟨s1, s2, t1, f2⟩ : Lg)] (by rfl) ((sl_new (c := Lg.cod) w9 #[.int .i64 s1, .int .i64 s2, .int .i64 t1, .int .i64 f2] 53 [(⟨s1, s2, t1, f2⟩ : Lg)] 1 rfl (by unfold maxLen; omega) rfl).below (Below.drew (Below.refl _ _))) HM1.out HM2.out (by show _ ≤ (w9.alloc _).heap.size; simp; omega) ?_; rintro v7 w7 ho7 hg7 -; have HO7 := Lib.hid ho7; have HB7 : Hid (Below w.heap.size w w7) := (HB9.out.trans (Below.drew ((Below.refl _ _).alloc HB9.out.size _))).trans (Ir.own_below (HO9.out.below (Below.drew ((Below.refl _ _).alloc (Nat.le_refl _) _))) hg7 (by show _ ≤ (w9.alloc _).heap.size; simp; omega)); have HKK := Lib.hid (HK.out _ HB7.out); clear ho7 hg7))
      all_goals
        go_wp2_with fail
        go_roundw
        case rel => exact ⟨q, _, rfl, rfl, by omega, _, by rw [List.length_append]; simp; have := HQ.out; omega, HLG.out, HO7.out, HB7.out⟩
        case measure => simp [intOf]; have := HQ.out; omega
    · have hd : decide ((i : Int) + 1 < (n : Int)) = false := decide_eq_false (by omega)
      have HE : Hid (legsE R least = L) := by
        show _ = _
        rw [HLE.out, legsE_end least (by rw [List.length_drop, ← HN.out]; omega), List.append_nil]
      go_wp2_with fail
      go_ret
      exact ⟨_, rfl, by rw [HE.out]; exact HO.out, HB.out⟩
end Go.Proofs.YtlfbbahihenilaaGreat.Ne
