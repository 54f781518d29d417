/- Networks: the links to a stop's neighbours, walked. -/
import Derived.Test.YtgfakkkiejeofaaNsB
namespace Go.Proofs.Ytgfakkkiejeofaa.Ne
open Go.RowKit Go.V Go.Shelf Go.Proofs Go.Sort

attribute [local go_sem] Oper.semAt_some

theorem setCell_grown (w : World) (g : Nat) (v0 : Value) : w.grownBy (w.setCell ⟨g, 0, none⟩ v0) (some g) :=
  ⟨rfl, rfl, rfl, by simp, fun k _ hk => by rw [heap_setCell_other _ ⟨g, 0, none⟩ k v0 (fun e => hk (by simp [e]))]⟩
/-- The links to a stop's neighbours. -/
def nearL (L : List Lnk) (s : Int) : List Lnk := isort ltB (fromL L s)
theorem fromL_len (L : List Lnk) (s : Int) : (fromL L s).length ≤ L.length := by
  unfold fromL
  exact Nat.le_trans (List.length_filter_le _ _) (by rw [List.length_map]; exact Nat.le_refl _)

set_option maxRecDepth 100000 in
set_option maxHeartbeats 8000000 in
theorem near_any (n : Net) (hs hl : Hdr) (s : Int) (w : World) (hm : hl.n ≤ 1000000) (h : NetIn w n hs hl) :
    Calls Try.prog 37 #[n.val hs hl, .int .i64 s] w fun e w' => ∃ v, e = .returned v ∧ V.Own 55 lcod w.heap.size w' v (nearL n.links s) ∧ Below w.heap.size w w' := by
  refine (callsIn_wide (n := 8)).1 ?_
  refine callsIn_of_wp_marks Try.func37 rfl trivial ?_ rfl
  simp only [Try.ntmps37, List.size_toArray, List.length_cons, List.length_nil, Nat.reduceAdd, Nat.reduceSub, Array.replicate_succ, Array.replicate_zero, List.push_toArray, List.append_toArray, List.nil_append, List.cons_append]
  have hf1 : Fence.wide.fn 57 := trivial
  have hf2 : Fence.wide.fn 58 := trivial
  gi_wp2_with (gi_at_call 57; refine (callsIn_wide.2 (from_any n hs hl s _)).mono ?_; rintro e w' ⟨rfl, rfl⟩)
  have A2 : Hid (((((w.alloc (n.box hs hl)).alloc (.cells #[.slice none 0 0] 23)).alloc (n.box hs hl)).alloc (.cells #[.int .i64 s] 3)).heap[w.heap.size + 1]? = some (.cells #[.slice none 0 0] 23 (0, 0))) := by
    have := box_new (w.alloc (n.box hs hl)) (.cells #[.slice none 0 0] 23)
    rw [World.size_alloc] at this
    exact box_alloc (box_alloc this)
  have N2 : Hid (((((w.alloc (n.box hs hl)).alloc (.cells #[.slice none 0 0] 23)).alloc (n.box hs hl)).alloc (.cells #[.int .i64 s] 3)).heap[w.heap.size + 2]? = some (n.box hs hl)) := by
    have := box_new ((w.alloc (n.box hs hl)).alloc (.cells #[.slice none 0 0] 23)) (n.box hs hl)
    rw [World.size_alloc, World.size_alloc] at this
    exact box_alloc this
  have S2 : Hid (((((w.alloc (n.box hs hl)).alloc (.cells #[.slice none 0 0] 23)).alloc (n.box hs hl)).alloc (.cells #[.int .i64 s] 3)).heap[w.heap.size + 3]? = some (.cells #[.int .i64 s] 3 (0, 0))) := by
    have := box_new (((w.alloc (n.box hs hl)).alloc (.cells #[.slice none 0 0] 23)).alloc (n.box hs hl)) (.cells #[.int .i64 s] 3)
    rw [World.size_alloc, World.size_alloc, World.size_alloc] at this
    exact this
  have B2 : Hid (Below w.heap.size w ((((w.alloc (n.box hs hl)).alloc (.cells #[.slice none 0 0] 23)).alloc (n.box hs hl)).alloc (.cells #[.int .i64 s] 3))) := ((((Below.refl _ _).alloc (Nat.le_refl _) _).alloc (by simp) _).alloc (by simp; omega) _).alloc (by simp; omega) _
  have hz2 : ((((w.alloc (n.box hs hl)).alloc (.cells #[.slice none 0 0] 23)).alloc (n.box hs hl)).alloc (.cells #[.int .i64 s] 3)).heap.size = w.heap.size + 4 := by simp
  obtain ⟨w2, hw2⟩ : ∃ w2, (((w.alloc (n.box hs hl)).alloc (.cells #[.slice none 0 0] 23)).alloc (n.box hs hl)).alloc (.cells #[.int .i64 s] 3) = w2 := ⟨_, rfl⟩
  rw [hw2] at A2 N2 S2 B2 hz2 ⊢
  have HZ2 := Lib.hid hz2
  clear hw2 hz2
  refine range_named (by omega) rfl (enters_of Try.func74 (by kernel_rfl) rfl) ?_
  intro fn L W1 hL hl1 hd1 hb1 hsz
  have HL := Lib.hid hL
  have HSZ := Lib.hid hsz
  have hsz2 := B2.out.size
  have hz : w.heap.size + 4 ≤ w2.heap.size := by have := HZ2.out; omega
  have hz' : w2.heap.size ≤ w.heap.size + 4 := by have := HZ2.out; omega
  have hll : w2.heap.size + 1 < W1.heap.size := by omega
  clear hL hsz
  refine (from1_in 7 (w2.heap.size + 1) (w.heap.size + 1 + 1) (w.heap.size + 1 + 1 + 1) (w.heap.size + 1) n hs hl s (NearJ w W1 (w.heap.size + 1) (w2.heap.size + 1) w2.heap.size (L .ready none)) W1 (by omega) hm ((hb1.block _ (by omega)).trans N2.out) ((hb1.block _ (by omega)).trans S2.out) ⟨by omega, by omega, by omega, by omega⟩ (h.below (B2.out.trans (hb1.mono hsz2))) ?sa (fun pre W j => ⟨j.sz, j.kp⟩) (fun pre W W' j hb => j.below hb) ?yields ?start).mono ?_
  case sa =>
    intro d hd h0
    have := (h.l.hat d hd h0).2.1
    omega
  case start => exact ⟨⟨_, (hb1.block _ (by omega)).trans A2.out, Own.nil⟩, hl1, hd1, B2.out.trans (hb1.mono hsz2), Nat.le_refl _, fun _ _ _ _ => rfl⟩
  case yields =>
    rintro pre ⟨xa, xb, xw⟩ rest W hsp ⟨⟨v, j1, j2⟩, j3, j4, j5, j6, j7⟩
    refine yield_named HL.out j3 rfl ?_
    have hlen : pre.length ≤ 1000000 := by
      have e1 := fromL_len n.links s
      rw [hsp, List.length_append, List.length_cons] at e1
      have := h.l.hlen
      omega
    clear hsp
    obtain ⟨va, vc, hv, -⟩ := j2.slice
    dsimp only [encL]
    gi_wp2
    refine ⟨box_alloc j3, ?_⟩
    have hltW : w2.heap.size + 1 < W.heap.size := (Array.getElem?_eq_some_iff.1 j3).1
    have hgb := grownBy_putObj' (W.alloc (.cells #[.int .i64 xa, .int .i64 xb, .int .i64 xw] 55)) (w2.heap.size + 1) (L .busy none)
    have v1 : Hid (((W.alloc (.cells #[.int .i64 xa, .int .i64 xb, .int .i64 xw] 55)).putObj (w2.heap.size + 1) (L .busy none)).heap[(w.heap.size + 1)]? = some (.cells #[v] 23 (0, 0))) := (World.putObj_heap_other (by omega)).trans (box_alloc j1)
    have v2 : Hid (V.Own 55 lcod W1.heap.size ((W.alloc (.cells #[.int .i64 xa, .int .i64 xb, .int .i64 xw] 55)).putObj (w2.heap.size + 1) (L .busy none)) v pre) := (j2.alloc _).kept hgb (.inr fun q => by have := (World.ownsRow.lt j2 _ q).1; omega)
    have v3 : Hid (((W.alloc (.cells #[.int .i64 xa, .int .i64 xb, .int .i64 xw] 55)).putObj (w2.heap.size + 1) (L .busy none)).heap[W.heap.size]? = some (.cells #[.int .i64 xa, .int .i64 xb, .int .i64 xw] 55 (0, 0))) := (World.putObj_heap_other (by omega)).trans (box_new _ _)
    have v4 : Hid (((W.alloc (.cells #[.int .i64 xa, .int .i64 xb, .int .i64 xw] 55)).putObj (w2.heap.size + 1) (L .busy none)).heap[w2.heap.size + 1]? = some (L .busy none)) := World.putObj_heap_same (by simp; omega)
    have v5 : Hid (((W.alloc (.cells #[.int .i64 xa, .int .i64 xb, .int .i64 xw] 55)).putObj (w2.heap.size + 1) (L .busy none)).heap[w2.heap.size]? = some (.deferred (some []))) := (World.putObj_heap_other (by omega)).trans (box_alloc j4)
    have v6 : Hid (Below w.heap.size w ((W.alloc (.cells #[.int .i64 xa, .int .i64 xb, .int .i64 xw] 55)).putObj (w2.heap.size + 1) (L .busy none))) := (j5.alloc j5.size _).grown hgb (by have := j5.size; simp; omega) (fun k hk => by cases hk; omega)
    have v7 : Hid (∀ k, k < W1.heap.size → k ≠ (w.heap.size + 1) → k ≠ w2.heap.size + 1 → ((W.alloc (.cells #[.int .i64 xa, .int .i64 xb, .int .i64 xw] 55)).putObj (w2.heap.size + 1) (L .busy none)).heap[k]? = W1.heap[k]?) := fun k hk h2 h3 => (World.putObj_heap_other (fun e => h3 e)).trans ((Below.heap_alloc W _ k (by omega)).trans (j7 k hk h2 h3))
    have v8 : Hid (((W.alloc (.cells #[.int .i64 xa, .int .i64 xb, .int .i64 xw] 55)).putObj (w2.heap.size + 1) (L .busy none)).heap.size = W.heap.size + 1) := by show _ = _; simp
    obtain ⟨V, hV⟩ : ∃ V, (W.alloc (.cells #[.int .i64 xa, .int .i64 xb, .int .i64 xw] 55)).putObj (w2.heap.size + 1) (L .busy none) = V := ⟨_, rfl⟩
    rw [hV] at v1 v2 v3 v4 v5 v6 v7 v8 ⊢
    clear hV hgb
    have v9 : W1.heap.size ≤ V.heap.size := by have := v8.out; omega
    subst hv
    have q1 : V.cell? ⟨(w.heap.size + 1), 0, none⟩ = some (.slice va pre.length vc) := (box_cell v1.out 0).1
    have q1f : V.frozen? ⟨(w.heap.size + 1), 0, none⟩ = false := (box_cell v1.out 0).2
    have q2 : V.cell? ⟨W.heap.size, 0, none⟩ = some (.int .i64 xa) := (box_cell v3.out 0).1
    have q3 : V.cell? ⟨W.heap.size, 1, none⟩ = some (.int .i64 xb) := (box_cell v3.out 1).1
    have q4 : V.cell? ⟨W.heap.size, 2, none⟩ = some (.int .i64 xw) := (box_cell v3.out 2).1
    have HLS : Hid ((pre ++ [(⟨xa, xb, xw⟩ : Lnk)]).length = pre.length + 1) := by show _ = _; simp
    have hmx1 : Hid (pre.length + 1 ≤ maxLen) := by show _ ≤ _; unfold maxLen; omega
    have hmx2 : Hid ((pre.length + 1) * 24 ≤ 140737488355328) := by show _ ≤ _; omega
    clear j1 j2 j3 j4 j5 j6 j7 hl1 hd1
    gi_wp2_with (gi_at_builtin; go_loud (refine wpListIn_app eltLnk rfl _ _ rfl (.slice va pre.length vc) pre (by simp [Act.eval]) (v2.out.alloc _) ⟨V.heap.size, 0, none⟩ 1 1 [⟨xa, xb, xw⟩] (by simp [Act.eval]) (sl_new (c := lcod) V #[.int .i64 xa, .int .i64 xb, .int .i64 xw] 55 [⟨xa, xb, xw⟩] 1 rfl (by unfold maxLen; omega) rfl) hmx1.out hmx2.out (by simp; omega) ?_); intro v' V2 hown hgr; obtain ⟨a', c', ev', -⟩ := hown.slice; rw [HLS.out] at ev'; subst ev'; have HO := Lib.hid hown; have HG := Lib.hid hgr; have HB2 : Hid (V2.heap[w.heap.size + 1]? = some (.cells #[.slice va pre.length vc] 23 (0, 0))) := (hgr.block _ (by simp; omega) (fun q => by have := (World.ownsRow.lt v2.out _ q.symm).1; omega)).trans (box_alloc v1.out); obtain ⟨r0, r0f⟩ := box_cell HB2.out 0; have r0 : V2.cell? ⟨w.heap.size + 1, 0, none⟩ = some (.slice va pre.length vc) := r0; have hblt := box_lt HB2.out; clear hown hgr)
    have hoth : ∀ k, k ≠ w.heap.size + 1 → (V2.setCell ⟨w.heap.size + 1, 0, none⟩ (.slice a' (pre.length + 1) c')).heap[k]? = V2.heap[k]? := fun k hk => heap_setCell_other _ _ _ _ hk
    have hold : ∀ k, k < V.heap.size → k < W1.heap.size ∨ k ≤ w2.heap.size + 1 → V2.heap[k]? = V.heap[k]? := fun k hk hk2 => (HG.out.block k (by simp; omega) (fun q => by have := (World.ownsRow.lt v2.out _ q.symm).1; omega)).trans (Below.heap_alloc V _ k hk)
    have hgs := setCell_grown V2 (w.heap.size + 1) (.slice a' (pre.length + 1) c')
    have hgp := grownBy_putObj' (V2.setCell ⟨w.heap.size + 1, 0, none⟩ (.slice a' (pre.length + 1) c')) (w2.heap.size + 1) (L .ready none)
    have hne1 := fun q => (World.ownsRow.lt HO.out (w.heap.size + 1) q).1
    have hne2 := fun q => (World.ownsRow.lt HO.out (w2.heap.size + 1) q).1
    have h2s : V.heap.size ≤ V2.heap.size := by have := HG.out.size; simp at this; omega
    refine ⟨(hoth _ (by omega)).trans ((hold _ (by omega) (.inr (Nat.le_refl _))).trans v4.out), ⟨⟨_, (World.putObj_heap_other (by omega)).trans (heap_setCell_same V2 (w.heap.size + 1) 0 _ _ _ HB2.out), (HO.out.kept hgs (.inr fun q => by have := hne1 q; omega)).kept hgp (.inr fun q => by have := hne2 q; omega)⟩, World.putObj_heap_same (by simp; omega), (World.putObj_heap_other (by omega)).trans ((hoth _ (by omega)).trans ((hold _ (by omega) (.inr (by omega))).trans v5.out)), ?_, by simp; omega, fun k hk h1 h2 => (World.putObj_heap_other (fun e => h2 e)).trans ((hoth k h1).trans ((hold k (by omega) (.inl hk)).trans (v7.out k hk h1 h2)))⟩⟩
    have hb1' : Below w.heap.size V V2 := ⟨HG.out.os, HG.out.tape, HG.out.output, h2s, fun k hk => hold k (by omega) (.inl (by omega))⟩
    have hb2' : Below w.heap.size w (V2.setCell ⟨w.heap.size + 1, 0, none⟩ (.slice a' (pre.length + 1) c')) := (v6.out.trans hb1').setCell (p := ⟨w.heap.size + 1, 0, none⟩) (by show w.heap.size ≤ w.heap.size + 1; omega) _
    exact hb2'.grown hgp (by simp; omega) (fun k hk => by have := Option.some.inj hk; omega)
  rintro e W2 ⟨⟨v, rfl⟩, hJ⟩
  refine ⟨⟨_, rfl⟩, .inl ⟨hJ.rcd, ?_⟩⟩
  obtain ⟨v, o1, o2⟩ := hJ.out
  have hszJ := hJ.sz
  have hgp := grownBy_putObj' W2 (w2.heap.size + 1) (L .exhausted none)
  have u1 : Hid ((W2.putObj (w2.heap.size + 1) (L .exhausted none)).heap[w.heap.size + 1]? = some (.cells #[v] 23 (0, 0))) := (World.putObj_heap_other (by omega)).trans o1
  have u2 : Hid ((W2.putObj (w2.heap.size + 1) (L .exhausted none)).heap[w2.heap.size]? = some (.deferred (some []))) := (World.putObj_heap_other (by omega)).trans hJ.def_
  have u3 : Hid (Below w.heap.size w (W2.putObj (w2.heap.size + 1) (L .exhausted none))) := hJ.bel.grown hgp hJ.bel.size (fun k hk => by have := Option.some.inj hk; omega)
  have u4 : Hid (V.Own 55 lcod W1.heap.size (W2.putObj (w2.heap.size + 1) (L .exhausted none)) v (fromL n.links s)) := o2.kept hgp (.inr fun q => by have := (World.ownsRow.lt o2 _ q).1; omega)
  have u5 : (W2.putObj (w2.heap.size + 1) (L .exhausted none)).heap.size = W2.heap.size := by simp
  obtain ⟨V, hV⟩ : ∃ V, W2.putObj (w2.heap.size + 1) (L .exhausted none) = V := ⟨_, rfl⟩
  rw [hV] at u1 u2 u3 u4 u5 ⊢
  have hVs : W1.heap.size ≤ V.heap.size := by omega
  clear hV u5 hgp hJ o1 o2 hl1 hd1
  obtain ⟨fl, hfl⟩ : ∃ fl, fromL n.links s = fl := ⟨_, rfl⟩
  have HFL : Hid (nearL n.links s = isort ltB fl) := by show _ = _; unfold nearL; rw [hfl]
  have hlen : fl.length ≤ 1000000 := by
    have e1 := fromL_len n.links s
    rw [hfl] at e1
    have := h.l.hlen
    omega
  rw [hfl] at u4
  clear hfl
  obtain ⟨va, vc, hv, hsl, hd⟩ := u4.out.slice
  subst hv
  have q1 : V.cell? ⟨w.heap.size + 1, 0, none⟩ = some (.slice va fl.length vc) := (box_cell u1.out 0).1
  cases va with
  | none =>
    obtain ⟨z1, z2⟩ := hsl.hnil rfl
    have hnil : fl = [] := List.eq_nil_of_length_eq_zero z1
    subst hnil
    subst z2
    clear hsl hd z1
    gi_wp2_with (gi_at_call 58; refine (callsIn_wide.2 (Link.sortStable_nil _ _)).mono ?_; rintro e w3 ⟨rfl, rfl⟩)
    refine ⟨by simp, .inl ⟨_, _, rfl, run_takeDeferred u2.out, ?_⟩⟩
    refine ⟨_, results_tmp rfl _ _ _, ?_⟩
    exact ⟨_, rfl, by rw [HFL.out]; exact Own.nil, u3.out.grown (grownBy_putObj' _ _ _) u3.out.size (fun k hk => by have := Option.some.inj hk; omega)⟩
  | some d =>
    obtain ⟨g, cur, rfl, hg, hgc⟩ := hd _ rfl
    have hgz : g < V.heap.size := (Array.getElem?_eq_some_iff.1 hgc).1
    have hfz : ∀ j, V.frozen? ⟨g, j, none⟩ = false := fun j => by simp [World.frozen?, hgc]
    have hrk : Hid (RowK lnkEnc 3 V g 0 fl.toArray) := ⟨lcod.len, lcod.one, holdsK_of_cells lcod (fun j u hu => by have := hsl.src j u hu; rwa [Go.V.add_addr] at this) hfz, hgz⟩
    have hBag : w.heap.size + 1 < g := by omega
    have hDg : w2.heap.size < g := by omega
    clear hd hsl hfz
    gi_wp2_with (gi_at_call 58; go_loud (refine (callsIn_wide.2 (Link.sortStable lnkEnc 59 #[] #[] cmpB g 0 vc fl.length fl.toArray V (fun _ _ => by kernel_rfl) (nearLays g 0 fl.length V) hrk.out (by simp) (by omega))).mono ?_); rintro e w3 ⟨rfl, S2⟩; have HSW := Lib.hid S2; have hbg := swk_below S2 (Nat.le_refl g) (Nat.le_of_lt hgz); have HBG := Lib.hid hbg; have u6 : Hid (w3.heap[w.heap.size + 1]? = some (.cells #[.slice (some ⟨g, 0, none⟩) fl.length vc] 23 (0, 0))) := (hbg.block _ hBag).trans u1.out; have u7 : Hid (w3.heap[w2.heap.size]? = some (.deferred (some []))) := (hbg.block _ hDg).trans u2.out; have q3 : w3.cell? ⟨w.heap.size + 1, 0, none⟩ = some (.slice (some ⟨g, 0, none⟩) fl.length vc) := (box_cell u6.out 0).1; clear S2 hbg)
    have hst : (stable ltB fl.toArray fl.length).toList = isort ltB fl := by
      have := stable_list ordB fl.toArray
      simpa using this
    have hss : (stable (ltOf cmpB) fl.toArray fl.length).size = fl.length := by rw [stable_size]; simp
    have hown : Go.V.Own 55 lcod W1.heap.size w3 (.slice (some ⟨g, 0, none⟩) fl.length vc) (isort ltB fl) := by
      have := swk_own lcod u4.out HSW.out hss
      rw [show ltOf cmpB = ltB from rfl, hst] at this
      have hl' : (isort ltB fl).length = fl.length := (isort_perm fl).length_eq
      unfold Go.V.Own
      rw [hl']; exact this
    refine ⟨by simp, .inl ⟨_, _, rfl, run_takeDeferred u7.out, ?_⟩⟩
    refine ⟨_, results_tmp rfl _ _ _, ?_⟩
    refine ⟨_, rfl, ?_, ?_⟩
    · rw [HFL.out]
      refine Own.lower (base := W1.heap.size) (Go.V.Own.kept hown (grownBy_putObj' _ _ _) (.inr fun q => ?_)) (by omega)
      have := (World.ownsRow.lt hown _ q).1
      omega
    · have hb3 : Below w.heap.size w w3 := u3.out.trans (HBG.out.mono (by omega))
      exact hb3.grown (grownBy_putObj' _ _ _) hb3.size (fun k hk => by have := Option.some.inj hk; omega)
end Go.Proofs.Ytgfakkkiejeofaa.Ne
