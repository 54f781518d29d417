/- Ways: match.Match; the same way: walked. -/
import Derived.Test.YtlfbbahihenilaaGreatMhMtR
import Derived.Test.YtlfbbahihenilaaGreatMg04
namespace Go.Proofs.YtlfbbahihenilaaGreat.Ne
open Go.RowKit Go.V Go.Proofs

theorem trT_self (n : Net) (k : Nat) (r : Rul) (l : List Smp) : trT n n k r l = trE n k r l := if_pos rfl
theorem trE_check {n : Net} {k : Nat} {r : Rul} {l : List Smp} (h : checkE n ≠ 0) : trE n k r l = wayNo (checkE n) := if_pos h
theorem way_set {B : Nat} {W : World} {s r l : Hdr} {ss : List Int} {R : List Rn} {L : List Lg} (h : WayOwn B W s r l ss R L) {A i : Nat} (hA : A < B) (u : Value) : WayOwn B (W.setCell ⟨A, i, none⟩ u) s r l ss R L := ⟨own_set h.s hA u, own_set h.r hA u, own_set h.l hA u⟩
theorem way_below {B : Nat} {W W' : World} {s r l : Hdr} {ss : List Int} {R : List Rn} {L : List Lg} (h : WayOwn B W s r l ss R L) (hb : Below W.heap.size W W') : WayOwn B W' s r l ss R L := ⟨h.s.below hb, h.r.below hb, h.l.below hb⟩
set_option maxHeartbeats 8000000 in
set_option maxRecDepth 100000 in
theorem mtch_any (n : Net) (hs hl : Hdr) (r : Rul) (la : Option Addr) (ln lc : Nat) (l : List Smp) (w : World)
    (hnet : NetIn w n hs hl) (hm : hs.n ≤ 60 ∧ hl.n ≤ 120) (hln : ln ≤ 60) (hL : Sl Smp.cod w la ln lc l) :
    Calls Tryz.prog 8 #[n.val hs hl, r.val, .slice la ln lc] w fun e w' => ∃ s rr lg, e = .returned (.tuple #[wayV s rr lg (trE n hs.n r l).cost, .int .i64 (trE n hs.n r l).err]) ∧ WayOwn w.heap.size w' s rr lg (trE n hs.n r l).ss (trE n hs.n r l).R (trE n hs.n r l).L ∧ Below w.heap.size w w' := by
  have HX0 : Hid ((((w.alloc (n.box hs hl)).alloc r.box).alloc (.cells #[.slice none 0 0, .int .i64 0, .slice none 0 0, .slice none 0 0] 39)).heap[w.heap.size]? = some (n.box hs hl)) := box_alloc (box_alloc (box_new w _))
  have HY0 : Hid ((((w.alloc (n.box hs hl)).alloc r.box).alloc (.cells #[.slice none 0 0, .int .i64 0, .slice none 0 0, .slice none 0 0] 39)).heap[w.heap.size + 1]? = some r.box) := by
    have := box_new (w.alloc (n.box hs hl)) r.box
    rw [World.size_alloc] at this
    exact box_alloc this
  have HZ0 : Hid ((((w.alloc (n.box hs hl)).alloc r.box).alloc (.cells #[.slice none 0 0, .int .i64 0, .slice none 0 0, .slice none 0 0] 39)).heap[w.heap.size + 1 + 1]? = some (.cells #[.slice none 0 0, .int .i64 0, .slice none 0 0, .slice none 0 0] 39 (0, 0))) := by
    have := box_new ((w.alloc (n.box hs hl)).alloc r.box) (.cells #[.slice none 0 0, .int .i64 0, .slice none 0 0, .slice none 0 0] 39)
    rw [World.size_alloc, World.size_alloc] at this
    exact this
  have HB0 : Hid (Below w.heap.size w (((w.alloc (n.box hs hl)).alloc r.box).alloc (.cells #[.slice none 0 0, .int .i64 0, .slice none 0 0, .slice none 0 0] 39))) := (((Below.refl _ _).alloc (Nat.le_refl _) _).alloc (by simp) _).alloc (by simp; omega) _
  have HNT := Lib.hid hnet
  have HL := Lib.hid hL
  obtain ⟨W0, hW0⟩ : ∃ W0, ((w.alloc (n.box hs hl)).alloc r.box).alloc (.cells #[.slice none 0 0, .int .i64 0, .slice none 0 0, .slice none 0 0] 39) = W0 := ⟨_, rfl⟩
  rw [hW0] at HX0 HY0 HZ0 HB0
  obtain ⟨⟨sp, gp⟩, ⟨xr, xm, xf, xc⟩, st⟩ := r
  obtain ⟨c0, c1, c2⟩ := gcheck_box HX0.out
  obtain ⟨d0, d1, d2, d3, d4, d5, d6⟩ := box7_cells HY0.out
  obtain ⟨X, hX⟩ : ∃ X, trE n hs.n ⟨⟨sp, gp⟩, ⟨xr, xm, xf, xc⟩, st⟩ l = X := ⟨_, rfl⟩
  have HXE := Lib.hid hX
  have HWA : Hid (∀ (tg mg N : Nat) (base : Nat) (W : World), TabIn W base tg mg N n hs hl → tg ≠ mg → N ≤ 10 → Below w.heap.size w W → Calls Tryz.prog 14 #[.pointer (some ⟨tg, 0, none⟩), n.val hs hl, (Rul.mk ⟨sp, gp⟩ ⟨xr, xm, xf, xc⟩ st).val, .slice la ln lc] W fun e w' => ∃ s rr lg, e = .returned (.tuple #[wayV s rr lg X.cost, .int .i64 X.err]) ∧ WayOwn W.heap.size w' s rr lg X.ss X.R X.L ∧ Chg W w' mg none) := fun tg mg N base W ht hne hN hb => by
    refine (with_any base tg mg N n n hs hl hs hl ⟨⟨sp, gp⟩, ⟨xr, xm, xf, xc⟩, st⟩ la ln lc l W ht hne (fun _ => hN) (HNT.out.below hb) rfl hm hln (HL.out.below hb) (fun _ => ⟨rfl, rfl, rfl⟩)).mono ?_
    rintro e w' ⟨s, rr, lg, rfl, ho, -, hc⟩
    rw [trT_self, hX] at *
    exact ⟨s, rr, lg, rfl, ho, hc⟩
  rw [hX]
  clear hX
  obtain ⟨ce, hce⟩ : ∃ ce, checkE n = ce := ⟨_, rfl⟩
  have HCE := Lib.hid hce
  have HZS : Hid (w.heap.size + 1 + 1 < W0.heap.size) := box_lt HZ0.out
  clear hce hnet hL
  by_cases h0 : ce = 0
  · subst h0
    go_enter Tryz.func8, Tryz.ntmps8
    go_wp2_with (first
      | (go_at_call 13; go_fit (tnew_any n hs hl W0 ⟨by omega, by omega⟩ (HNT.out.below HB0.out)); rintro e w1 ⟨hb1, -, hf⟩; obtain ⟨tg, rfl, mg, ht, hne⟩ := hf HCE.out; have HT1 := Lib.hid ht; have HNE := Lib.hid hne; have HB1 := Lib.hid hb1; have HX1 := Lib.hid (box_below HX0.out hb1); have HY1 := Lib.hid (box_below HY0.out hb1); have HZ1 := Lib.hid (box_below HZ0.out hb1); obtain ⟨c0, c1, c2⟩ := gcheck_box HX1.out; obtain ⟨d0, d1, d2, d3, d4, d5, d6⟩ := box7_cells HY1.out; clear hb1 hf ht hne)
      | (go_at_call 14; go_fit (HWA.out tg mg 0 _ _ HT1.out HNE.out (by omega) (HB0.out.trans (HB1.out.mono HB0.out.size))); rintro e w2 ⟨s, rr, lg, rfl, ho, hc⟩; have hmg : W0.heap.size ≤ mg := HT1.out.bm; have HO := Lib.hid ho; have HC := Lib.hid hc; have HX4 := Lib.hid (hc.box HZ1.out (by have := HZS.out; omega) (by simp)); obtain ⟨x0, x1, x2, x3⟩ := box4w_cells HX4.out; obtain ⟨-, y0⟩ := box_cell HX4.out 0; obtain ⟨-, y1⟩ := box_cell HX4.out 1; obtain ⟨-, y2⟩ := box_cell HX4.out 2; obtain ⟨-, y3⟩ := box_cell HX4.out 3; have HMG := Lib.hid hmg; clear ho hc hmg))
    refine bodyPost_ret (mt_results_row rfl _ _ (w.heap.size + 1 + 1) _ _ _ _ rfl (mt_box4_set HX4.out _ _ _ _) Tryz.underlying39 rfl (by kernel_rfl)) rfl ?_
    have hz := HZS.out
    have hz1 := HB1.out.size
    have hmg := HMG.out
    have hB : w.heap.size ≤ w.heap.size + 1 + 1 := by omega
    refine ⟨s, rr, lg, rfl, WayOwn.lower (way_set (way_set (way_set (way_set HO.out (by omega) _) (by omega) _) (by omega) _) (by omega) _) (by omega), ?_⟩
    exact ((((((HB0.out.trans (HB1.out.mono HB0.out.size)).trans (HC.out.below (by omega) (by simp) (by omega))).setCell (p := ⟨w.heap.size + 1 + 1, 0, none⟩) hB _).setCell (p := ⟨w.heap.size + 1 + 1, 1, none⟩) hB _).setCell (p := ⟨w.heap.size + 1 + 1, 2, none⟩) hB _).setCell (p := ⟨w.heap.size + 1 + 1, 3, none⟩) hB _)
  · have h0b : (ce != 0) = true := by simpa using h0
    have HC0 := Lib.hid h0
    clear h0
    go_enter Tryz.func8, Tryz.ntmps8
    go_wp2_with (go_at_call 13; go_fit (tnew_any n hs hl W0 ⟨by omega, by omega⟩ (HNT.out.below HB0.out)); rintro e w1 ⟨hb1, hno, -⟩; have he := hno (by rw [HCE.out]; exact HC0.out); subst he; rw [HCE.out]; have HB1 := Lib.hid hb1; have HX4 := Lib.hid (box_below HZ0.out hb1); obtain ⟨x0, x1, x2, x3⟩ := box4w_cells HX4.out; obtain ⟨-, y0⟩ := box_cell HX4.out 0; obtain ⟨-, y1⟩ := box_cell HX4.out 1; obtain ⟨-, y2⟩ := box_cell HX4.out 2; obtain ⟨-, y3⟩ := box_cell HX4.out 3; clear hb1 hno)
    refine bodyPost_ret (mt_results_row rfl _ _ (w.heap.size + 1 + 1) _ _ _ _ rfl (mt_box4_set HX4.out _ _ _ _) Tryz.underlying39 rfl (by kernel_rfl)) rfl ?_
    have hB : w.heap.size ≤ w.heap.size + 1 + 1 := by omega
    have hxe := HXE.out
    rw [trE_check (by rw [HCE.out]; exact HC0.out), HCE.out] at hxe
    rw [← hxe]
    refine ⟨⟨none, 0, 0⟩, ⟨none, 0, 0⟩, ⟨none, 0, 0⟩, rfl, WayOwn.nil _ _, ?_⟩
    exact (((((HB0.out.trans (HB1.out.mono HB0.out.size)).setCell (p := ⟨w.heap.size + 1 + 1, 0, none⟩) hB _).setCell (p := ⟨w.heap.size + 1 + 1, 1, none⟩) hB _).setCell (p := ⟨w.heap.size + 1 + 1, 2, none⟩) hB _).setCell (p := ⟨w.heap.size + 1 + 1, 3, none⟩) hB _)

set_option maxHeartbeats 4000000 in
set_option maxRecDepth 100000 in
theorem wsame_true (s1 r1 l1 s2 r2 l2 : Hdr) (c : Int) (ss : List Int) (R : List Rn) (L : List Lg) (w : World) (h1 : WayIn w s1 r1 l1 ss R L) (h2 : WayIn w s2 r2 l2 ss R L) :
    Calls Tryz.prog 12 #[wayV s1 r1 l1 c, wayV s2 r2 l2 c] w fun e w' => e = .returned (.bool true) ∧ Below w.heap.size w w' := by
  have HX0 := Lib.hid (box_alloc (o := .cells #[.slice s2.a s2.n s2.cap, .int .i64 c, .slice r2.a r2.n r2.cap, .slice l2.a l2.n l2.cap] 39) (box_new w (.cells #[.slice s1.a s1.n s1.cap, .int .i64 c, .slice r1.a r1.n r1.cap, .slice l1.a l1.n l1.cap] 39)))
  have HY0 := Lib.hid (box_new (w.alloc (.cells #[.slice s1.a s1.n s1.cap, .int .i64 c, .slice r1.a r1.n r1.cap, .slice l1.a l1.n l1.cap] 39)) (.cells #[.slice s2.a s2.n s2.cap, .int .i64 c, .slice r2.a r2.n r2.cap, .slice l2.a l2.n l2.cap] 39))
  rw [World.size_alloc] at HY0
  have HB0 : Hid (Below w.heap.size w ((w.alloc (.cells #[.slice s1.a s1.n s1.cap, .int .i64 c, .slice r1.a r1.n r1.cap, .slice l1.a l1.n l1.cap] 39)).alloc (.cells #[.slice s2.a s2.n s2.cap, .int .i64 c, .slice r2.a r2.n r2.cap, .slice l2.a l2.n l2.cap] 39))) := ((Below.refl _ _).alloc (Nat.le_refl _) _).alloc (by simp) _
  obtain ⟨x0, x1, x2, x3⟩ := box4w_cells HX0.out
  obtain ⟨y0, y1, y2, y3⟩ := box4w_cells HY0.out
  have H1 := Lib.hid h1
  have H2 := Lib.hid h2
  have HRL : Hid (r2.n = r1.n) := by show _ = _; rw [h2.r.hlen, h1.r.hlen]
  have HLL : Hid (l2.n = l1.n) := by show _ = _; rw [h2.l.hlen, h1.l.hlen]
  have HR1 : Hid (∀ W, Below w.heap.size w W → Calls Tryz.prog 33 #[.slice r1.a r1.n r1.cap, .slice r2.a r2.n r2.cap] W fun e w' => e = .returned (.bool true) ∧ Below W.heap.size W w') := fun W hW => by
    have hr2 := H2.out.r.below hW
    rw [HRL.out] at hr2 ⊢
    exact rnsame_true _ _ _ R _ _ W (H1.out.r.below hW) hr2
  have HL1 : Hid (∀ W, Below w.heap.size w W → Calls Tryz.prog 34 #[.slice l1.a l1.n l1.cap, .slice l2.a l2.n l2.cap] W fun e w' => e = .returned (.bool true) ∧ Below W.heap.size W w') := fun W hW => by
    have hl2 := H2.out.l.below hW
    rw [HLL.out] at hl2 ⊢
    exact lgsame_true _ _ _ L _ _ W (H1.out.l.below hW) hl2
  clear h1 h2
  go_enter Tryz.func12, Tryz.ntmps12
  go_wp2_with (first
    | (go_at_call 32; go_fit (Is.isame_any s1.a s1.n s1.cap ss s2.a s2.n s2.cap ss _ (H1.out.s.below HB0.out) (H2.out.s.below HB0.out)); rintro e w1 ⟨rfl, hb1⟩; rw [show decide (ss = ss) = true from decide_eq_true rfl]; have HX1 := Lib.hid (box_below HX0.out hb1); have HY1 := Lib.hid (box_below HY0.out hb1); obtain ⟨x0, x1, x2, x3⟩ := box4w_cells HX1.out; obtain ⟨y0, y1, y2, y3⟩ := box4w_cells HY1.out; have HB1 := Lib.hid (HB0.out.trans (hb1.mono HB0.out.size)); clear hb1)
    | (go_at_call 33; go_fit (HR1.out _ HB1.out); rintro e w2 ⟨rfl, hb2⟩; have HX2 := Lib.hid (box_below HX1.out hb2); have HY2 := Lib.hid (box_below HY1.out hb2); obtain ⟨x0, x1, x2, x3⟩ := box4w_cells HX2.out; obtain ⟨y0, y1, y2, y3⟩ := box4w_cells HY2.out; have HB2 := Lib.hid (HB1.out.trans (hb2.mono HB1.out.size)); clear hb2)
    | (go_at_call 34; go_fit (HL1.out _ HB2.out); rintro e w3 ⟨rfl, hb3⟩; have HB3 := Lib.hid (HB2.out.trans (hb3.mono HB2.out.size)); clear hb3))
  go_ret
  exact ⟨rfl, HB3.out⟩
end Go.Proofs.YtlfbbahihenilaaGreat.Ne
