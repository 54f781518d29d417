/- Ways: the document's way: walked (printed by gen_XMtT.py). -/
import Derived.Test.YtlfbbahihenilaaGreatMhMtS
import Derived.Test.YtlfbbahihenilaaGreatMg26
namespace Go.Proofs.YtlfbbahihenilaaGreat.Ne
open Go.RowKit Go.V Go.Proofs

theorem sl_set {α : Type} {c : Cod α} {W : World} {a : Option Addr} {n cap : Nat} {xs : List α} (h : Sl c W a n cap xs) {A i : Nat} (u : Value) (hd : ∀ d, a = some d → 0 < cap → d.block ≠ A) : Sl c (W.setCell ⟨A, i, none⟩ u) a n cap xs :=
  sl_kept h (by simp) (fun d hd' hc => set_oth W u (hd d hd' hc))
set_option maxHeartbeats 16000000 in
set_option maxRecDepth 100000 in
theorem rmtch_any (n : Net) (hs hl : Hdr) (r : Rul) (la : Option Addr) (ln lc : Nat) (l : List Smp) (w : World)
    (hnet : NetIn w n hs hl) (hm : hs.n ≤ 60 ∧ hl.n ≤ 120) (hln : ln ≤ 60) (hL : Sl Smp.cod w la ln lc l) :
    Calls Tryz.prog 9 #[n.val hs hl, r.val, .slice la ln lc, .int .i64 150] w fun e w' => ∃ s rr lg cost f, e = .returned (.tuple #[wayV s rr lg cost, .int .i64 f]) ∧ Below w.heap.size w w' ∧ (f < 0 ∨ (f = (trE n hs.n r l).err ∧ cost = (trE n hs.n r l).cost ∧ WayIn w' s rr lg (trE n hs.n r l).ss (trE n hs.n r l).R (trE n hs.n r l).L)) := by
  have HX0 : Hid ((((w.alloc (n.box hs hl)).alloc r.box).alloc (.cells #[.slice none 0 0, .int .i64 0, .slice none 0 0, .slice none 0 0] 39)).heap[w.heap.size]? = some (n.box hs hl)) := box_alloc (box_alloc (box_new w _))
  have HY0 : Hid ((((w.alloc (n.box hs hl)).alloc r.box).alloc (.cells #[.slice none 0 0, .int .i64 0, .slice none 0 0, .slice none 0 0] 39)).heap[w.heap.size + 1]? = some r.box) := by
    have := box_new (w.alloc (n.box hs hl)) r.box
    rw [World.size_alloc] at this
    exact box_alloc this
  have HZ0 : Hid ((((w.alloc (n.box hs hl)).alloc r.box).alloc (.cells #[.slice none 0 0, .int .i64 0, .slice none 0 0, .slice none 0 0] 39)).heap[w.heap.size + 1 + 1]? = some (.cells #[.slice none 0 0, .int .i64 0, .slice none 0 0, .slice none 0 0] 39 (0, 0))) := by
    have := box_new ((w.alloc (n.box hs hl)).alloc r.box) (.cells #[.slice none 0 0, .int .i64 0, .slice none 0 0, .slice none 0 0] 39)
    rw [World.size_alloc, World.size_alloc] at this
    exact this
  have HB0 : Hid (Below w.heap.size w (((w.alloc (n.box hs hl)).alloc r.box).alloc (.cells #[.slice none 0 0, .int .i64 0, .slice none 0 0, .slice none 0 0] 39))) := (((Below.refl _ _).alloc (Nat.le_refl _) _).alloc (by simp) _).alloc (by simp; omega) _
  have HNT := Lib.hid hnet
  have HL := Lib.hid hL
  have hB : w.heap.size ≤ w.heap.size + 1 + 1 := by omega
  obtain ⟨W0, hW0⟩ : ∃ W0, ((w.alloc (n.box hs hl)).alloc r.box).alloc (.cells #[.slice none 0 0, .int .i64 0, .slice none 0 0, .slice none 0 0] 39) = W0 := ⟨_, rfl⟩
  rw [hW0] at HX0 HY0 HZ0 HB0
  have HZS : Hid (w.heap.size + 1 + 1 < W0.heap.size) := box_lt HZ0.out
  obtain ⟨⟨sp, gp⟩, ⟨xr, xm, xf, xc⟩, st⟩ := r
  obtain ⟨c0, c1, c2⟩ := gcheck_box HX0.out
  obtain ⟨d0, d1, d2, d3, d4, d5, d6⟩ := box7_cells HY0.out
  obtain ⟨x0, x1, x2, x3⟩ := box4w_cells HZ0.out
  obtain ⟨-, y0⟩ := box_cell HZ0.out 0
  obtain ⟨-, y1⟩ := box_cell HZ0.out 1
  obtain ⟨-, y2⟩ := box_cell HZ0.out 2
  obtain ⟨-, y3⟩ := box_cell HZ0.out 3
  obtain ⟨X, hX⟩ : ∃ X, trE n hs.n ⟨⟨sp, gp⟩, ⟨xr, xm, xf, xc⟩, st⟩ l = X := ⟨_, rfl⟩
  have HXE := Lib.hid hX
  rw [hX]
  obtain ⟨ce, hce⟩ : ∃ ce, checkE n = ce := ⟨_, rfl⟩
  have HCE := Lib.hid hce
  have HLN : Hid (ln = l.length) := hL.hlen
  have HNL : Hid (n.stops.length ≤ 60) := by have := hnet.s.hlen; show _ ≤ _; omega
  clear hce hX hnet hL
  by_cases h0 : ce = 0
  case neg =>
    have h0b : (ce != 0) = true := by simpa using h0
    have HC0 := Lib.hid h0
    clear h0
    go_enter Tryz.func9, Tryz.ntmps9
    go_wp2_with (go_at_call 21; go_fit (rcheck_any n hs hl _ ⟨by omega, by omega⟩ (HNT.out.below HB0.out)); rintro e w1 ⟨rfl, hb1⟩; rw [HCE.out]; have HX1 := Lib.hid (box_below HX0.out hb1); have HY1 := Lib.hid (box_below HY0.out hb1); have HZ1 := Lib.hid (box_below HZ0.out hb1); obtain ⟨c0, c1, c2⟩ := gcheck_box HX1.out; obtain ⟨d0, d1, d2, d3, d4, d5, d6⟩ := box7_cells HY1.out; obtain ⟨x0, x1, x2, x3⟩ := box4w_cells HZ1.out; obtain ⟨-, y0⟩ := box_cell HZ1.out 0; obtain ⟨-, y1⟩ := box_cell HZ1.out 1; obtain ⟨-, y2⟩ := box_cell HZ1.out 2; obtain ⟨-, y3⟩ := box_cell HZ1.out 3; have HB1 := Lib.hid (HB0.out.trans (hb1.mono HB0.out.size)); clear hb1)
    refine bodyPost_ret (mt_results_row rfl _ _ (w.heap.size + 1 + 1) _ _ _ _ rfl (mt_box4_set HZ1.out _ _ _ _) Tryz.underlying39 rfl (by kernel_rfl)) rfl ?_
    have hxe : X = wayNo (ce) := by rw [← HXE.out, ← trT_self]; exact by rw [trT_check (by rw [HCE.out]; exact HC0.out), HCE.out]
    rw [hxe]
    exact ⟨⟨none, 0, 0⟩, ⟨none, 0, 0⟩, ⟨none, 0, 0⟩, 0, (ce), rfl, (((((HB1.out).setCell (p := ⟨w.heap.size + 1 + 1, 0, none⟩) hB _).setCell (p := ⟨w.heap.size + 1 + 1, 1, none⟩) hB _).setCell (p := ⟨w.heap.size + 1 + 1, 2, none⟩) hB _).setCell (p := ⟨w.heap.size + 1 + 1, 3, none⟩) hB _), .inr ⟨rfl, rfl, WayIn.nil _⟩⟩
  subst h0
  obtain ⟨bm, hbm⟩ : ∃ b, mayR ⟨⟨sp, gp⟩, ⟨xr, xm, xf, xc⟩, st⟩ = b := ⟨_, rfl⟩
  have HMR := Lib.hid hbm
  clear hbm
  cases bm with
  | false =>
    go_enter Tryz.func9, Tryz.ntmps9
    go_wp2_with (first
      | (go_at_call 21; go_fit (rcheck_any n hs hl _ ⟨by omega, by omega⟩ (HNT.out.below HB0.out)); rintro e w1 ⟨rfl, hb1⟩; rw [HCE.out]; have HX1 := Lib.hid (box_below HX0.out hb1); have HY1 := Lib.hid (box_below HY0.out hb1); have HZ1 := Lib.hid (box_below HZ0.out hb1); obtain ⟨c0, c1, c2⟩ := gcheck_box HX1.out; obtain ⟨d0, d1, d2, d3, d4, d5, d6⟩ := box7_cells HY1.out; obtain ⟨x0, x1, x2, x3⟩ := box4w_cells HZ1.out; obtain ⟨-, y0⟩ := box_cell HZ1.out 0; obtain ⟨-, y1⟩ := box_cell HZ1.out 1; obtain ⟨-, y2⟩ := box_cell HZ1.out 2; obtain ⟨-, y3⟩ := box_cell HZ1.out 3; have HB1 := Lib.hid (HB0.out.trans (hb1.mono HB0.out.size)); clear hb1)
      | (go_at_call 11; go_fit (rmtmay_any ⟨⟨sp, gp⟩, ⟨xr, xm, xf, xc⟩, st⟩ _); rintro e w2 ⟨rfl, hb2⟩; rw [HMR.out]; have HX2 := Lib.hid (box_below HX1.out hb2); have HY2 := Lib.hid (box_below HY1.out hb2); have HZ2 := Lib.hid (box_below HZ1.out hb2); obtain ⟨c0, c1, c2⟩ := gcheck_box HX2.out; obtain ⟨d0, d1, d2, d3, d4, d5, d6⟩ := box7_cells HY2.out; obtain ⟨x0, x1, x2, x3⟩ := box4w_cells HZ2.out; obtain ⟨-, y0⟩ := box_cell HZ2.out 0; obtain ⟨-, y1⟩ := box_cell HZ2.out 1; obtain ⟨-, y2⟩ := box_cell HZ2.out 2; obtain ⟨-, y3⟩ := box_cell HZ2.out 3; have HB2 := Lib.hid (HB1.out.trans (hb2.mono HB1.out.size)); clear hb2))
    refine bodyPost_ret (mt_results_row rfl _ _ (w.heap.size + 1 + 1) _ _ _ _ rfl (mt_box4_set HZ2.out _ _ _ _) Tryz.underlying39 rfl (by kernel_rfl)) rfl ?_
    have hxe : X = wayNo (2) := by rw [← HXE.out, ← trT_self]; exact trT_may HCE.out (by unfold mayT; rw [if_neg (by rw [HMR.out]; simp)]; decide)
    rw [hxe]
    exact ⟨⟨none, 0, 0⟩, ⟨none, 0, 0⟩, ⟨none, 0, 0⟩, 0, (2), rfl, (((((HB2.out).setCell (p := ⟨w.heap.size + 1 + 1, 0, none⟩) hB _).setCell (p := ⟨w.heap.size + 1 + 1, 1, none⟩) hB _).setCell (p := ⟨w.heap.size + 1 + 1, 2, none⟩) hB _).setCell (p := ⟨w.heap.size + 1 + 1, 3, none⟩) hB _), .inr ⟨rfl, rfl, WayIn.nil _⟩⟩
  | true =>
  have HMF : Hid (mayF ⟨sp, gp⟩ = true) := (mayR_in HMR.out).1
  obtain ⟨br, hbr⟩ : ∃ b, rightS l = b := ⟨_, rfl⟩
  have HBR := Lib.hid hbr
  clear hbr
  cases br with
  | false =>
    have HKP : Hid (∀ V, Below w.heap.size w V → Calls Tryz.prog 22 #[(Flt.mk sp gp).val, .slice la ln lc] V fun e w' => ∃ (ka : Option Addr) (kc : Nat) (u : Value), e = .returned (.tuple #[.slice ka 0 kc, u, .int .i64 2]) ∧ Sl Smp.cod w' ka 0 kc [] ∧ Below V.heap.size V w') := fun V hV => by
      refine (rkeep_any ⟨sp, gp⟩ la ln lc l V (by omega) (HL.out.below hV)).mono ?_
      rintro e w' ⟨v, u, rfl, ho, hb⟩
      rw [show keptE ⟨sp, gp⟩ l = [] from if_neg (by rw [HBR.out]; simp)] at ho
      obtain ⟨ka, kc, rfl, hks, -⟩ := ho.slice
      exact ⟨ka, kc, u, by rw [show keepErr ⟨sp, gp⟩ l = 2 from if_neg (by rw [HBR.out]; simp)]; rfl, hks, hb⟩
    go_enter Tryz.func9, Tryz.ntmps9
    go_wp2_with (first
      | (go_at_call 21; go_fit (rcheck_any n hs hl _ ⟨by omega, by omega⟩ (HNT.out.below HB0.out)); rintro e w1 ⟨rfl, hb1⟩; rw [HCE.out]; have HX1 := Lib.hid (box_below HX0.out hb1); have HY1 := Lib.hid (box_below HY0.out hb1); have HZ1 := Lib.hid (box_below HZ0.out hb1); obtain ⟨c0, c1, c2⟩ := gcheck_box HX1.out; obtain ⟨d0, d1, d2, d3, d4, d5, d6⟩ := box7_cells HY1.out; obtain ⟨x0, x1, x2, x3⟩ := box4w_cells HZ1.out; obtain ⟨-, y0⟩ := box_cell HZ1.out 0; obtain ⟨-, y1⟩ := box_cell HZ1.out 1; obtain ⟨-, y2⟩ := box_cell HZ1.out 2; obtain ⟨-, y3⟩ := box_cell HZ1.out 3; have HB1 := Lib.hid (HB0.out.trans (hb1.mono HB0.out.size)); clear hb1)
      | (go_at_call 11; go_fit (rmtmay_any ⟨⟨sp, gp⟩, ⟨xr, xm, xf, xc⟩, st⟩ _); rintro e w2 ⟨rfl, hb2⟩; rw [HMR.out]; have HX2 := Lib.hid (box_below HX1.out hb2); have HY2 := Lib.hid (box_below HY1.out hb2); have HZ2 := Lib.hid (box_below HZ1.out hb2); obtain ⟨c0, c1, c2⟩ := gcheck_box HX2.out; obtain ⟨d0, d1, d2, d3, d4, d5, d6⟩ := box7_cells HY2.out; obtain ⟨x0, x1, x2, x3⟩ := box4w_cells HZ2.out; obtain ⟨-, y0⟩ := box_cell HZ2.out 0; obtain ⟨-, y1⟩ := box_cell HZ2.out 1; obtain ⟨-, y2⟩ := box_cell HZ2.out 2; obtain ⟨-, y3⟩ := box_cell HZ2.out 3; have HB2 := Lib.hid (HB1.out.trans (hb2.mono HB1.out.size)); clear hb2)
      | (go_at_call 22; go_fit (HKP.out _ HB2.out); rintro e w3 ⟨ka, kc, u, rfl, ho3, hb3⟩; have HK3 := Lib.hid ho3; have HX3 := Lib.hid (box_below HX2.out hb3); have HY3 := Lib.hid (box_below HY2.out hb3); have HZ3 := Lib.hid (box_below HZ2.out hb3); obtain ⟨c0, c1, c2⟩ := gcheck_box HX3.out; obtain ⟨d0, d1, d2, d3, d4, d5, d6⟩ := box7_cells HY3.out; obtain ⟨x0, x1, x2, x3⟩ := box4w_cells HZ3.out; obtain ⟨-, y0⟩ := box_cell HZ3.out 0; obtain ⟨-, y1⟩ := box_cell HZ3.out 1; obtain ⟨-, y2⟩ := box_cell HZ3.out 2; obtain ⟨-, y3⟩ := box_cell HZ3.out 3; have HB3 := Lib.hid (HB2.out.trans (hb3.mono HB2.out.size)); clear hb3 ho3))
    refine bodyPost_ret (mt_results_row rfl _ _ (w.heap.size + 1 + 1) _ _ _ _ rfl (mt_box4_set HZ3.out _ _ _ _) Tryz.underlying39 rfl (by kernel_rfl)) rfl ?_
    have hxe : X = wayNo (2) := by rw [← HXE.out, ← trT_self]; exact trT_right HCE.out HMR.out rfl HBR.out
    rw [hxe]
    exact ⟨⟨none, 0, 0⟩, ⟨none, 0, 0⟩, ⟨none, 0, 0⟩, 0, (2), rfl, (((((HB3.out).setCell (p := ⟨w.heap.size + 1 + 1, 0, none⟩) hB _).setCell (p := ⟨w.heap.size + 1 + 1, 1, none⟩) hB _).setCell (p := ⟨w.heap.size + 1 + 1, 2, none⟩) hB _).setCell (p := ⟨w.heap.size + 1 + 1, 3, none⟩) hB _), .inr ⟨rfl, rfl, WayIn.nil _⟩⟩
  | true =>
  obtain ⟨K, hK⟩ : ∃ K, keepE ⟨sp, gp⟩ l = K := ⟨_, rfl⟩
  have hkl : K.length ≤ 60 := by
    have := keepN_len ⟨sp, gp⟩ l l.length (Nat.le_refl _)
    have h2 : (keepE ⟨sp, gp⟩ l).length ≤ l.length := this
    rw [hK] at h2
    have := HLN.out
    omega
  obtain ⟨G, hG⟩ : ∃ G, rowsE n ⟨xr, xm, xf, xc⟩ K = G := ⟨_, rfl⟩
  have HKE := Lib.hid hK
  have HGE := Lib.hid hG
  have HKP : Hid (∀ V, Below w.heap.size w V → Calls Tryz.prog 22 #[(Flt.mk sp gp).val, .slice la ln lc] V fun e w' => ∃ (ka : Option Addr) (kc : Nat) (u : Value), e = .returned (.tuple #[.slice ka K.length kc, u, .int .i64 0]) ∧ Sl Smp.cod w' ka K.length kc K ∧ Below V.heap.size V w') := fun V hV => by
    refine (rkeep_any ⟨sp, gp⟩ la ln lc l V (by omega) (HL.out.below hV)).mono ?_
    rintro e w' ⟨v, u, rfl, ho, hb⟩
    rw [show keptE ⟨sp, gp⟩ l = K from (if_pos ⟨HMF.out, HBR.out⟩).trans HKE.out] at ho
    obtain ⟨ka, kc, rfl, hks, -⟩ := ho.slice
    exact ⟨ka, kc, u, by rw [show keepErr ⟨sp, gp⟩ l = 0 from if_pos ⟨HMF.out, HBR.out⟩], hks, hb⟩
  obtain ⟨ae, hae⟩ : ∃ ae, allErr n ⟨xr, xm, xf, xc⟩ K = ae := ⟨_, rfl⟩
  have HAE := Lib.hid hae
  have HAL : Hid (∀ (ka : Option Addr) (kc : Nat) (V : World), Below w.heap.size w V → Sl Smp.cod V ka K.length kc K → Calls Tryz.prog 23 #[n.val hs hl, (Wgh.mk xr xm xf xc).val, .slice ka K.length kc] V fun e w' => ∃ (pa : Option Addr) (pn pc : Nat), e = .returned (.tuple #[.slice pa pn pc, .int .i64 ae]) ∧ PtsIn w' pa pn pc (if ae = 0 then G else []) ∧ Below V.heap.size V w') := fun ka kc V hV hk => by
    refine (r21all_any n hs hl ⟨xr, xm, xf, xc⟩ ka K.length kc K V ⟨by omega, by omega⟩ (by omega) (HNT.out.below hV) hk).mono ?_
    rintro e w' ⟨v, hh, rfl, ho, hb⟩
    obtain ⟨hp, rfl, hpt⟩ := pts_own ho
    rw [HAE.out] at hpt ⊢
    refine ⟨hp.a, hp.n, hp.cap, rfl, ?_, hb⟩
    by_cases h : ae = 0
    · rw [if_pos h] at hpt ⊢
      rw [← HGE.out]
      exact hpt
    · rw [if_neg h] at hpt ⊢
      exact hpt
  clear hK hG hae
  by_cases ha : ae = 0
  case neg =>
    have hab : (ae != 0) = true := by simpa using ha
    have HA0 := Lib.hid ha
    rw [if_neg ha] at HAL
    clear ha
    go_enter Tryz.func9, Tryz.ntmps9
    go_wp2_with (first
      | (go_at_call 21; go_fit (rcheck_any n hs hl _ ⟨by omega, by omega⟩ (HNT.out.below HB0.out)); rintro e w1 ⟨rfl, hb1⟩; rw [HCE.out]; have HX1 := Lib.hid (box_below HX0.out hb1); have HY1 := Lib.hid (box_below HY0.out hb1); have HZ1 := Lib.hid (box_below HZ0.out hb1); obtain ⟨c0, c1, c2⟩ := gcheck_box HX1.out; obtain ⟨d0, d1, d2, d3, d4, d5, d6⟩ := box7_cells HY1.out; obtain ⟨x0, x1, x2, x3⟩ := box4w_cells HZ1.out; obtain ⟨-, y0⟩ := box_cell HZ1.out 0; obtain ⟨-, y1⟩ := box_cell HZ1.out 1; obtain ⟨-, y2⟩ := box_cell HZ1.out 2; obtain ⟨-, y3⟩ := box_cell HZ1.out 3; have HB1 := Lib.hid (HB0.out.trans (hb1.mono HB0.out.size)); clear hb1)
      | (go_at_call 11; go_fit (rmtmay_any ⟨⟨sp, gp⟩, ⟨xr, xm, xf, xc⟩, st⟩ _); rintro e w2 ⟨rfl, hb2⟩; rw [HMR.out]; have HX2 := Lib.hid (box_below HX1.out hb2); have HY2 := Lib.hid (box_below HY1.out hb2); have HZ2 := Lib.hid (box_below HZ1.out hb2); obtain ⟨c0, c1, c2⟩ := gcheck_box HX2.out; obtain ⟨d0, d1, d2, d3, d4, d5, d6⟩ := box7_cells HY2.out; obtain ⟨x0, x1, x2, x3⟩ := box4w_cells HZ2.out; obtain ⟨-, y0⟩ := box_cell HZ2.out 0; obtain ⟨-, y1⟩ := box_cell HZ2.out 1; obtain ⟨-, y2⟩ := box_cell HZ2.out 2; obtain ⟨-, y3⟩ := box_cell HZ2.out 3; have HB2 := Lib.hid (HB1.out.trans (hb2.mono HB1.out.size)); clear hb2)
      | (go_at_call 22; go_fit (HKP.out _ HB2.out); rintro e w3 ⟨ka, kc, u, rfl, ho3, hb3⟩; have HK3 := Lib.hid ho3; have HX3 := Lib.hid (box_below HX2.out hb3); have HY3 := Lib.hid (box_below HY2.out hb3); have HZ3 := Lib.hid (box_below HZ2.out hb3); obtain ⟨c0, c1, c2⟩ := gcheck_box HX3.out; obtain ⟨d0, d1, d2, d3, d4, d5, d6⟩ := box7_cells HY3.out; obtain ⟨x0, x1, x2, x3⟩ := box4w_cells HZ3.out; obtain ⟨-, y0⟩ := box_cell HZ3.out 0; obtain ⟨-, y1⟩ := box_cell HZ3.out 1; obtain ⟨-, y2⟩ := box_cell HZ3.out 2; obtain ⟨-, y3⟩ := box_cell HZ3.out 3; have HB3 := Lib.hid (HB2.out.trans (hb3.mono HB2.out.size)); clear hb3 ho3)
      | (go_at_call 23; go_fit (HAL.out ka kc _ HB3.out HK3.out); rintro e w4 ⟨pa, pn, pc, rfl, ho4, hb4⟩; have HP4 := Lib.hid ho4; have HK4 := Lib.hid (HK3.out.below hb4); have HX4 := Lib.hid (box_below HX3.out hb4); have HY4 := Lib.hid (box_below HY3.out hb4); have HZ4 := Lib.hid (box_below HZ3.out hb4); obtain ⟨c0, c1, c2⟩ := gcheck_box HX4.out; obtain ⟨d0, d1, d2, d3, d4, d5, d6⟩ := box7_cells HY4.out; obtain ⟨x0, x1, x2, x3⟩ := box4w_cells HZ4.out; obtain ⟨-, y0⟩ := box_cell HZ4.out 0; obtain ⟨-, y1⟩ := box_cell HZ4.out 1; obtain ⟨-, y2⟩ := box_cell HZ4.out 2; obtain ⟨-, y3⟩ := box_cell HZ4.out 3; have HB4 := Lib.hid (HB3.out.trans (hb4.mono HB3.out.size)); clear hb4 ho4))
    refine bodyPost_ret (mt_results_row rfl _ _ (w.heap.size + 1 + 1) _ _ _ _ rfl (mt_box4_set HZ4.out _ _ _ _) Tryz.underlying39 rfl (by kernel_rfl)) rfl ?_
    have hxe : X = wayNo (ae) := by rw [← HXE.out, ← trT_self]; exact by rw [trT_all HCE.out HMR.out rfl HBR.out (by rw [show keepE (Rul.mk ⟨sp, gp⟩ ⟨xr, xm, xf, xc⟩ st).f l = K from HKE.out, HAE.out]; exact HA0.out), show keepE (Rul.mk ⟨sp, gp⟩ ⟨xr, xm, xf, xc⟩ st).f l = K from HKE.out, HAE.out]
    rw [hxe]
    exact ⟨⟨none, 0, 0⟩, ⟨none, 0, 0⟩, ⟨none, 0, 0⟩, 0, (ae), rfl, (((((HB4.out).setCell (p := ⟨w.heap.size + 1 + 1, 0, none⟩) hB _).setCell (p := ⟨w.heap.size + 1 + 1, 1, none⟩) hB _).setCell (p := ⟨w.heap.size + 1 + 1, 2, none⟩) hB _).setCell (p := ⟨w.heap.size + 1 + 1, 3, none⟩) hB _), .inr ⟨rfl, rfl, WayIn.nil _⟩⟩
  subst ha
  rw [if_pos rfl] at HAL
  have HVM : Hid (vmayE ⟨xr, xm, xf, xc⟩ G = 0) := by
    show _ = _
    rw [← HGE.out]
    rcases rows_may HAE.out with h | h
    · exact h
    · omega
  have h16 : ∀ r ∈ G, r.length ≤ 16 := fun r hr => ((vmay_ok HVM.out).2.2.1 r hr).2
  have hgl : G.length = K.length := by rw [← HGE.out, rowsE_len]
  obtain ⟨cn, hcn⟩ : ∃ cn, countGo 150 G 1 = cn := ⟨_, rfl⟩
  have HCN := Lib.hid hcn
  have HCO : Hid (∀ pa pn pc V, PtsIn V pa pn pc G → Calls Tryz.prog 24 #[.slice pa pn pc, .int .i64 150] V fun e w' => e = .returned (.int .i64 cn) ∧ V = w') := fun pa pn pc V hP => by rw [← HCN.out]; exact (rcount_any pa pn pc G V hP h16).mono fun _ _ ⟨a, b⟩ => ⟨a, b.symm⟩
  clear hcn
  by_cases hc150 : (150 : Int) < (cn : Int)
  · go_enter Tryz.func9, Tryz.ntmps9
    go_wp2_with (first
      | (go_at_call 21; go_fit (rcheck_any n hs hl _ ⟨by omega, by omega⟩ (HNT.out.below HB0.out)); rintro e w1 ⟨rfl, hb1⟩; rw [HCE.out]; have HX1 := Lib.hid (box_below HX0.out hb1); have HY1 := Lib.hid (box_below HY0.out hb1); have HZ1 := Lib.hid (box_below HZ0.out hb1); obtain ⟨c0, c1, c2⟩ := gcheck_box HX1.out; obtain ⟨d0, d1, d2, d3, d4, d5, d6⟩ := box7_cells HY1.out; obtain ⟨x0, x1, x2, x3⟩ := box4w_cells HZ1.out; obtain ⟨-, y0⟩ := box_cell HZ1.out 0; obtain ⟨-, y1⟩ := box_cell HZ1.out 1; obtain ⟨-, y2⟩ := box_cell HZ1.out 2; obtain ⟨-, y3⟩ := box_cell HZ1.out 3; have HB1 := Lib.hid (HB0.out.trans (hb1.mono HB0.out.size)); clear hb1)
      | (go_at_call 11; go_fit (rmtmay_any ⟨⟨sp, gp⟩, ⟨xr, xm, xf, xc⟩, st⟩ _); rintro e w2 ⟨rfl, hb2⟩; rw [HMR.out]; have HX2 := Lib.hid (box_below HX1.out hb2); have HY2 := Lib.hid (box_below HY1.out hb2); have HZ2 := Lib.hid (box_below HZ1.out hb2); obtain ⟨c0, c1, c2⟩ := gcheck_box HX2.out; obtain ⟨d0, d1, d2, d3, d4, d5, d6⟩ := box7_cells HY2.out; obtain ⟨x0, x1, x2, x3⟩ := box4w_cells HZ2.out; obtain ⟨-, y0⟩ := box_cell HZ2.out 0; obtain ⟨-, y1⟩ := box_cell HZ2.out 1; obtain ⟨-, y2⟩ := box_cell HZ2.out 2; obtain ⟨-, y3⟩ := box_cell HZ2.out 3; have HB2 := Lib.hid (HB1.out.trans (hb2.mono HB1.out.size)); clear hb2)
      | (go_at_call 22; go_fit (HKP.out _ HB2.out); rintro e w3 ⟨ka, kc, u, rfl, ho3, hb3⟩; have HK3 := Lib.hid ho3; have HX3 := Lib.hid (box_below HX2.out hb3); have HY3 := Lib.hid (box_below HY2.out hb3); have HZ3 := Lib.hid (box_below HZ2.out hb3); obtain ⟨c0, c1, c2⟩ := gcheck_box HX3.out; obtain ⟨d0, d1, d2, d3, d4, d5, d6⟩ := box7_cells HY3.out; obtain ⟨x0, x1, x2, x3⟩ := box4w_cells HZ3.out; obtain ⟨-, y0⟩ := box_cell HZ3.out 0; obtain ⟨-, y1⟩ := box_cell HZ3.out 1; obtain ⟨-, y2⟩ := box_cell HZ3.out 2; obtain ⟨-, y3⟩ := box_cell HZ3.out 3; have HB3 := Lib.hid (HB2.out.trans (hb3.mono HB2.out.size)); clear hb3 ho3)
      | (go_at_call 23; go_fit (HAL.out ka kc _ HB3.out HK3.out); rintro e w4 ⟨pa, pn, pc, rfl, ho4, hb4⟩; have HP4 := Lib.hid ho4; have HK4 := Lib.hid (HK3.out.below hb4); have HX4 := Lib.hid (box_below HX3.out hb4); have HY4 := Lib.hid (box_below HY3.out hb4); have HZ4 := Lib.hid (box_below HZ3.out hb4); obtain ⟨c0, c1, c2⟩ := gcheck_box HX4.out; obtain ⟨d0, d1, d2, d3, d4, d5, d6⟩ := box7_cells HY4.out; obtain ⟨x0, x1, x2, x3⟩ := box4w_cells HZ4.out; obtain ⟨-, y0⟩ := box_cell HZ4.out 0; obtain ⟨-, y1⟩ := box_cell HZ4.out 1; obtain ⟨-, y2⟩ := box_cell HZ4.out 2; obtain ⟨-, y3⟩ := box_cell HZ4.out 3; have HB4 := Lib.hid (HB3.out.trans (hb4.mono HB3.out.size)); clear hb4 ho4)
      | (go_at_call 24; go_fit (HCO.out pa pn pc _ HP4.out); rintro e w5 ⟨rfl, rfl⟩))
    refine bodyPost_ret (mt_results_row rfl _ _ (w.heap.size + 1 + 1) _ _ _ _ rfl (mt_box4_set HZ4.out _ _ _ _) Tryz.underlying39 rfl (by kernel_rfl)) rfl ?_
    exact ⟨⟨none, 0, 0⟩, ⟨none, 0, 0⟩, ⟨none, 0, 0⟩, 0, -1, rfl, (((((HB4.out).setCell (p := ⟨w.heap.size + 1 + 1, 0, none⟩) hB _).setCell (p := ⟨w.heap.size + 1 + 1, 1, none⟩) hB _).setCell (p := ⟨w.heap.size + 1 + 1, 2, none⟩) hB _).setCell (p := ⟨w.heap.size + 1 + 1, 3, none⟩) hB _), .inl (by decide)⟩
  have hcd : decide ((150 : Int) < (cn : Int)) = false := decide_eq_false hc150
  have hall : ∀ i, i ≤ G.length → (allE [[]] (G.take i)).length ≤ 150 := by
    intro i hi
    by_cases h0 : i = 0
    · subst h0; rw [List.take_zero]; show 1 ≤ 150; omega
    · exact count_ok 150 G [[]] (by show countGo 150 G 1 ≤ 150; rw [HCN.out]; omega) i (by omega) hi
  obtain ⟨O, hO⟩ : ∃ O, bestGo (seqE n hs.n ⟨xr, xm, xf, xc⟩ G) (allE [[]] G) ([], -1) = O := ⟨_, rfl⟩
  obtain ⟨BS1, BS2⟩ := bestGo_eq (n := n) (k := hs.n) HVM.out
  rw [hO] at BS1 BS2
  have HBE : Hid (∀ pa pn pc V, Below w.heap.size w V → PtsIn V pa pn pc G → Calls Tryz.prog 25 #[n.val hs hl, (Wgh.mk xr xm xf xc).val, .slice pa pn pc] V fun e w' => ∃ (a : Option Addr) (m cap : Nat), e = .returned (.tuple #[.slice a m cap, .int .i64 O.2]) ∧ SlQ icod w' a m cap O.1 ∧ (∀ d, a = some d → V.heap.size ≤ d.block) ∧ Below V.heap.size V w') := fun pa pn pc V hV hP => by
    refine (rbest_own V n hs hl _ ⟨pa, pn, pc⟩ G (HNT.out.below hV) HCE.out hm.1 hm.2 hP (by omega) h16 hall O hO).mono ?_
    rintro e w' ⟨a, m, cap, he, hq, -, hd, hb⟩
    exact ⟨a, m, cap, he, hq, hd, hb⟩
  have HB1' := Lib.hid BS1
  have HB2' := Lib.hid BS2
  clear BS1 BS2 hO hall h16
  obtain ⟨Rg, hR⟩ : ∃ R, goE (stepE n hs.n ⟨xr, xm, xf, xc⟩) G none = R := ⟨_, rfl⟩
  have HRG := Lib.hid hR
  clear hR
  cases Rg with
  | none =>
    have ho2 : O.2 = -1 := by rw [HB1'.out HRG.out]
    rw [ho2] at HBE
    clear ho2
    go_enter Tryz.func9, Tryz.ntmps9
    go_wp2_with (first
      | (go_at_call 21; go_fit (rcheck_any n hs hl _ ⟨by omega, by omega⟩ (HNT.out.below HB0.out)); rintro e w1 ⟨rfl, hb1⟩; rw [HCE.out]; have HX1 := Lib.hid (box_below HX0.out hb1); have HY1 := Lib.hid (box_below HY0.out hb1); have HZ1 := Lib.hid (box_below HZ0.out hb1); obtain ⟨c0, c1, c2⟩ := gcheck_box HX1.out; obtain ⟨d0, d1, d2, d3, d4, d5, d6⟩ := box7_cells HY1.out; obtain ⟨x0, x1, x2, x3⟩ := box4w_cells HZ1.out; obtain ⟨-, y0⟩ := box_cell HZ1.out 0; obtain ⟨-, y1⟩ := box_cell HZ1.out 1; obtain ⟨-, y2⟩ := box_cell HZ1.out 2; obtain ⟨-, y3⟩ := box_cell HZ1.out 3; have HB1 := Lib.hid (HB0.out.trans (hb1.mono HB0.out.size)); clear hb1)
      | (go_at_call 11; go_fit (rmtmay_any ⟨⟨sp, gp⟩, ⟨xr, xm, xf, xc⟩, st⟩ _); rintro e w2 ⟨rfl, hb2⟩; rw [HMR.out]; have HX2 := Lib.hid (box_below HX1.out hb2); have HY2 := Lib.hid (box_below HY1.out hb2); have HZ2 := Lib.hid (box_below HZ1.out hb2); obtain ⟨c0, c1, c2⟩ := gcheck_box HX2.out; obtain ⟨d0, d1, d2, d3, d4, d5, d6⟩ := box7_cells HY2.out; obtain ⟨x0, x1, x2, x3⟩ := box4w_cells HZ2.out; obtain ⟨-, y0⟩ := box_cell HZ2.out 0; obtain ⟨-, y1⟩ := box_cell HZ2.out 1; obtain ⟨-, y2⟩ := box_cell HZ2.out 2; obtain ⟨-, y3⟩ := box_cell HZ2.out 3; have HB2 := Lib.hid (HB1.out.trans (hb2.mono HB1.out.size)); clear hb2)
      | (go_at_call 22; go_fit (HKP.out _ HB2.out); rintro e w3 ⟨ka, kc, u, rfl, ho3, hb3⟩; have HK3 := Lib.hid ho3; have HX3 := Lib.hid (box_below HX2.out hb3); have HY3 := Lib.hid (box_below HY2.out hb3); have HZ3 := Lib.hid (box_below HZ2.out hb3); obtain ⟨c0, c1, c2⟩ := gcheck_box HX3.out; obtain ⟨d0, d1, d2, d3, d4, d5, d6⟩ := box7_cells HY3.out; obtain ⟨x0, x1, x2, x3⟩ := box4w_cells HZ3.out; obtain ⟨-, y0⟩ := box_cell HZ3.out 0; obtain ⟨-, y1⟩ := box_cell HZ3.out 1; obtain ⟨-, y2⟩ := box_cell HZ3.out 2; obtain ⟨-, y3⟩ := box_cell HZ3.out 3; have HB3 := Lib.hid (HB2.out.trans (hb3.mono HB2.out.size)); clear hb3 ho3)
      | (go_at_call 23; go_fit (HAL.out ka kc _ HB3.out HK3.out); rintro e w4 ⟨pa, pn, pc, rfl, ho4, hb4⟩; have HP4 := Lib.hid ho4; have HK4 := Lib.hid (HK3.out.below hb4); have HX4 := Lib.hid (box_below HX3.out hb4); have HY4 := Lib.hid (box_below HY3.out hb4); have HZ4 := Lib.hid (box_below HZ3.out hb4); obtain ⟨c0, c1, c2⟩ := gcheck_box HX4.out; obtain ⟨d0, d1, d2, d3, d4, d5, d6⟩ := box7_cells HY4.out; obtain ⟨x0, x1, x2, x3⟩ := box4w_cells HZ4.out; obtain ⟨-, y0⟩ := box_cell HZ4.out 0; obtain ⟨-, y1⟩ := box_cell HZ4.out 1; obtain ⟨-, y2⟩ := box_cell HZ4.out 2; obtain ⟨-, y3⟩ := box_cell HZ4.out 3; have HB4 := Lib.hid (HB3.out.trans (hb4.mono HB3.out.size)); clear hb4 ho4)
      | (go_at_call 24; go_fit (HCO.out pa pn pc _ HP4.out); rintro e w5 ⟨rfl, rfl⟩)
      | (go_at_call 25; go_fit (HBE.out pa pn pc _ HB4.out HP4.out); rintro e w6 ⟨sa, sm, sc, rfl, ho6, hd6, hb6⟩; have HS6 := Lib.hid ho6; have HD6 := Lib.hid hd6; have HK6 := Lib.hid (HK4.out.below hb6); have HX6 := Lib.hid (box_below HX4.out hb6); have HY6 := Lib.hid (box_below HY4.out hb6); have HZ6 := Lib.hid (box_below HZ4.out hb6); obtain ⟨c0, c1, c2⟩ := gcheck_box HX6.out; obtain ⟨d0, d1, d2, d3, d4, d5, d6⟩ := box7_cells HY6.out; obtain ⟨x0, x1, x2, x3⟩ := box4w_cells HZ6.out; obtain ⟨-, y0⟩ := box_cell HZ6.out 0; obtain ⟨-, y1⟩ := box_cell HZ6.out 1; obtain ⟨-, y2⟩ := box_cell HZ6.out 2; obtain ⟨-, y3⟩ := box_cell HZ6.out 3; have HB6 := Lib.hid (HB4.out.trans (hb6.mono HB4.out.size)); clear hb6 ho6 hd6))
    refine bodyPost_ret (mt_results_row rfl _ _ (w.heap.size + 1 + 1) _ _ _ _ rfl (mt_box4_set HZ6.out _ _ _ _) Tryz.underlying39 rfl (by kernel_rfl)) rfl ?_
    have hxe : X = wayNo (31) := by rw [← HXE.out, ← trT_self]; exact trT_none HCE.out HMR.out rfl HBR.out (by rw [show keepE (Rul.mk ⟨sp, gp⟩ ⟨xr, xm, xf, xc⟩ st).f l = K from HKE.out]; exact HAE.out) (by rw [show keepE (Rul.mk ⟨sp, gp⟩ ⟨xr, xm, xf, xc⟩ st).f l = K from HKE.out, HGE.out]; exact HRG.out)
    rw [hxe]
    exact ⟨⟨none, 0, 0⟩, ⟨none, 0, 0⟩, ⟨none, 0, 0⟩, 0, (31), rfl, (((((HB6.out).setCell (p := ⟨w.heap.size + 1 + 1, 0, none⟩) hB _).setCell (p := ⟨w.heap.size + 1 + 1, 1, none⟩) hB _).setCell (p := ⟨w.heap.size + 1 + 1, 2, none⟩) hB _).setCell (p := ⟨w.heap.size + 1 + 1, 3, none⟩) hB _), .inr ⟨rfl, rfl, WayIn.nil _⟩⟩
  | some ss =>
    obtain ⟨o1, o2⟩ := HB2'.out ss HRG.out
    obtain ⟨C, hC⟩ : ∃ C, (pickE (stepE n hs.n ⟨xr, xm, xf, xc⟩) none G).1 = C := ⟨_, rfl⟩
    rw [hC] at o1 o2
    have HC := Lib.hid hC
    have hbi := best_in (n := n) (k := hs.n) (x := ⟨xr, xm, xf, xc⟩) (l := K) (ss := ss) (by rw [HGE.out]; exact HVM.out) (by have := HNL.out; omega) (by rw [HGE.out]; exact HRG.out)
    have hk0 : 0 < K.length := by
      rcases Nat.eq_zero_or_pos K.length with h | h
      · exact absurd (List.eq_nil_of_length_eq_zero (hgl.trans h)) (vmay_ok HVM.out).2.2.2
      · exact h
    have HBE2 : Hid (∀ pa pn pc V, Below w.heap.size w V → PtsIn V pa pn pc G → Calls Tryz.prog 25 #[n.val hs hl, (Wgh.mk xr xm xf xc).val, .slice pa pn pc] V fun e w' => ∃ (a : Option Addr) (m cap : Nat), e = .returned (.tuple #[.slice a K.length cap, .int .i64 C]) ∧ Sl icod w' a K.length cap ss ∧ (∀ d, a = some d → V.heap.size ≤ d.block) ∧ Below V.heap.size V w') := fun pa pn pc V hV hP => by
      refine (HBE.out pa pn pc V hV hP).mono ?_
      rintro e w' ⟨a, m, cap, rfl, hq, hd, hb⟩
      rw [o1] at hq ⊢
      have hq : SlQ icod w' a m cap ss := hq
      have hml : m = K.length := by rw [hq.hlen, hbi.1]
      subst hml
      exact ⟨a, 0, cap, rfl, hq.hat hk0, hd, hb⟩
    have hrk : rightS K = true := by rw [← HKE.out]; exact keepE_right HBR.out
    have hrok := runsN_ok (ss := ss) (l := K) hrk hbi.2.1 hbi.1 K.length (Nat.le_refl _)
    have HRU : Hid (∀ sa sc ka kc V, Sl icod V sa K.length sc ss → Sl Smp.cod V ka K.length kc K → Calls Tryz.prog 26 #[.slice sa K.length sc, .slice ka K.length kc] V fun e w' => ∃ (ra : Option Addr) (rn rc : Nat), e = .returned (.tuple #[.slice ra rn rc, .int .i64 0]) ∧ Sl Rn.cod w' ra rn rc (runsE ss K) ∧ (∀ d, ra = some d → V.heap.size ≤ d.block) ∧ Below V.heap.size V w') := fun sa sc ka kc V h1 h2 => by
      refine (rruns_any sa K.length sc ss ka kc K V (by omega) h1 h2 hbi.2.1 hrk).mono ?_
      rintro e w' ⟨v, rfl, ho, hb⟩
      obtain ⟨ra, rc, rfl, hrs, hd⟩ := ho.slice
      exact ⟨ra, _, rc, rfl, hrs, fun d h => (by obtain ⟨g, cur, rfl, hg, -⟩ := hd d h; exact hg), hb⟩
    have HLE : Hid (∀ ra rn rc V, Sl Rn.cod V ra rn rc (runsE ss K) → Calls Tryz.prog 27 #[.slice ra rn rc, .int .i64 st] V fun e w' => ∃ (ga : Option Addr) (gn gc : Nat), e = .returned (.slice ga gn gc) ∧ Sl Lg.cod w' ga gn gc (legsE (runsE ss K) st) ∧ (∀ d, ga = some d → V.heap.size ≤ d.block) ∧ Below V.heap.size V w') := fun ra rn rc V h1 => by
      refine (rlegs_any ra rn rc (runsE ss K) st V (by have h := h1.hlen; have h2 : (runsE ss K).length ≤ K.length := hrok.2.2; omega) h1 hrok.1).mono ?_
      rintro e w' ⟨v, rfl, ho, hb⟩
      obtain ⟨ga, gc, rfl, hgs, hd⟩ := ho.slice
      exact ⟨ga, _, gc, rfl, hgs, fun d h => (by obtain ⟨g, cur, rfl, hg, -⟩ := hd d h; exact hg), hb⟩
    have hC0 : decide (C < 0) = false := decide_eq_false (by omega)
    have HXV : Hid (X = ⟨0, ss, C, runsE ss K, legsE (runsE ss K) st⟩) := by
      show _ = _
      rw [← HXE.out, ← trT_self, trT_some HCE.out HMR.out rfl HBR.out (by rw [show keepE (Rul.mk ⟨sp, gp⟩ ⟨xr, xm, xf, xc⟩ st).f l = K from HKE.out]; exact HAE.out) (ss := ss) (by rw [show keepE (Rul.mk ⟨sp, gp⟩ ⟨xr, xm, xf, xc⟩ st).f l = K from HKE.out, HGE.out]; exact HRG.out)]
      rw [show keepE (Rul.mk ⟨sp, gp⟩ ⟨xr, xm, xf, xc⟩ st).f l = K from HKE.out, HGE.out, show (pickE (stepE n hs.n (Rul.mk ⟨sp, gp⟩ ⟨xr, xm, xf, xc⟩ st).x) none G).1 = C from HC.out]
    clear hbi hrok hrk o1 o2 hC HBE
    have HBE := HBE2
    clear HBE2
    go_enter Tryz.func9, Tryz.ntmps9
    go_wp2_with (first
      | (go_at_call 21; go_fit (rcheck_any n hs hl _ ⟨by omega, by omega⟩ (HNT.out.below HB0.out)); rintro e w1 ⟨rfl, hb1⟩; rw [HCE.out]; have HX1 := Lib.hid (box_below HX0.out hb1); have HY1 := Lib.hid (box_below HY0.out hb1); have HZ1 := Lib.hid (box_below HZ0.out hb1); obtain ⟨c0, c1, c2⟩ := gcheck_box HX1.out; obtain ⟨d0, d1, d2, d3, d4, d5, d6⟩ := box7_cells HY1.out; obtain ⟨x0, x1, x2, x3⟩ := box4w_cells HZ1.out; obtain ⟨-, y0⟩ := box_cell HZ1.out 0; obtain ⟨-, y1⟩ := box_cell HZ1.out 1; obtain ⟨-, y2⟩ := box_cell HZ1.out 2; obtain ⟨-, y3⟩ := box_cell HZ1.out 3; have HB1 := Lib.hid (HB0.out.trans (hb1.mono HB0.out.size)); clear hb1)
      | (go_at_call 11; go_fit (rmtmay_any ⟨⟨sp, gp⟩, ⟨xr, xm, xf, xc⟩, st⟩ _); rintro e w2 ⟨rfl, hb2⟩; rw [HMR.out]; have HX2 := Lib.hid (box_below HX1.out hb2); have HY2 := Lib.hid (box_below HY1.out hb2); have HZ2 := Lib.hid (box_below HZ1.out hb2); obtain ⟨c0, c1, c2⟩ := gcheck_box HX2.out; obtain ⟨d0, d1, d2, d3, d4, d5, d6⟩ := box7_cells HY2.out; obtain ⟨x0, x1, x2, x3⟩ := box4w_cells HZ2.out; obtain ⟨-, y0⟩ := box_cell HZ2.out 0; obtain ⟨-, y1⟩ := box_cell HZ2.out 1; obtain ⟨-, y2⟩ := box_cell HZ2.out 2; obtain ⟨-, y3⟩ := box_cell HZ2.out 3; have HB2 := Lib.hid (HB1.out.trans (hb2.mono HB1.out.size)); clear hb2)
      | (go_at_call 22; go_fit (HKP.out _ HB2.out); rintro e w3 ⟨ka, kc, u, rfl, ho3, hb3⟩; have HK3 := Lib.hid ho3; have HX3 := Lib.hid (box_below HX2.out hb3); have HY3 := Lib.hid (box_below HY2.out hb3); have HZ3 := Lib.hid (box_below HZ2.out hb3); obtain ⟨c0, c1, c2⟩ := gcheck_box HX3.out; obtain ⟨d0, d1, d2, d3, d4, d5, d6⟩ := box7_cells HY3.out; obtain ⟨x0, x1, x2, x3⟩ := box4w_cells HZ3.out; obtain ⟨-, y0⟩ := box_cell HZ3.out 0; obtain ⟨-, y1⟩ := box_cell HZ3.out 1; obtain ⟨-, y2⟩ := box_cell HZ3.out 2; obtain ⟨-, y3⟩ := box_cell HZ3.out 3; have HB3 := Lib.hid (HB2.out.trans (hb3.mono HB2.out.size)); clear hb3 ho3)
      | (go_at_call 23; go_fit (HAL.out ka kc _ HB3.out HK3.out); rintro e w4 ⟨pa, pn, pc, rfl, ho4, hb4⟩; have HP4 := Lib.hid ho4; have HK4 := Lib.hid (HK3.out.below hb4); have HX4 := Lib.hid (box_below HX3.out hb4); have HY4 := Lib.hid (box_below HY3.out hb4); have HZ4 := Lib.hid (box_below HZ3.out hb4); obtain ⟨c0, c1, c2⟩ := gcheck_box HX4.out; obtain ⟨d0, d1, d2, d3, d4, d5, d6⟩ := box7_cells HY4.out; obtain ⟨x0, x1, x2, x3⟩ := box4w_cells HZ4.out; obtain ⟨-, y0⟩ := box_cell HZ4.out 0; obtain ⟨-, y1⟩ := box_cell HZ4.out 1; obtain ⟨-, y2⟩ := box_cell HZ4.out 2; obtain ⟨-, y3⟩ := box_cell HZ4.out 3; have HB4 := Lib.hid (HB3.out.trans (hb4.mono HB3.out.size)); clear hb4 ho4)
      | (go_at_call 24; go_fit (HCO.out pa pn pc _ HP4.out); rintro e w5 ⟨rfl, rfl⟩)
      | (go_at_call 25; go_fit (HBE.out pa pn pc _ HB4.out HP4.out); rintro e w6 ⟨sa, -, sc, rfl, ho6, hd6, hb6⟩; have HS6 := Lib.hid ho6; have HD6 := Lib.hid hd6; have HK6 := Lib.hid (HK4.out.below hb6); have HX6 := Lib.hid (box_below HX4.out hb6); have HY6 := Lib.hid (box_below HY4.out hb6); have HZ6 := Lib.hid (box_below HZ4.out hb6); obtain ⟨c0, c1, c2⟩ := gcheck_box HX6.out; obtain ⟨d0, d1, d2, d3, d4, d5, d6⟩ := box7_cells HY6.out; obtain ⟨x0, x1, x2, x3⟩ := box4w_cells HZ6.out; obtain ⟨-, y0⟩ := box_cell HZ6.out 0; obtain ⟨-, y1⟩ := box_cell HZ6.out 1; obtain ⟨-, y2⟩ := box_cell HZ6.out 2; obtain ⟨-, y3⟩ := box_cell HZ6.out 3; have HB6 := Lib.hid (HB4.out.trans (hb6.mono HB4.out.size)); clear hb6 ho6 hd6)
      | (go_at_call 26; go_fit (HRU.out sa sc ka kc _ HS6.out HK6.out); rintro e w7 ⟨ra, rn, rc, rfl, ho7, hd7, hb7⟩; have HR7 := Lib.hid ho7; have HD7 := Lib.hid hd7; have HS7 := Lib.hid (HS6.out.below hb7); have HX7 := Lib.hid (box_below HX6.out hb7); have HY7 := Lib.hid (box_below HY6.out hb7); have HZ7 := Lib.hid (box_below HZ6.out hb7); obtain ⟨c0, c1, c2⟩ := gcheck_box HX7.out; obtain ⟨d0, d1, d2, d3, d4, d5, d6⟩ := box7_cells HY7.out; obtain ⟨x0, x1, x2, x3⟩ := box4w_cells HZ7.out; obtain ⟨-, y0⟩ := box_cell HZ7.out 0; obtain ⟨-, y1⟩ := box_cell HZ7.out 1; obtain ⟨-, y2⟩ := box_cell HZ7.out 2; obtain ⟨-, y3⟩ := box_cell HZ7.out 3; have HB7 := Lib.hid (HB6.out.trans (hb7.mono HB6.out.size)); clear hb7 ho7 hd7)
      | (go_at_call 27; go_fit (HLE.out ra rn rc _ HR7.out); rintro e w8 ⟨ga, gn, gc, rfl, ho8, hd8, hb8⟩; have HG8 := Lib.hid ho8; have HD8 := Lib.hid hd8; have HR8 := Lib.hid (HR7.out.below hb8); have HS8 := Lib.hid (HS7.out.below hb8); have HX8 := Lib.hid (box_below HX7.out hb8); have HY8 := Lib.hid (box_below HY7.out hb8); have HZ8 := Lib.hid (box_below HZ7.out hb8); obtain ⟨c0, c1, c2⟩ := gcheck_box HX8.out; obtain ⟨d0, d1, d2, d3, d4, d5, d6⟩ := box7_cells HY8.out; obtain ⟨x0, x1, x2, x3⟩ := box4w_cells HZ8.out; obtain ⟨-, y0⟩ := box_cell HZ8.out 0; obtain ⟨-, y1⟩ := box_cell HZ8.out 1; obtain ⟨-, y2⟩ := box_cell HZ8.out 2; obtain ⟨-, y3⟩ := box_cell HZ8.out 3; have HB8 := Lib.hid (HB7.out.trans (hb8.mono HB7.out.size)); clear hb8 ho8 hd8))
    refine bodyPost_ret (mt_results_row rfl _ _ (w.heap.size + 1 + 1) _ _ _ _ rfl (mt_box4_set HZ8.out _ _ _ _) Tryz.underlying39 rfl (by kernel_rfl)) rfl ?_
    rw [HXV.out]
    have hz := HZS.out
    have q4 : w.heap.size + 1 + 1 < w4.heap.size := box_lt HZ4.out
    have q6 : w.heap.size + 1 + 1 < w6.heap.size := box_lt HZ6.out
    have q7 : w.heap.size + 1 + 1 < w7.heap.size := box_lt HZ7.out
    have e1 : ∀ d, sa = some d → 0 < sc → d.block ≠ w.heap.size + 1 + 1 := fun d h _ => by have := HD6.out d h; omega
    have e2 : ∀ d, ra = some d → 0 < rc → d.block ≠ w.heap.size + 1 + 1 := fun d h _ => by have := HD7.out d h; omega
    have e3 : ∀ d, ga = some d → 0 < gc → d.block ≠ w.heap.size + 1 + 1 := fun d h _ => by have := HD8.out d h; omega
    refine ⟨⟨sa, K.length, sc⟩, ⟨ra, rn, rc⟩, ⟨ga, gn, gc⟩, C, 0, rfl, (((((HB8.out).setCell (p := ⟨w.heap.size + 1 + 1, 0, none⟩) hB _).setCell (p := ⟨w.heap.size + 1 + 1, 1, none⟩) hB _).setCell (p := ⟨w.heap.size + 1 + 1, 2, none⟩) hB _).setCell (p := ⟨w.heap.size + 1 + 1, 3, none⟩) hB _), .inr ⟨rfl, rfl, ?_⟩⟩
    exact ⟨sl_set (sl_set (sl_set (sl_set HS8.out _ e1) _ e1) _ e1) _ e1, sl_set (sl_set (sl_set (sl_set HR8.out _ e2) _ e2) _ e2) _ e2, sl_set (sl_set (sl_set (sl_set HG8.out _ e3) _ e3) _ e3) _ e3⟩
end Go.Proofs.YtlfbbahihenilaaGreat.Ne
