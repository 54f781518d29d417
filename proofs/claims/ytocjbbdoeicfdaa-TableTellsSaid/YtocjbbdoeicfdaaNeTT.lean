/- Networks: a table tells the document's distances: the law walked. -/
import Derived.Test.YtocjbbdoeicfdaaNeZ
import Derived.Test.YtocjbbdoeicfdaaNeE
import Derived.Deep.RegionHeld3
namespace Go.Proofs.Ytocjbbdoeicfdaa.Ne
open Go.RowKit Go.V Go.Proofs Go.Sort Go.Maps

/-- Two stops that are asked for. -/
structure P2 where
  a : Int
  b : Int
def p2cod : Cod P2 := ⟨2, fun p => [.int .i64 p.a, .int .i64 p.b], fun _ => rfl, by simp [Value.oneCell']⟩
theorem p2_at {w : World} {a : Option Addr} {n cap : Nat} {l : List P2} (h : Sl p2cod w a n cap l) {i : Nat} (hi : i < n) :
   ∃ b off r, a = some ⟨b, off, none⟩ ∧ b < w.heap.size ∧ l[i]? = some r ∧ w.cell? ⟨b, off + i * 2, none⟩ = some (.int .i64 r.a) ∧ w.cell? ⟨b, off + i * 2 + 1, none⟩ = some (.int .i64 r.b) := by
  obtain ⟨b, off, rfl, hb, r, hr, hc⟩ := h.some hi
  exact ⟨b, off, r, rfl, hb, hr, hc 0 _ rfl, hc 1 _ rfl⟩

theorem TabIn.mg_lt {w : World} {base tg mg N : Nat} {n : Net} {hs hl : Hdr} (h : TabIn w base tg mg N n hs hl) : mg < w.heap.size := by
  obtain ⟨D, h1, -⟩ := h.map
  exact h1.lt

set_option maxHeartbeats 8000000 in
set_option maxRecDepth 100000 in
theorem ttells_any (n : Net) (hs hl : Hdr) (pa : Option Addr) (pn pc : Nat) (ps : List P2) (w : World) (h : NetIn w n hs hl) (hp : Sl p2cod w pa pn pc ps) :
    Calls Try.prog 3 #[n.val hs hl, .slice pa pn pc] w fun e w' => e = .returned (.bool true) ∧ Below w.heap.size w w' := by
  have mixed : Try.prog.follows .mixedOrders = true := by kernel_rfl
  obtain ⟨sa, k, sc⟩ := hs
  obtain ⟨la, m, lc⟩ := hl
  have hpn : pn ≤ 9223372036854775807 := by have := hp.hcap; have := hp.hmax; unfold maxLen at this; omega
  have HH := Lib.hid h
  have HP := Lib.hid hp
  have HX0 := Lib.hid (box_new w (n.box ⟨sa, k, sc⟩ ⟨la, m, lc⟩))
  have HB0 : Hid (Below w.heap.size w (w.alloc (n.box ⟨sa, k, sc⟩ ⟨la, m, lc⟩))) := (Below.refl _ _).alloc (Nat.le_refl _) _
  obtain ⟨c0, c1, c2, -, -, -⟩ := box3_cells HX0.out
  clear h hp
  go_enter Try.func3, Try.ntmps3
  go_upto_region 3 with (go_at_call 6; refine (awake18_any _).mono ?_; rintro e w1 ⟨rfl, hb1⟩; have HB1 := Lib.hid (HB0.out.trans (hb1.mono HB0.out.size)); have HX1 := Lib.hid (box_below HX0.out hb1); clear hb1)
  clear c0 c1 c2 HX0 HB0
  obtain ⟨c0, c1, c2, -, -, -⟩ := box3_cells HX1.out
  obtain ⟨fb, hfb⟩ : ∃ fb, decide (k ≤ 60 ∧ m ≤ 120) = fb := ⟨_, rfl⟩
  have HFB := Lib.hid hfb
  clear hfb
  cases fb with
  | false =>
    go_wp2_with (go_at_call 7; refine (few_any n ⟨sa, k, sc⟩ ⟨la, m, lc⟩ _).mono ?_; rintro e w2 ⟨rfl, hb2⟩; rw [HFB.out]; have HB2 := Lib.hid (HB1.out.trans (hb2.mono HB1.out.size)); clear hb2)
    go_ret
    exact ⟨rfl, HB2.out⟩
  | true =>
  obtain ⟨k60, m120⟩ := of_decide_eq_true HFB.out
  by_cases hbig : (20 : Int) < (pn : Int)
  · go_wp2_with (go_at_call 7; refine (few_any n ⟨sa, k, sc⟩ ⟨la, m, lc⟩ _).mono ?_; rintro e w2 ⟨rfl, hb2⟩; rw [HFB.out]; have HB2 := Lib.hid (HB1.out.trans (hb2.mono HB1.out.size)); clear hb2)
    go_ret
    exact ⟨rfl, HB2.out⟩
  have hbf : decide ((20 : Int) < (pn : Int)) = false := decide_eq_false hbig
  have hp20 : pn ≤ 20 := by omega
  have HM : Hid (k ≤ 1000000 ∧ m ≤ 1000000) := ⟨by omega, by omega⟩
  go_upto_region 5 with (go_at_call 7; refine (few_any n ⟨sa, k, sc⟩ ⟨la, m, lc⟩ _).mono ?_; rintro e w2 ⟨rfl, hb2⟩; rw [HFB.out]; have HB2 := Lib.hid (HB1.out.trans (hb2.mono HB1.out.size)); have HX2 := Lib.hid (box_below HX1.out hb2); clear hb2)
  clear c0 c1 c2 HX1 HB1 hbf
  obtain ⟨c0, c1, c2, -, -, -⟩ := box3_cells HX2.out
  obtain ⟨ce, hce⟩ : ∃ ce, checkE n = ce := ⟨_, rfl⟩
  have HCE := Lib.hid hce
  clear hce
  by_cases he : ce = 0
  case neg =>
    have e0 : (ce == 0) = false := by simpa using he
    have HNE : Hid (checkE n ≠ 0) := by show _ ≠ _; rw [HCE.out]; exact he
    go_wp2_with (first
      | (go_at_call 8; refine (tnew_any n ⟨sa, k, sc⟩ ⟨la, m, lc⟩ _ HM.out (HH.out.below HB2.out)).mono ?_; rintro e w3 ⟨hb3, hf, -⟩; have hf2 := hf HNE.out; subst hf2; rw [HCE.out]; have HB3 := Lib.hid (HB2.out.trans (hb3.mono HB2.out.size)); have HX3 := Lib.hid (box_below HX2.out hb3); obtain ⟨d0, d1, d2, -, -, -⟩ := box3_cells HX3.out; clear hb3 hf)
      | (go_at_call 9; go_loud (refine (rcheck_any n ⟨sa, k, sc⟩ ⟨la, m, lc⟩ _ HM.out (HH.out.below HB3.out)).mono ?_); rintro e w4 ⟨rfl, hb4⟩; rw [HCE.out]; have HB4 := Lib.hid (HB3.out.trans (hb4.mono HB3.out.size)); clear hb4))
    go_ret
    exact ⟨rfl, HB4.out⟩
  case pos =>
    subst he
    go_upto_region 9 with (first
      | (go_at_call 8; refine (tnew_any n ⟨sa, k, sc⟩ ⟨la, m, lc⟩ _ HM.out (HH.out.below HB2.out)).mono ?_; rintro e w3 ⟨hb3, -, hf⟩; obtain ⟨tg, rfl, mg, ht, hne⟩ := hf HCE.out; have HB3 := Lib.hid (HB2.out.trans (hb3.mono HB2.out.size)); have HX3 := Lib.hid (box_below HX2.out hb3); have HT3 := Lib.hid ht; have HNE := Lib.hid hne; obtain ⟨d0, d1, d2, -, -, -⟩ := box3_cells HX3.out; clear hb3 hf ht hne)
      | (go_at_call 9; go_loud (refine (rcheck_any n ⟨sa, k, sc⟩ ⟨la, m, lc⟩ _ HM.out (HH.out.below HB3.out)).mono ?_); rintro e w4 ⟨rfl, hb4⟩; rw [HCE.out]; have HB4 := Lib.hid (HB3.out.trans (hb4.mono HB3.out.size)); have HX4 := Lib.hid (box_below HX3.out hb4); have HT4 := Lib.hid (HT3.out.below hb4); clear hb4))
    clear c0 c1 c2 d0 d1 d2 HX3 HB3 HT3
    obtain ⟨c0, c1, c2, -, -, -⟩ := box3_cells HX4.out
    have C0 := cell_regrown c0
    have C1 := cell_regrown c1
    obtain ⟨W4, hW4⟩ : ∃ W4, w4 = W4 := ⟨_, rfl⟩
    rw [hW4] at HX4 HB4 HT4 C0 C1 c0 c1 c2 ⊢
    clear hW4
    refine wp_region_quiet_below (by assumption) (by kernel_rfl) ?_
    repeat (go_big_quiet_step (first
      | (go_at_call 10; exact Calls.regrown_of ((tlen_any _ _ tg mg 0 n ⟨sa, k, sc⟩ ⟨la, m, lc⟩ (HT4.out.below (below_regrown W4 _ _))).mono fun _ _ q => ⟨q.1, q.2 ▸ Below.refl _ _⟩))
      | (go_at_call 11; exact Calls.regrown_of ((tver_any _ _ tg mg 0 n ⟨sa, k, sc⟩ ⟨la, m, lc⟩ (HT4.out.below (below_regrown W4 _ _))).mono fun _ _ q => ⟨q.1, q.2 ▸ Below.refl _ _⟩))))
    refine wpQuiet_nil ?_
    intro w5 hw5
    obtain ⟨⟨nd, osq⟩, rfl⟩ := hw5
    have hbq := below_regrown W4 nd osq
    generalize grow (redrawn W4 nd) osq = w5 at hbq ⊢
    have HX5 := Lib.hid (box_below HX4.out hbq)
    have HB5 := Lib.hid (HB4.out.trans (hbq.mono HB4.out.size))
    have HT5 := Lib.hid (HT4.out.below hbq)
    clear hbq C0 C1 c0 c1 c2 HX4 HB4 HT4
    have hbx := box_lt HX2.out
    obtain ⟨B, hB⟩ : ∃ B, w2.heap.size = B := ⟨_, rfl⟩
    rw [hB] at HT5 hbx
    have HBB := Lib.hid hbx
    clear hB hbx
    go_wp2_with fail
    go_loopw [67] (fun i wr => ∃ j : Nat, i = .int .i64 j ∧ j ≤ pn ∧ Hid (wr.heap[w.heap.size]? = some (n.box ⟨sa, k, sc⟩ ⟨la, m, lc⟩)) ∧ Hid (Below w.heap.size w wr) ∧ Hid (TabIn wr B tg mg j n ⟨sa, k, sc⟩ ⟨la, m, lc⟩)) (fun i _ => pn - (intOf i).toNat)
    case atStart => exact ⟨0, by go_num, by omega, HX5.out, HB5.out, HT5.out⟩
    case round =>
      obtain ⟨j, rfl, hj, HXr, HBr, HTr⟩ := hrel
      obtain ⟨c0, c1, c2, -, -, -⟩ := box3_cells HXr.out
      by_cases hlt : j < pn
      · obtain ⟨bl, off, p, rfl, hbl, hpj, p0, p1⟩ := p2_at (HP.out.below HBr.out) hlt
        go_upto_region 14 with fail
        have hyl := HBr.out.size
        have HXa := Lib.hid (box_alloc (o := .cells #[.int .i64 p.a, .int .i64 p.b] 35) HXr.out)
        have HXp := Lib.hid (box_new wr (.cells #[.int .i64 p.a, .int .i64 p.b] 35))
        have HBa : Hid (Below w.heap.size w (wr.alloc (.cells #[.int .i64 p.a, .int .i64 p.b] 35))) := HBr.out.alloc HBr.out.size _
        have HTa := Lib.hid (HTr.out.below ((Below.refl _ _).alloc (Nat.le_refl _) (.cells #[.int .i64 p.a, .int .i64 p.b] 35)))
        have hmr := HTr.out.mg_lt
        obtain ⟨y, hy⟩ : ∃ y, wr.heap.size = y := ⟨_, rfl⟩
        obtain ⟨X, hX⟩ : ∃ X, wr.alloc (.cells #[.int .i64 p.a, .int .i64 p.b] 35) = X := ⟨_, rfl⟩
        rw [hX] at HXa HXp HBa HTa ⊢
        rw [hy] at HXp hmr ⊢
        clear c0 c1 c2 hX hy p0 p1 HXr HBr HTr hbl
        obtain ⟨c0, c1, c2, -, -, -⟩ := box3_cells HXa.out
        obtain ⟨y0, y1, -, -⟩ := box2_cells HXp.out
        have hnm : w.heap.size ≠ mg := by have := HTa.out.bm; have := HBB.out; omega
        have hym : y ≠ mg := by omega
        go_region_held3 (fun w' => w'.cell? ⟨w.heap.size, 0, none⟩ = some (.int .i64 n.ver) ∧ w'.cell? ⟨w.heap.size, 1, none⟩ = some (.slice sa k sc) ∧ w'.cell? ⟨w.heap.size, 2, none⟩ = some (.slice la m lc) ∧ w'.cell? ⟨y, 0, none⟩ = some (.int .i64 p.a) ∧ w'.cell? ⟨y, 1, none⟩ = some (.int .i64 p.b))
          (first | go_keep | (exact ⟨e0, e1, e2, z0, z1⟩) | (exact ⟨f0, f1, f2, x0, x1⟩))
          (first
            | (go_at_call 12; go_loud (refine (tfar_any _ B tg mg j n ⟨sa, k, sc⟩ ⟨la, m, lc⟩ p.a p.b (HTa.out.below (Below.drew (Below.refl _ _))) HCE.out (by omega) HNE.out).mono ?_); rintro e v1 ⟨rfl, ht1, hc1⟩; have HT1 := Lib.hid ht1; have HC1 : Hid (Chg X v1 mg none) := (Chg.of_below (Below.drew (Below.refl _ _)) mg none).trans hc1 (.inl rfl); have HXb := Lib.hid (HC1.out.box HXa.out hnm (by simp)); have HXq := Lib.hid (HC1.out.box HXp.out hym (by simp)); obtain ⟨e0, e1, e2, -, -, -⟩ := box3_cells HXb.out; obtain ⟨z0, z1, -, -⟩ := box2_cells HXq.out; have HB1 := Lib.hid (HBa.out.trans (HC1.out.below (by have := HTa.out.bm; have := HBB.out; omega) (by simp) HBa.out.size)); clear ht1 hc1)
            | (go_at_call 13; go_loud (refine (rfar_any n ⟨sa, k, sc⟩ ⟨la, m, lc⟩ p.a p.b _ (HH.out.below HB1.out) HCE.out k60 m120).mono ?_); rintro e v2 ⟨rfl, hb2⟩; have HT2 := Lib.hid (HT1.out.below hb2); have HXc := Lib.hid (box_below HXb.out hb2); obtain ⟨f0, f1, f2, -, -, -⟩ := box3_cells HXc.out; have HXr2 := Lib.hid (box_below HXq.out hb2); obtain ⟨x0, x1, -, -⟩ := box2_cells HXr2.out; have HB2' := Lib.hid (HB1.out.trans (hb2.mono HB1.out.size)); clear hb2))
        all_goals
          go_wp2_with fail
          go_roundw
          case rel => exact ⟨j + 1, by go_num, by omega, HXc.out, HB2'.out, HT2.out⟩
          case measure => simp [intOf]; omega
      · have hjn : pn = j := by omega
        subst hjn
        go_wp2_with (first
          | (go_at_call 14; go_loud (refine (tround_any _ _ tg mg _ n _ _ HTr.out HCE.out (by omega) HNE.out).mono ?_); rintro e w6 ⟨rfl, ht6, hc6⟩; have HX6 := Lib.hid (hc6.box HXr.out (by have := HTr.out.bm; have := HBB.out; omega) (by simp)); have HB6 := Lib.hid (HBr.out.trans (hc6.below (by have := HTr.out.bm; have := HBB.out; omega) (by simp) HBr.out.size)); obtain ⟨d0, d1, d2, -, -, -⟩ := box3_cells HX6.out; clear ht6 hc6)
          | (go_at_call 15; go_loud (refine (rround_any n _ _ _ (HH.out.below HB6.out) HCE.out k60 m120).mono ?_); rintro e w7 ⟨rfl, hb7⟩; have HB7 := Lib.hid (HB6.out.trans (hb7.mono HB6.out.size)); clear hb7))
        go_ret
        exact ⟨rfl, HB7.out⟩
end Go.Proofs.Ytocjbbdoeicfdaa.Ne
