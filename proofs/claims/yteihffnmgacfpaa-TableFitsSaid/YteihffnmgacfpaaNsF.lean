/- Networks: a table tells the same again, both ways, and what the best way has: the law walked. -/
import Derived.Test.YteihffnmgacfpaaNsE
import Derived.Test.YteihffnmgacfpaaNsD
import Derived.Deep.RegionHeld3
namespace Go.Proofs.Yteihffnmgacfpaa.Ne
open Go.RowKit Go.V Go.Proofs Go.Sort Go.Maps

set_option maxHeartbeats 8000000 in
set_option maxRecDepth 100000 in
theorem tfits_any (n : Net) (hs hl : Hdr) (pa : Option Addr) (pn pc : Nat) (ps : List B2) (w : World) (h : NetIn w n hs hl) (hp : Sl b2cod w pa pn pc ps) (hb2 : ∀ x ∈ ps, B2.ok x) :
    Calls Try.prog 12 #[n.val hs hl, .slice pa pn pc] w fun e w' => e = .returned (.bool true) ∧ Below w.heap.size w w' := by
  have mixed : Try.prog.follows .mixedOrders = true := by kernel_rfl
  obtain ⟨sa, k, sc⟩ := hs
  obtain ⟨la, m, lc⟩ := hl
  have hpn : pn ≤ 9223372036854775807 := by have := hp.hcap; have := hp.hmax; unfold maxLen at this; omega
  have HH := Lib.hid h
  have HP := Lib.hid hp
  have HOKB := Lib.hid hb2
  have HKN : Hid (k = n.stops.length) := h.s.hlen
  have HX0 := Lib.hid (box_new w (n.box ⟨sa, k, sc⟩ ⟨la, m, lc⟩))
  have HB0 : Hid (Below w.heap.size w (w.alloc (n.box ⟨sa, k, sc⟩ ⟨la, m, lc⟩))) := (Below.refl _ _).alloc (Nat.le_refl _) _
  obtain ⟨c0, c1, c2, -, -, -⟩ := box3_cells HX0.out
  clear h hp hb2
  go_enter Try.func12, Try.ntmps12
  go_upto_region 7 with (first
    | (go_at_call 15; refine (awake18_any _).mono ?_; rintro e w1 ⟨rfl, hb1⟩; have HB1 := Lib.hid (HB0.out.trans (hb1.mono HB0.out.size)); have HX1 := Lib.hid (box_below HX0.out hb1); clear hb1)
    | (go_at_call 23; refine (tround_nil _).mono ?_; rintro e w1' ⟨rfl, rfl⟩)
    | (go_at_call 21; refine (tfar_nil _).mono ?_; rintro e w1' ⟨rfl, rfl⟩)
    | (go_at_call 19; refine (tlen_nil _).mono ?_; rintro e w1' ⟨rfl, rfl⟩)
    | (go_at_call 20; refine (tver_nil _).mono ?_; rintro e w1' ⟨rfl, rfl⟩))
  clear c0 c1 c2 HX0 HB0
  obtain ⟨c0, c1, c2, -, -, -⟩ := box3_cells HX1.out
  obtain ⟨fb, hfb⟩ : ∃ fb, decide (k ≤ 60 ∧ m ≤ 120) = fb := ⟨_, rfl⟩
  have HFB := Lib.hid hfb
  clear hfb
  cases fb with
  | false =>
    go_wp2_with (go_at_call 16; refine (few_any n ⟨sa, k, sc⟩ ⟨la, m, lc⟩ _).mono ?_; rintro e w2 ⟨rfl, hb2⟩; rw [HFB.out]; have HB2 := Lib.hid (HB1.out.trans (hb2.mono HB1.out.size)); clear hb2)
    go_ret
    exact ⟨rfl, HB2.out⟩
  | true =>
  obtain ⟨k60, m120⟩ := of_decide_eq_true HFB.out
  by_cases hbig : (20 : Int) < (pn : Int)
  · go_wp2_with (go_at_call 16; refine (few_any n ⟨sa, k, sc⟩ ⟨la, m, lc⟩ _).mono ?_; rintro e w2 ⟨rfl, hb2⟩; rw [HFB.out]; have HB2 := Lib.hid (HB1.out.trans (hb2.mono HB1.out.size)); clear hb2)
    go_ret
    exact ⟨rfl, HB2.out⟩
  have hbf : decide ((20 : Int) < (pn : Int)) = false := decide_eq_false hbig
  have hp20 : pn ≤ 20 := by omega
  by_cases hk0 : k = 0
  · subst hk0
    go_wp2_with (go_at_call 16; refine (few_any n ⟨sa, 0, sc⟩ ⟨la, m, lc⟩ _).mono ?_; rintro e w2 ⟨rfl, hb2⟩; rw [HFB.out]; have HB2 := Lib.hid (HB1.out.trans (hb2.mono HB1.out.size)); have HX2 := Lib.hid (box_below HX1.out hb2); obtain ⟨d0, d1, d2, -, -, -⟩ := box3_cells HX2.out; clear hb2)
    go_ret
    exact ⟨rfl, HB2.out⟩
  have hkb : ((k : Int) == 0) = false := by simpa using hk0
  have HM : Hid (k ≤ 1000000 ∧ m ≤ 1000000) := ⟨by omega, by omega⟩
  go_upto_region 9 with (go_at_call 16; refine (few_any n ⟨sa, k, sc⟩ ⟨la, m, lc⟩ _).mono ?_; rintro e w2 ⟨rfl, hb2⟩; rw [HFB.out]; have HB2 := Lib.hid (HB1.out.trans (hb2.mono HB1.out.size)); have HX2 := Lib.hid (box_below HX1.out hb2); obtain ⟨d0, d1, d2, -, -, -⟩ := box3_cells HX2.out; clear hb2)
  clear c0 c1 c2 HX1 HB1 hbf
  obtain ⟨ce, hce⟩ : ∃ ce, checkE n = ce := ⟨_, rfl⟩
  have HCE := Lib.hid hce
  clear hce
  by_cases he : ce = 0
  case neg =>
    have e0 : (ce == 0) = false := by simpa using he
    have HNE : Hid (checkE n ≠ 0) := by show _ ≠ _; rw [HCE.out]; exact he
    go_wp2_with (go_at_call 17; refine (tnew_any n ⟨sa, k, sc⟩ ⟨la, m, lc⟩ _ HM.out (HH.out.below HB2.out)).mono ?_; rintro e w3 ⟨hb3, hf, -⟩; have hf2 := hf HNE.out; subst hf2; rw [HCE.out]; have HB3 := Lib.hid (HB2.out.trans (hb3.mono HB2.out.size)); clear hb3 hf)
    go_ret
    exact ⟨rfl, HB3.out⟩
  case pos =>
    subst he
    have hgl := box_lt HX2.out
    have HRM := Lib.hid (round_most HCE.out HKN.out (by omega) (by omega))
    have hrb : roundB k = true := by unfold roundB; rw [decide_eq_false (by omega)]; rfl
    have HRB := Lib.hid hrb
    obtain ⟨ra, hra⟩ : ∃ ra, (roundE n.links k).a = ra := ⟨_, rfl⟩
    obtain ⟨rb, hrb'⟩ : ∃ rb, (roundE n.links k).b = rb := ⟨_, rfl⟩
    obtain ⟨mo, hmo⟩ : ∃ mo, (roundE n.links k).far = mo := ⟨_, rfl⟩
    have HRA : Hid ((roundE n.links k).a = ra ∧ (roundE n.links k).b = rb ∧ (roundE n.links k).far = mo) := ⟨hra, hrb', hmo⟩
    rw [hmo] at HRM
    clear hra hrb' hmo hrb
    obtain ⟨B, hBe⟩ : ∃ B, w2.heap.size = B := ⟨_, rfl⟩
    have HBE := Lib.hid hBe
    clear hBe
    go_wp2_with (first
      | (go_at_call 17; refine (tnew_any n ⟨sa, k, sc⟩ ⟨la, m, lc⟩ _ HM.out (HH.out.below HB2.out)).mono ?_; rintro e w3 ⟨hb3, -, hf⟩; obtain ⟨tg, rfl, mg, ht, hne⟩ := hf HCE.out; rw [HBE.out] at ht; have HB3 := Lib.hid (HB2.out.trans (hb3.mono HB2.out.size)); have HX3 := Lib.hid (box_below HX2.out hb3); have HT3 := Lib.hid ht; have HNE := Lib.hid hne; clear hb3 hf ht hne)
      | (go_at_call 23; go_loud (refine (tround_any _ B tg mg 0 n ⟨sa, k, sc⟩ ⟨la, m, lc⟩ HT3.out HCE.out (by omega) HNE.out).mono ?_); rintro e w4 ⟨rfl, ht4, hc4⟩; rw [HRB.out, HRA.out.1, HRA.out.2.1, HRA.out.2.2]; have HT4 := Lib.hid ht4; have hgm : w.heap.size < mg := (by have := HT3.out.bm; have := HBE.out; omega); have HX4 := Lib.hid (hc4.box HX3.out (by omega) (by simp)); have HB4 := Lib.hid (HB3.out.trans (hc4.below (by omega) (by simp) HB3.out.size)); clear ht4 hc4))
    clear d0 d1 d2 HX2 HB2 HX3 HB3 HT3
    go_loopw [81] (fun i wr => ∃ j : Nat, i = .int .i64 j ∧ j ≤ pn ∧ Hid (wr.heap[w.heap.size]? = some (n.box ⟨sa, k, sc⟩ ⟨la, m, lc⟩)) ∧ Hid (Below w.heap.size w wr) ∧ Hid (TabIn wr B tg mg (512 + 3 * j) n ⟨sa, k, sc⟩ ⟨la, m, lc⟩)) (fun i _ => pn - (intOf i).toNat)
    case atStart => exact ⟨0, by go_num, by omega, HX4.out, HB4.out, HT4.out⟩
    case round =>
      obtain ⟨j, rfl, hj, HXr, HBr, HTr⟩ := hrel
      obtain ⟨c0, c1, c2, -, -, -⟩ := box3_cells HXr.out
      by_cases hlt : j < pn
      · obtain ⟨bl, off, p, e1, hbl, hpj, p0, p1⟩ := b2_at (HP.out.below HBr.out) hlt
        subst e1
        obtain ⟨xa, xb⟩ := p
        obtain ⟨k1, k2⟩ := HOKB.out _ (List.mem_of_getElem? hpj)
        simp only [] at k1 k2
        clear hpj
        go_upto_region 16 with fail
        have HXa := Lib.hid (box_alloc (o := .cells #[.int .u8 xa, .int .u8 xb] 84) HXr.out)
        have HXp := Lib.hid (box_new wr (.cells #[.int .u8 xa, .int .u8 xb] 84))
        have HBa : Hid (Below w.heap.size w (wr.alloc (.cells #[.int .u8 xa, .int .u8 xb] 84))) := HBr.out.alloc HBr.out.size _
        have HTa := Lib.hid (HTr.out.below ((Below.refl _ _).alloc (Nat.le_refl _) (.cells #[.int .u8 xa, .int .u8 xb] 84)))
        obtain ⟨y, hy⟩ : ∃ y, wr.heap.size = y := ⟨_, rfl⟩
        obtain ⟨X, hX⟩ : ∃ X, wr.alloc (.cells #[.int .u8 xa, .int .u8 xb] 84) = X := ⟨_, rfl⟩
        rw [hX] at HXa HXp HBa HTa ⊢
        rw [hy] at HXp ⊢
        clear c0 c1 c2 hX hy p0 p1 HXr HBr HTr hbl
        obtain ⟨c0, c1, c2, -, -, -⟩ := box3_cells HXa.out
        obtain ⟨y0, y1, -, -⟩ := box2_cells HXp.out
        obtain ⟨A, hA⟩ : ∃ A, (xa : Int).tmod (k : Int) = A := ⟨_, rfl⟩
        obtain ⟨C, hC⟩ : ∃ C, (xb : Int).tmod (k : Int) = C := ⟨_, rfl⟩
        have wa : IntKind.i64.wrap (xa : Int) = xa := by rw [IntKind.wrap_i64]; omega
        have wb : IntKind.i64.wrap (xb : Int) = xb := by rw [IntKind.wrap_i64]; omega
        have hAi : 0 ≤ A ∧ A < k := by rw [← hA]; exact ⟨Int.tmod_nonneg _ (by omega), Int.tmod_lt_of_pos _ (by omega)⟩
        have hCi : 0 ≤ C ∧ C < k := by rw [← hC]; exact ⟨Int.tmod_nonneg _ (by omega), Int.tmod_lt_of_pos _ (by omega)⟩
        go_region_held3 (fun w' => w'.cell? ⟨w.heap.size, 1, none⟩ = some (.slice sa k sc) ∧ w'.cell? ⟨y, 0, none⟩ = some (.int .u8 xa) ∧ w'.cell? ⟨y, 1, none⟩ = some (.int .u8 xb)) (go_keep) (fail)
        have HB5 : Hid (Below w.heap.size w X.drew) := HBa.out.trans (Below.drew (Below.refl _ _))
        have HX5 := Lib.hid (box_below HXa.out (Below.drew (Below.refl _ _)))
        have HT5 := Lib.hid (HTa.out.below (Below.drew (Below.refl _ _)))
        obtain ⟨Y, hY⟩ : ∃ Y, X.drew = Y := ⟨_, rfl⟩
        rw [hY] at HB5 HX5 HT5 ⊢
        clear c0 c1 c2 y0 y1 hY hA hC HXa HXp HBa HTa wa wb
        obtain ⟨d, hd⟩ : ∃ d, tfarE n k A C = d := ⟨_, rfl⟩
        have HD := Lib.hid hd
        have hfd : far n.links k A C = d := by
          rw [← hd]; unfold tfarE; rw [if_pos ⟨hAi.1, hAi.2, hCi.1, hCi.2⟩]
        have HDS : Hid (tfarE n k C A = d) := by show _ = _; rw [← hd]; exact tfar_symm HCE.out HKN.out A C
        have hfe : fromE n A = 0 := by
          have e : k = n.stops.length := HKN.out
          unfold fromE; rw [HCE.out, if_pos rfl, if_pos ⟨hAi.1, by omega⟩]
        have HWE : Hid (wayErr n k A C = if d < 0 then 30 else 0) := by
          show _ = _
          unfold wayErr; rw [hfe, if_neg (by simp), if_pos hCi, hfd]
        have HWF : Hid (wayFar n k A C = if d < 0 then 0 else d) := by
          show _ = _
          unfold wayFar
          rw [HWE.out]
          by_cases hd0 : d < 0
          · rw [if_pos hd0, if_pos hd0, if_neg (by decide)]
          · rw [if_neg hd0, if_neg hd0, if_pos rfl]; exact hfd
        have hmo := HRM.out A C
        rw [hd] at hmo
        have hm1 : decide (mo < d) = false := decide_eq_false (by omega)
        have HLO : Hid (LinksOk n.links k) := by
          have e : k = n.stops.length := HKN.out
          show LinksOk _ _; rw [e]; exact (check_ok HCE.out).2.2.2.2.1
        have hiff : A = C ↔ d = 0 := by
          rw [← hfd]
          constructor
          · intro e; rw [← e]; exact (far_is HLO.out hAi).self
          · intro e
            apply Classical.byContradiction
            intro hne
            exact (far_is HLO.out hAi).pos HLO.out (fun q => hne q.symm) e
        clear hd hfd hfe
        obtain ⟨c0, c1, c2, -, -, -⟩ := box3_cells HX5.out
        have hgm : w.heap.size < mg := by have := HT5.out.bm; have := HBE.out; omega
        by_cases hd0 : d < 0
        · have HD0 := Lib.hid hd0
          have hne : A ≠ C := fun e => by have := hiff.1 e; omega
          have q1 : (A == C) = false := by simpa using hne
          have hnz : d ≠ 0 := by omega
          have q2 : (d == 0) = false := by simpa using hnz
          have q3 : decide (0 ≤ d) = false := decide_eq_false (by omega)
          clear hiff hne hnz
          go_wp2_with (first
            | (go_at_call 21; go_fit (tfar_any _ B tg mg (512 + 3 * j) n ⟨sa, k, sc⟩ ⟨la, m, lc⟩ A C HT5.out HCE.out (by omega) HNE.out); rintro e v6 ⟨rfl, ht1, hc1⟩; rw [HD.out]; have HT6 := Lib.hid ht1; have HX6 := Lib.hid (hc1.box HX5.out (by omega) (by simp)); have HB6 := Lib.hid (HB5.out.trans (hc1.below (by omega) (by simp) HB5.out.size)); obtain ⟨e60, e61, e62, -, -, -⟩ := box3_cells HX6.out; clear ht1 hc1)
            | (go_at_call 45; go_loud (refine (pway_any n ⟨sa, k, sc⟩ ⟨la, m, lc⟩ A C _ k60 m120 (HH.out.below HB6.out)).mono ?_); rintro e v7 ⟨wv, rfl, -, hb7⟩; rw [HWE.out, HWF.out, if_pos HD0.out, if_pos HD0.out]; have HT7 := Lib.hid (HT6.out.below hb7); have HX7 := Lib.hid (box_below HX6.out hb7); have HB7 := Lib.hid (HB6.out.trans (hb7.mono HB6.out.size)); clear hb7)
            | (go_at_call 21; go_fit (tfar_any _ B tg mg (512 + 3 * j + 1) n ⟨sa, k, sc⟩ ⟨la, m, lc⟩ C A HT7.out HCE.out (by omega) HNE.out); rintro e v8 ⟨rfl, ht1, hc1⟩; rw [HDS.out]; have HT8 := Lib.hid ht1; have HX8 := Lib.hid (hc1.box HX7.out (by omega) (by simp)); have HB8 := Lib.hid (HB7.out.trans (hc1.below (by omega) (by simp) HB7.out.size)); obtain ⟨e80, e81, e82, -, -, -⟩ := box3_cells HX8.out; clear ht1 hc1)
            | (go_at_call 21; go_fit (tfar_any _ B tg mg (512 + 3 * j + 1 + 1) n ⟨sa, k, sc⟩ ⟨la, m, lc⟩ A C HT8.out HCE.out (by omega) HNE.out); rintro e v9 ⟨rfl, ht1, hc1⟩; rw [HD.out]; have HT9 := Lib.hid ht1; have HX9 := Lib.hid (hc1.box HX8.out (by omega) (by simp)); have HB9 := Lib.hid (HB8.out.trans (hc1.below (by omega) (by simp) HB8.out.size)); obtain ⟨e90, e91, e92, -, -, -⟩ := box3_cells HX9.out; clear ht1 hc1))
          go_roundw
          case rel => exact ⟨j + 1, by go_num, by omega, HX9.out, HB9.out, by have := HT9.out; rwa [show 512 + 3 * j + 1 + 1 + 1 = 512 + 3 * (j + 1) by omega] at this⟩
          case measure => simp [intOf]; omega
        · have HD0 : Hid (0 ≤ d) := by show _ ≤ _; omega
          have q0 : decide (d < 0) = false := decide_eq_false (by omega)
          by_cases hac : A = C
          · have hz := hiff.1 hac
            have HAC := Lib.hid hac
            have HZ := Lib.hid hz
            have q1 : (A == C) = true := by simpa using hac
            have q2 : (d == 0) = true := by simpa using hz
            clear hiff hac hz
            go_wp2_with (first
            | (go_at_call 21; go_fit (tfar_any _ B tg mg (512 + 3 * j) n ⟨sa, k, sc⟩ ⟨la, m, lc⟩ A C HT5.out HCE.out (by omega) HNE.out); rintro e v6 ⟨rfl, ht1, hc1⟩; rw [HD.out]; have HT6 := Lib.hid ht1; have HX6 := Lib.hid (hc1.box HX5.out (by omega) (by simp)); have HB6 := Lib.hid (HB5.out.trans (hc1.below (by omega) (by simp) HB5.out.size)); obtain ⟨e60, e61, e62, -, -, -⟩ := box3_cells HX6.out; clear ht1 hc1)
            | (go_at_call 45; go_loud (refine (pway_any n ⟨sa, k, sc⟩ ⟨la, m, lc⟩ A C _ k60 m120 (HH.out.below HB6.out)).mono ?_); rintro e v7 ⟨wv, rfl, -, hb7⟩; rw [HWE.out, HWF.out, if_neg (show ¬ d < 0 by have := HD0.out; omega), if_neg (show ¬ d < 0 by have := HD0.out; omega)]; have HT7 := Lib.hid (HT6.out.below hb7); have HX7 := Lib.hid (box_below HX6.out hb7); have HB7 := Lib.hid (HB6.out.trans (hb7.mono HB6.out.size)); clear hb7)
            | (go_at_call 21; go_fit (tfar_any _ B tg mg (512 + 3 * j + 1) n ⟨sa, k, sc⟩ ⟨la, m, lc⟩ C A HT7.out HCE.out (by omega) HNE.out); rintro e v8 ⟨rfl, ht1, hc1⟩; rw [HDS.out]; have HT8 := Lib.hid ht1; have HX8 := Lib.hid (hc1.box HX7.out (by omega) (by simp)); have HB8 := Lib.hid (HB7.out.trans (hc1.below (by omega) (by simp) HB7.out.size)); obtain ⟨e80, e81, e82, -, -, -⟩ := box3_cells HX8.out; clear ht1 hc1)
            | (go_at_call 21; go_fit (tfar_any _ B tg mg (512 + 3 * j + 1 + 1) n ⟨sa, k, sc⟩ ⟨la, m, lc⟩ A C HT8.out HCE.out (by omega) HNE.out); rintro e v9 ⟨rfl, ht1, hc1⟩; rw [HD.out]; have HT9 := Lib.hid ht1; have HX9 := Lib.hid (hc1.box HX8.out (by omega) (by simp)); have HB9 := Lib.hid (HB8.out.trans (hc1.below (by omega) (by simp) HB8.out.size)); obtain ⟨e90, e91, e92, -, -, -⟩ := box3_cells HX9.out; clear ht1 hc1))
            go_roundw
            case rel => exact ⟨j + 1, by go_num, by omega, HX9.out, HB9.out, by have := HT9.out; rwa [show 512 + 3 * j + 1 + 1 + 1 = 512 + 3 * (j + 1) by omega] at this⟩
            case measure => simp [intOf]; omega
          · have hnz : d ≠ 0 := fun e => hac (hiff.2 e)
            have q1 : (A == C) = false := by simpa using hac
            have q2 : (d == 0) = false := by simpa using hnz
            clear hiff hac hnz
            go_wp2_with (first
            | (go_at_call 21; go_fit (tfar_any _ B tg mg (512 + 3 * j) n ⟨sa, k, sc⟩ ⟨la, m, lc⟩ A C HT5.out HCE.out (by omega) HNE.out); rintro e v6 ⟨rfl, ht1, hc1⟩; rw [HD.out]; have HT6 := Lib.hid ht1; have HX6 := Lib.hid (hc1.box HX5.out (by omega) (by simp)); have HB6 := Lib.hid (HB5.out.trans (hc1.below (by omega) (by simp) HB5.out.size)); obtain ⟨e60, e61, e62, -, -, -⟩ := box3_cells HX6.out; clear ht1 hc1)
            | (go_at_call 45; go_loud (refine (pway_any n ⟨sa, k, sc⟩ ⟨la, m, lc⟩ A C _ k60 m120 (HH.out.below HB6.out)).mono ?_); rintro e v7 ⟨wv, rfl, -, hb7⟩; rw [HWE.out, HWF.out, if_neg (show ¬ d < 0 by have := HD0.out; omega), if_neg (show ¬ d < 0 by have := HD0.out; omega)]; have HT7 := Lib.hid (HT6.out.below hb7); have HX7 := Lib.hid (box_below HX6.out hb7); have HB7 := Lib.hid (HB6.out.trans (hb7.mono HB6.out.size)); clear hb7)
            | (go_at_call 21; go_fit (tfar_any _ B tg mg (512 + 3 * j + 1) n ⟨sa, k, sc⟩ ⟨la, m, lc⟩ C A HT7.out HCE.out (by omega) HNE.out); rintro e v8 ⟨rfl, ht1, hc1⟩; rw [HDS.out]; have HT8 := Lib.hid ht1; have HX8 := Lib.hid (hc1.box HX7.out (by omega) (by simp)); have HB8 := Lib.hid (HB7.out.trans (hc1.below (by omega) (by simp) HB7.out.size)); obtain ⟨e80, e81, e82, -, -, -⟩ := box3_cells HX8.out; clear ht1 hc1)
            | (go_at_call 21; go_fit (tfar_any _ B tg mg (512 + 3 * j + 1 + 1) n ⟨sa, k, sc⟩ ⟨la, m, lc⟩ A C HT8.out HCE.out (by omega) HNE.out); rintro e v9 ⟨rfl, ht1, hc1⟩; rw [HD.out]; have HT9 := Lib.hid ht1; have HX9 := Lib.hid (hc1.box HX8.out (by omega) (by simp)); have HB9 := Lib.hid (HB8.out.trans (hc1.below (by omega) (by simp) HB8.out.size)); obtain ⟨e90, e91, e92, -, -, -⟩ := box3_cells HX9.out; clear ht1 hc1))
            go_roundw
            case rel => exact ⟨j + 1, by go_num, by omega, HX9.out, HB9.out, by have := HT9.out; rwa [show 512 + 3 * j + 1 + 1 + 1 = 512 + 3 * (j + 1) by omega] at this⟩
            case measure => simp [intOf]; omega
      · have hjn : pn = j := by omega
        subst hjn
        go_wp2_with fail
        go_ret
        exact ⟨rfl, HBr.out⟩
end Go.Proofs.Yteihffnmgacfpaa.Ne
