/- Networks: the best way, walked. -/
import Derived.Test.YtgfakkkiejeofaaNsP
import Derived.Test.YtgfakkkiejeofaaNsR
import Derived.Test.YtgfakkkiejeofaaNeQ
import Derived.Test.YtgfakkkiejeofaaNeM
import Derived.ScopeJumps
import Derived.Deep.RegionHeld3
namespace Go.Proofs.Ytgfakkkiejeofaa.Ne
open Go.RowKit Go.V Go.Proofs Go.Sort

/-- A scope with jumps back, the way from the label on shown once. -/
theorem scope_jumps {P : Program} {a : Act} {w : World} {Q : Exit → Act → World → Prop} {c rest : Code} (l : Nat) (J : Act → World → Prop) (μ : Act → World → Nat) (hf : findLabel c l = some (Code.skip.seq rest))
    (first : (∀ a w, J a w → rest.wp P (Exit.jump l J Q) a w) → c.wp P (Exit.jump l J Q) a w)
    (pass : ∀ a w, J a w → rest.wp P (Exit.jump l (fun a' w' => J a' w' ∧ μ a' w' < μ a w) Q) a w) : (Code.scope c).wp P Q a w :=
  wp_scope_jumps l J μ hf (first fun a w h => Code.wp_mono (fun e a' w' hq => by
    cases e <;> first | exact ⟨hq.1, hq.2.1⟩ | exact hq) (pass a w h)) (fun a w h => wp_seq (wp_skip (pass a w h)))

theorem infoI3 : (Try.prog.info? 3).map (fun i => (i.zero, i.size, i.bytes)) = some (some (.int .i64 0), 1, 8) := by kernel_rfl
theorem eltJ : Elt Try.prog 26 3 icod 8 := Elt.of Try.underlying26 infoI3 rfl (by decide)
/-- Why there is no way. -/
def wayErr (n : Net) (k : Nat) (a b : Int) : Int := if fromE n a ≠ 0 then fromE n a else if 0 ≤ b ∧ b < k then (if far n.links k a b < 0 then 30 else 0) else 2
def wayFar (n : Net) (k : Nat) (a b : Int) : Int := if wayErr n k a b = 0 then far n.links k a b else 0
structure WayOut (n : Net) (k : Nat) (a b : Int) (w w' : World) (v : Value) : Prop where
  no : wayErr n k a b ≠ 0 → v = .slice none 0 0
  yes : wayErr n k a b = 0 → V.Own 3 icod w.heap.size w' v (wayL n.links k a b)

/-- At each jump back. -/
structure WayJ (n : Net) (k : Nat) (a b : Int) (w : World) (hs hl : Hdr) (o oc : Nat) (v : Int) (xs : List Int) (av : Option Addr) (xn cv : Nat) (w' : World) : Prop where
  ln : xn = xs.length
  er : wayErr n k a b = 0
  ck : checkE n = 0 ∧ 0 ≤ a ∧ a < k
  bin : 0 ≤ b ∧ b < k
  box : w'.heap[w.heap.size]? = some (n.box hs hl)
  net : NetIn w' n hs hl
  fr : V.Own 3 icod (w.heap.size + 1) w' (.slice (some ⟨o, 0, none⟩) k oc) (bf n.links k a)
  ow : V.Own 3 icod (o + 1) w' (.slice av xn cv) xs
  bel : Below w.heap.size w w'
  vin : 0 ≤ v ∧ v < k
  v0 : 0 ≤ far n.links k a v
  rel : ∃ c, xs ++ backE (prevE n.links (far n.links k a)) a c v = b :: backE (prevE n.links (far n.links k a)) a (far n.links k a b).toNat b ∧ (far n.links k a v).toNat ≤ c
  len : (xs.length : Int) + far n.links k a v ≤ far n.links k a b + 1

theorem WayJ.ne {n : Net} {k : Nat} {a b : Int} {w : World} {hs hl : Hdr} {o oc : Nat} {v : Int} {xs : List Int} {av : Option Addr} {xn cv : Nat} {w' : World} (h : WayJ n k a b w hs hl o oc v xs av xn cv w') (hv : v = a) : xs = b :: backE (prevE n.links (far n.links k a)) a (far n.links k a b).toNat b := by
  obtain ⟨c, h1, -⟩ := h.rel
  rw [hv, backE_self, List.append_nil] at h1
  exact h1

set_option maxHeartbeats 8000000 in
set_option maxRecDepth 100000 in
theorem pway_any (n : Net) (hs hl : Hdr) (a b : Int) (w : World) (h60 : hs.n ≤ 60) (h120 : hl.n ≤ 120) (h : NetIn w n hs hl) :
    Calls Try.prog 19 #[n.val hs hl, .int .i64 a, .int .i64 b] w fun e w' => ∃ v, e = .returned (.tuple #[v, .int .i64 (wayFar n hs.n a b), .int .i64 (wayErr n hs.n a b)]) ∧ WayOut n hs.n a b w w' v ∧ Below w.heap.size w w' := by
  have mixed : Try.prog.follows .mixedOrders = true := by kernel_rfl
  obtain ⟨sa, k, sc⟩ := hs
  obtain ⟨la, m, lc⟩ := hl
  have h60 : k ≤ 60 := h60
  have h120 : m ≤ 120 := h120
  have hkn : k = n.stops.length := h.s.hlen
  have hln : m = n.links.length := h.l.hlen
  have HKN := Lib.hid hkn
  have HLN := Lib.hid hln
  have HH := Lib.hid h
  have HX := Lib.hid (box_new w (n.box ⟨sa, k, sc⟩ ⟨la, m, lc⟩))
  have HB0 : Hid (Below w.heap.size w (w.alloc (n.box ⟨sa, k, sc⟩ ⟨la, m, lc⟩))) := (Below.refl _ _).alloc (Nat.le_refl _) _
  have HM : Hid (k ≤ 1000000 ∧ m ≤ 1000000) := ⟨by omega, by omega⟩
  obtain ⟨c0, c1, c2, -, -, -⟩ := box3_cells HX.out
  clear h hkn hln
  go_enter Try.func19, Try.ntmps19
  go_wp2_with fail
  refine scope_jumps 0 (fun a' w' => ∃ (o oc : Nat) (v : Int) (xs : List Int) (av : Option Addr) (xn cv : Nat) (u4 u5 u6 u7 u8 u10 u13 u14 u15 u16 u17 u18 u19 u20 u21 u22 u23 u24 u25 u26 u27 u28 u29 u30 u31 u32 u33 u34 u35 u36 u37 u38 u39 u40 u41 u42 u43 u44 u45 u46 u47 u48 u49 u50 u51 u52 u53 u54 u55 u56 u57 u58 u59 u60 u61 u62 u63 u64 u65 u66 u67 u68 u69 u70 u71 u72 u73 u74 u75 u76 u77 u78 u79 u80 u81 : Value), a' = { tmps := #[n.val ⟨sa, k, sc⟩ ⟨la, m, lc⟩, .int .i64 a, .int .i64 b, .pointer (some ⟨w.heap.size, 0, none⟩), u4, u5, u6, u7, u8, .slice (some ⟨o, 0, none⟩) k oc, u10, .slice av xn cv, .int .i64 v, u13, u14, u15, u16, u17, u18, u19, u20, u21, u22, u23, u24, u25, u26, u27, u28, u29, u30, u31, u32, u33, u34, u35, u36, u37, u38, u39, u40, u41, u42, u43, u44, u45, u46, u47, u48, u49, u50, u51, u52, u53, u54, u55, u56, u57, u58, u59, u60, u61, u62, u63, u64, u65, u66, u67, u68, u69, u70, u71, u72, u73, u74, u75, u76, u77, u78, u79, u80, u81], defers := [] } ∧ WayJ n k a b w ⟨sa, k, sc⟩ ⟨la, m, lc⟩ o oc v xs av xn cv w') (fun a' _ => (far n.links k a (intOf (a'.tmps.getD 12 undef))).toNat) rfl ?_ ?_
  · --<<
    intro hpass
    have HPS := Lib.hid hpass
    clear hpass
    obtain ⟨fe, hfe⟩ : ∃ fe, fromE n a = fe := ⟨_, rfl⟩
    have HFE := Lib.hid hfe
    clear hfe
    by_cases f0 : fe = 0
    case neg =>
      have f0' : (fe == 0) = false := by simpa using f0
      have HWE : Hid (wayErr n k a b = fe) := by show _ = _; unfold wayErr; rw [HFE.out, if_pos f0]
      have HWF : Hid (wayFar n k a b = 0) := by show _ = _; unfold wayFar; rw [HWE.out, if_neg f0]
      have HNE : Hid (fromE n a ≠ 0) := by show _ ≠ _; rw [HFE.out]; exact f0
      go_wp2_with (go_at_call 35; go_loud (refine (pfrom_any n ⟨sa, k, sc⟩ ⟨la, m, lc⟩ a _ HM.out (HH.out.below HB0.out)).mono ?_); rintro e w1 ⟨hb1, hf, -⟩; have hf2 := hf HNE.out; subst hf2; rw [HFE.out]; have HB1 := Lib.hid (HB0.out.trans (hb1.mono HB0.out.size)); clear hb1 hf)
      simp only [Exit.jump]
      go_ret3
      exact ⟨_, by rw [HWE.out, HWF.out]; rfl, ⟨fun _ => rfl, fun q => absurd (HWE.out.symm.trans q) f0⟩, HB1.out⟩
    case pos =>
      subst f0
      have hck : checkE n = 0 ∧ 0 ≤ a ∧ a < k := by
        have h1 := HFE.out
        unfold fromE at h1
        have h2 : k = n.stops.length := HKN.out
        split at h1
        · next hc =>
          split at h1
          · next hx => exact ⟨hc, hx.1, by omega⟩
          · cases h1
        · next hc => exact absurd h1 hc
      have HCK := Lib.hid hck
      have HLO : Hid (LinksOk n.links k) := by
        have e : k = n.stops.length := HKN.out
        show LinksOk _ _; rw [e]; exact (check_ok hck.1).2.2.2.2.1
      by_cases hbi : 0 ≤ b ∧ b < (k : Int)
      case neg =>
        have HIB : Hid (decide (0 ≤ b ∧ b < (k : Int)) = false) := by show _ = _; exact decide_eq_false hbi
        have HWE : Hid (wayErr n k a b = 2) := by show _ = _; unfold wayErr; rw [HFE.out, if_neg (by simp), if_neg hbi]
        have HWF : Hid (wayFar n k a b = 0) := by show _ = _; unfold wayFar; rw [HWE.out, if_neg (by decide)]
        clear hbi hck
        go_wp2_with (first
          | (go_at_call 35; refine (pfrom_any n ⟨sa, k, sc⟩ ⟨la, m, lc⟩ a _ HM.out (HH.out.below HB0.out)).mono ?_; rintro e w1 ⟨hb1, -, hf⟩; obtain ⟨o, oc, rfl, ho⟩ := hf HFE.out; have HB1 := Lib.hid (HB0.out.trans (hb1.mono HB0.out.size)); have HX1 := Lib.hid (box_below HX.out hb1); obtain ⟨d0, d1, d2, -, -, -⟩ := box3_cells HX1.out; clear hb1 hf ho)
          | (go_at_call 36; refine (pis_any n ⟨sa, k, sc⟩ ⟨la, m, lc⟩ b _).mono ?_; rintro e w2 ⟨rfl, hb2⟩; rw [HIB.out]; have HB2 := Lib.hid (HB1.out.trans (hb2.mono HB1.out.size)); clear hb2))
        simp only [Exit.jump]
        go_ret3
        exact ⟨_, by rw [HWE.out, HWF.out]; rfl, ⟨fun _ => rfl, fun q => absurd (HWE.out.symm.trans q) (by decide)⟩, HB2.out⟩
      case pos =>
        have HIB : Hid (decide (0 ≤ b ∧ b < (k : Int)) = true) := by show _ = _; exact decide_eq_true hbi
        obtain ⟨q, hq⟩ : ∃ q : Nat, b = q := ⟨b.toNat, by omega⟩
        have hqk : q < k := by omega
        have HBI := Lib.hid hbi
        subst hq
        have hqi : (q : Int) < (k : Int) := by omega
        obtain ⟨fb, hfb⟩ : ∃ fb, far n.links k a (q : Int) = fb := ⟨_, rfl⟩
        have HFB := Lib.hid hfb
        clear hfb hbi hck
        by_cases hneg : fb < 0
        · have HWE : Hid (wayErr n k a (q : Int) = 30) := by show _ = _; unfold wayErr; rw [HFE.out, if_neg (by simp), if_pos HBI.out, HFB.out, if_pos hneg]
          have HWF : Hid (wayFar n k a (q : Int) = 0) := by show _ = _; unfold wayFar; rw [HWE.out, if_neg (by decide)]
          go_wp2_with (first
            | (go_at_call 35; refine (pfrom_any n ⟨sa, k, sc⟩ ⟨la, m, lc⟩ a _ HM.out (HH.out.below HB0.out)).mono ?_; rintro e w1 ⟨hb1, -, hf⟩; obtain ⟨o, oc, rfl, ho⟩ := hf HFE.out; have HB1 := Lib.hid (HB0.out.trans (hb1.mono HB0.out.size)); have HX1 := Lib.hid (box_below HX.out hb1); have HO1 := Lib.hid ho; obtain ⟨d0, d1, d2, -, -, -⟩ := box3_cells HX1.out; clear hb1 hf ho)
            | (go_at_call 36; refine (pis_any n ⟨sa, k, sc⟩ ⟨la, m, lc⟩ (q : Int) _).mono ?_; rintro e w2 ⟨rfl, hb2⟩; rw [HIB.out]; have HB2 := Lib.hid (HB1.out.trans (hb2.mono HB1.out.size)); have ho2 := HO1.out.below hb2; rw [← HKN.out] at ho2; obtain ⟨d, hd, e0, -, -⟩ := icells ho2 bf_len.symm hqk; have hdf : d = fb := (Option.some.inj (hd.symm.trans (bf_at (L := n.links) (k := k) (a := a) HLO.out HCK.out.2 hqk))).trans HFB.out; subst hdf; clear hb2 hd ho2))
          simp only [Exit.jump]
          go_ret3
          exact ⟨_, by rw [HWE.out, HWF.out]; rfl, ⟨fun _ => rfl, fun q => absurd (HWE.out.symm.trans q) (by decide)⟩, HB2.out⟩
        · have hneg' : decide (fb < 0) = false := decide_eq_false hneg
          have HNG := Lib.hid hneg
          go_wp2_with (first
            | (go_at_call 35; refine (pfrom_any n ⟨sa, k, sc⟩ ⟨la, m, lc⟩ a _ HM.out (HH.out.below HB0.out)).mono ?_; rintro e w1 ⟨hb1, -, hf⟩; obtain ⟨o, oc, rfl, ho⟩ := hf HFE.out; have HB1 := Lib.hid (HB0.out.trans (hb1.mono HB0.out.size)); have HX1 := Lib.hid (box_below HX.out hb1); have HO1 := Lib.hid ho; obtain ⟨d0, d1, d2, -, -, -⟩ := box3_cells HX1.out; clear hb1 hf ho)
            | (go_at_call 36; refine (pis_any n ⟨sa, k, sc⟩ ⟨la, m, lc⟩ (q : Int) _).mono ?_; rintro e w2 ⟨rfl, hb2⟩; rw [HIB.out]; have HB2 := Lib.hid (HB1.out.trans (hb2.mono HB1.out.size)); have HX2 := Lib.hid (box_below HX1.out hb2); have ho2 := HO1.out.below hb2; rw [← HKN.out] at ho2; have HO2 := Lib.hid ho2; obtain ⟨d, hd, e0, -, hol⟩ := icells ho2 bf_len.symm hqk; have hdf : d = fb := (Option.some.inj (hd.symm.trans (bf_at (L := n.links) (k := k) (a := a) HLO.out HCK.out.2 hqk))).trans HFB.out; subst hdf; clear hb2 hd ho2))
          go_step3
          simp only [Exit.then]
          refine (show ∀ (a : Act) (w : World), Code.wp Try.prog _ _ a w → _ from by assumption) _ _ ?_
          refine HPS.out _ _ ⟨o, oc, (q : Int), [(q : Int)], some ⟨w2.heap.size, 0, none⟩, 1, 1, _, _, _, _, _, _, _, _, _, _, _, _, _, _, _, _, _, _, _, _, _, _, _, _, _, _, _, _, _, _, _, _, _, _, _, _, _, _, _, _, _, _, _, _, _, _, _, _, _, _, _, _, _, _, _, _, _, _, _, _, _, _, _, _, _, _, _, _, _, _, _, _, _, _, _, rfl, ?_⟩
          have hol1 := (World.ownsRow.lt HO2.out o rfl)
          have hsz1 := HB0.out.size
          have hsw : (w.alloc (n.box ⟨sa, k, sc⟩ ⟨la, m, lc⟩)).heap.size = w.heap.size + 1 := by simp
          have HWE : wayErr n k a (q : Int) = 0 := by unfold wayErr; rw [HFE.out, if_neg (by simp), if_pos HBI.out, HFB.out, if_neg (Int.not_lt.2 HNG.out)]
          refine ⟨rfl, HWE, HCK.out, HBI.out, box_alloc HX2.out, (HH.out.below HB2.out).below ((Below.refl _ _).alloc (Nat.le_refl _) _), ?_, own_new (c := icod) w2 #[.int .i64 (q : Int)] 3 (o + 1) [(q : Int)] 1 rfl (by omega) (by unfold maxLen; omega) rfl, HB2.out.alloc HB2.out.size _, HBI.out, by rw [HFB.out]; omega, ⟨(far n.links k a (q : Int)).toNat, rfl, Nat.le_refl _⟩, by simp; omega⟩
          have := HO2.out.alloc (.cells #[.int .i64 (q : Int)] 3)
          rwa [hsw] at this
    -->>
  · intro a1 w1 hJ1
    obtain ⟨o, oc, v, xs, av, xn, cv, hJ1⟩ := hJ1
    refine Exists.elim hJ1 fun u4 hJ1 => Exists.elim hJ1 fun u5 hJ1 => Exists.elim hJ1 fun u6 hJ1 => Exists.elim hJ1 fun u7 hJ1 => Exists.elim hJ1 fun u8 hJ1 => Exists.elim hJ1 fun u10 hJ1 => Exists.elim hJ1 fun u13 hJ1 => Exists.elim hJ1 fun u14 hJ1 => Exists.elim hJ1 fun u15 hJ1 => Exists.elim hJ1 fun u16 hJ1 => Exists.elim hJ1 fun u17 hJ1 => Exists.elim hJ1 fun u18 hJ1 => Exists.elim hJ1 fun u19 hJ1 => Exists.elim hJ1 fun u20 hJ1 => Exists.elim hJ1 fun u21 hJ1 => Exists.elim hJ1 fun u22 hJ1 => Exists.elim hJ1 fun u23 hJ1 => Exists.elim hJ1 fun u24 hJ1 => Exists.elim hJ1 fun u25 hJ1 => Exists.elim hJ1 fun u26 hJ1 => Exists.elim hJ1 fun u27 hJ1 => Exists.elim hJ1 fun u28 hJ1 => Exists.elim hJ1 fun u29 hJ1 => Exists.elim hJ1 fun u30 hJ1 => Exists.elim hJ1 fun u31 hJ1 => Exists.elim hJ1 fun u32 hJ1 => Exists.elim hJ1 fun u33 hJ1 => Exists.elim hJ1 fun u34 hJ1 => Exists.elim hJ1 fun u35 hJ1 => Exists.elim hJ1 fun u36 hJ1 => Exists.elim hJ1 fun u37 hJ1 => Exists.elim hJ1 fun u38 hJ1 => Exists.elim hJ1 fun u39 hJ1 => Exists.elim hJ1 fun u40 hJ1 => Exists.elim hJ1 fun u41 hJ1 => Exists.elim hJ1 fun u42 hJ1 => Exists.elim hJ1 fun u43 hJ1 => Exists.elim hJ1 fun u44 hJ1 => Exists.elim hJ1 fun u45 hJ1 => Exists.elim hJ1 fun u46 hJ1 => Exists.elim hJ1 fun u47 hJ1 => Exists.elim hJ1 fun u48 hJ1 => Exists.elim hJ1 fun u49 hJ1 => Exists.elim hJ1 fun u50 hJ1 => Exists.elim hJ1 fun u51 hJ1 => Exists.elim hJ1 fun u52 hJ1 => Exists.elim hJ1 fun u53 hJ1 => Exists.elim hJ1 fun u54 hJ1 => Exists.elim hJ1 fun u55 hJ1 => Exists.elim hJ1 fun u56 hJ1 => Exists.elim hJ1 fun u57 hJ1 => Exists.elim hJ1 fun u58 hJ1 => Exists.elim hJ1 fun u59 hJ1 => Exists.elim hJ1 fun u60 hJ1 => Exists.elim hJ1 fun u61 hJ1 => Exists.elim hJ1 fun u62 hJ1 => Exists.elim hJ1 fun u63 hJ1 => Exists.elim hJ1 fun u64 hJ1 => Exists.elim hJ1 fun u65 hJ1 => Exists.elim hJ1 fun u66 hJ1 => Exists.elim hJ1 fun u67 hJ1 => Exists.elim hJ1 fun u68 hJ1 => Exists.elim hJ1 fun u69 hJ1 => Exists.elim hJ1 fun u70 hJ1 => Exists.elim hJ1 fun u71 hJ1 => Exists.elim hJ1 fun u72 hJ1 => Exists.elim hJ1 fun u73 hJ1 => Exists.elim hJ1 fun u74 hJ1 => Exists.elim hJ1 fun u75 hJ1 => Exists.elim hJ1 fun u76 hJ1 => Exists.elim hJ1 fun u77 hJ1 => Exists.elim hJ1 fun u78 hJ1 => Exists.elim hJ1 fun u79 hJ1 => Exists.elim hJ1 fun u80 hJ1 => Exists.elim hJ1 fun u81 hJ1 => ?_
    obtain ⟨ha1, hJ⟩ := hJ1
    subst ha1
    go_hide hQ
    have HJ := Lib.hid hJ
    obtain ⟨p, hp⟩ : ∃ p : Nat, v = p := ⟨v.toNat, by have := hJ.vin.1; omega⟩
    subst hp
    have hpk : p < k := by have := hJ.vin.2; omega
    obtain ⟨n0, n1, n2, -, -, -⟩ := box3_cells hJ.box
    have HLO : Hid (LinksOk n.links k) := by
      have e : k = n.stops.length := HKN.out
      show LinksOk _ _; rw [e]; exact (check_ok hJ.ck.1).2.2.2.2.1
    by_cases hva : (p : Int) = a
    · --<<
      have hva' : ((p : Int) == a) = true := by simpa using hva
      have hxs := hJ.ne hva
      obtain ⟨q, hq⟩ : ∃ q : Nat, b = q := ⟨b.toNat, by have := hJ.bin.1; omega⟩
      subst hq
      have hqk : q < k := by have := hJ.bin.2; omega
      have hqi : (q : Int) < (k : Int) := by omega
      obtain ⟨d, hd, e0, -, hol⟩ := icells hJ.fr bf_len.symm hqk
      have hdf : d = far n.links k a (q : Int) := Option.some.inj (hd.symm.trans (bf_at (L := n.links) (k := k) (a := a) HLO.out hJ.ck.2 hqk))
      have HDF := Lib.hid hdf
      obtain ⟨g, cap', cur, e1, e2, -⟩ := own_ne hJ.ow (by rw [hxs]; simp)
      simp only [Value.slice.injEq] at e1
      obtain ⟨e3, e4, e5⟩ := e1
      subst e3
      have hog : o < g := by have := (World.ownsRow.lt hJ.ow g rfl).1; omega
      have hx9 : xn ≤ 9223372036854775807 := by
        obtain ⟨oa, ocp, ev, hsl, -⟩ := hJ.ow.slice
        simp only [Value.slice.injEq] at ev
        have h1 := hsl.hcap
        have h2 := hsl.hmax
        unfold maxLen at h2
        rw [hJ.ln]; omega
      have HVA := Lib.hid hva
      have HXS := Lib.hid hxs
      clear hJ hd hdf hxs hva e2 e4 e5
      go_wp2_with (go_at_call 38; go_loud (refine (rev_any (o + 1) g xn cv xs _ HJ.out.ow HJ.out.ln hx9).mono ?_); rintro e w2 ⟨rfl, hr, hb2⟩; have HR := Lib.hid hr; have HB2 := Lib.hid hb2; have e0' : w2.cell? ⟨o, q, none⟩ = some (.int .i64 d) := (hb2.cell (p := ⟨o, q, none⟩) hog).trans e0; clear hr hb2)
      go_region_held3 (fun w' => w'.cell? ⟨o, q, none⟩ = some (.int .i64 d)) (go_keep) (fail)
      go_wp2_with fail
      subst hQ
      simp only [Exit.jump]
      go_ret3
      have hwf : wayFar n k a (q : Int) = d := by unfold wayFar; rw [if_pos HJ.out.er]; exact HDF.out.symm
      have hwl : wayL n.links k a (q : Int) = xs.reverse := by unfold wayL; rw [← HXS.out]
      have hob := (World.ownsRow.lt HJ.out.fr o rfl).1
      refine ⟨_, by rw [hwf, HJ.out.er]; rfl, ⟨fun q' => absurd HJ.out.er q', fun _ => ?_⟩, (HJ.out.bel.trans (HB2.out.mono (by omega))).trans (Below.drew (Below.refl _ _))⟩
      rw [hwl]
      exact (HR.out.below (Below.drew (Below.refl _ _))).lower (by omega)
      -->>
    · have hva' : ((p : Int) == a) = false := by simpa using hva
      have HVA := Lib.hid hva
      clear hva
      have HNR := Lib.hid (HJ.out.net)
      clear hJ
      go_upto_region 11 with fail
      go_wp2_with (go_at_call 37; go_loud (refine (near_any n ⟨sa, k, sc⟩ ⟨la, m, lc⟩ (p : Int) _ HM.out.2 HNR.out).mono ?_); rintro e w2 ⟨mv, rfl, hmo, hb2⟩; obtain ⟨ma, mc, emv, hml, -⟩ := hmo.slice; subst emv; have HML := Lib.hid hml; have HB2 := Lib.hid hb2; clear hmo hml hb2)
      obtain ⟨M, hM⟩ : ∃ M, nearL n.links (p : Int) = M := ⟨_, rfl⟩
      obtain ⟨mn, hmn⟩ : ∃ mn, M.length = mn := ⟨_, rfl⟩
      have hmn9 : mn ≤ 120 := by
        have h1 := fromL_len n.links (p : Int)
        have h2 : (nearL n.links (p : Int)).length = (fromL n.links (p : Int)).length := (isort_perm _).length_eq
        have h3 : m = n.links.length := HLN.out
        rw [hM, hmn] at h2
        omega
      have HMM := Lib.hid hM
      have HMN := Lib.hid hmn
      have HMS : Hid (Sl lcod w2 ma mn mc M) := by have := HML.out; rw [hM, hmn] at this; exact this
      rw [hM, hmn]
      clear hM hmn HML
      have HBW : Hid (Below w1.heap.size w1 w2) := HB2.out
      go_loopw [12, 43] (fun va i wr => ∃ j : Nat, i = .int .i64 j ∧ j ≤ mn ∧ va = .int .i64 p ∧ Hid (∀ i x, i < j → M[i]? = some x → backB (far n.links k a) (p : Int) x = false) ∧ Hid (Below w2.heap.size w2 wr)) (fun _ i _ => mn - (intOf i).toNat)
      case atStart => exact ⟨0, by go_num, by omega, rfl, fun i x hi => absurd hi (by omega), Below.refl _ _⟩
      case round =>
        obtain ⟨j, rfl, hj, rfl, hall, HBr⟩ := hrel
        by_cases hlt : j < mn
        · obtain ⟨lb, loff, l, e1, hlbl, hlj, l0, l1, l2⟩ := lnk_at (HMS.out.below HBr.out) hlt
          subst e1
          have hmem : l ∈ nearL n.links (p : Int) := by rw [HMM.out]; exact List.mem_of_getElem? hlj
          have HLJ := Lib.hid hlj
          obtain ⟨hla, hed⟩ := mem_nearL hmem
          have hE := HLO.out.edge hed
          obtain ⟨xa, xb, xw⟩ := l
          simp only [] at hla hE hmem hed
          obtain ⟨r, hr⟩ : ∃ r : Nat, xb = r := ⟨xb.toNat, by omega⟩
          subst hr
          have hrk : r < k := by omega
          have hrki : (r : Int) < (k : Int) := by omega
          have hpki : (p : Int) < (k : Int) := by omega
          have hxw : 1 ≤ xw ∧ xw ≤ 1048575 := by omega
          have hji : (j : Int) < (mn : Int) := by omega
          have HMEM := Lib.hid hmem
          clear hlj hmem hed hE hla
          go_upto_region 14 with fail
          have HXL := Lib.hid (box_new wr (.cells #[.int .i64 xa, .int .i64 r, .int .i64 xw] 55))
          have HBV : Hid (Below w2.heap.size w2 (wr.alloc (.cells #[.int .i64 xa, .int .i64 r, .int .i64 xw] 55))) := HBr.out.alloc HBr.out.size _
          obtain ⟨y, hy⟩ : ∃ y, wr.heap.size = y := ⟨_, rfl⟩
          obtain ⟨V, hV⟩ : ∃ V, wr.alloc (.cells #[.int .i64 xa, .int .i64 r, .int .i64 xw] 55) = V := ⟨_, rfl⟩
          rw [hV] at HXL HBV ⊢
          rw [hy] at HXL ⊢
          clear hV hy l0 l1 l2 hlbl
          have HB1V : Hid (Below w1.heap.size w1 V) := HBW.out.trans (HBV.out.mono HBW.out.size)
          have hfr := HJ.out.fr.below HB1V.out
          obtain ⟨dr, hdr, f0, -, hol⟩ := icells hfr bf_len.symm hrk
          obtain ⟨dp, hdp, g0, -, -⟩ := icells hfr bf_len.symm hpk
          have hdrf : dr = far n.links k a (r : Int) := Option.some.inj (hdr.symm.trans (bf_at (L := n.links) (k := k) (a := a) HLO.out HJ.out.ck.2 hrk))
          have hdpf : dp = far n.links k a (p : Int) := Option.some.inj (hdp.symm.trans (bf_at (L := n.links) (k := k) (a := a) HLO.out HJ.out.ck.2 hpk))
          have hdri : dr ≤ 15099480000 := by
            have h1 := tfar_few HJ.out.ck.1 HKN.out h60 (by have := HLN.out; omega) a (r : Int)
            unfold tfarE at h1
            rw [if_pos ⟨HJ.out.ck.2.1, HJ.out.ck.2.2, by omega, by omega⟩] at h1
            omega
          have HDR := Lib.hid hdrf
          have HDP := Lib.hid hdpf
          obtain ⟨y0, y1, y2, -, -, -⟩ := box3_cells HXL.out
          have F0 := cell_regrown f0
          have G0 := cell_regrown g0
          have Y0 := cell_regrown y0
          have Y1 := cell_regrown y1
          have Y2 := cell_regrown y2
          clear hfr hdr hdp hdrf hdpf f0 g0 y0 y1 y2
          by_cases t1 : 0 ≤ dr
          · have b1 : decide (0 ≤ dr) = true := decide_eq_true t1
            have hwr : IntKind.i64.wrap (dr + xw) = dr + xw := IntWalk.i64_in _ (by omega)
            by_cases t2 : dr + xw = dp
            · have b2 : (dr + xw == dp) = true := by simpa using t2
              have HT2 := Lib.hid t2
              have hBB : backB (far n.links k a) (p : Int) ⟨xa, r, xw⟩ = true := by unfold backB; rw [← HDR.out, ← HDP.out]; exact decide_eq_true ⟨t1, t2⟩
              have hpv : prevE n.links (far n.links k a) (p : Int) = (r : Int) := by
                unfold prevE
                rw [HMM.out, find_back hall.out HLJ.out hBB]
              have HPV := Lib.hid hpv
              clear hpv hBB t2
              refine wp_region_quiet_below (by assumption) (by kernel_rfl) ?_
              repeat (go_big_quiet_step (fail))
              refine wpQuiet_nil ?_
              intro w3 hw3
              obtain ⟨⟨nd, osq⟩, rfl⟩ := hw3
              have hbq := below_regrown V nd osq
              have hyl := box_lt HXL.out
              have HX3 := Lib.hid (box_below HXL.out hbq)
              generalize grow (redrawn V nd) osq = w3 at hbq HX3 ⊢
              have HB3 : Hid (Below w1.heap.size w1 w3) := HB1V.out.trans (hbq.mono HB1V.out.size)
              have hs3 : V.heap.size ≤ w3.heap.size := hbq.size
              obtain ⟨y0, y1, y2, -, -, -⟩ := box3_cells HX3.out
              clear hbq F0 G0 Y0 Y1 Y2
              have hlen : xn ≤ 15099480002 := by
                have h1 := HJ.out.len
                have h2 := tfar_few HJ.out.ck.1 HKN.out h60 (by have := HLN.out; omega) a b
                unfold tfarE at h2
                rw [if_pos ⟨HJ.out.ck.2.1, HJ.out.ck.2.2, HJ.out.bin.1, HJ.out.bin.2⟩] at h2
                have h3 := HJ.out.v0
                have h4 := HJ.out.ln
                omega
              have HOW : Hid (Go.V.Own 3 icod (o + 1) (w3.alloc (.cells #[.int .i64 (r : Int)] 3)) (.slice av xn cv) xs) := (HJ.out.ow.below HB3.out).alloc _
              have hol2 := (World.ownsRow.lt HJ.out.fr o rfl)
              have hs1 := HB3.out.size
              have hm1 : Hid (xs.length + 1 ≤ maxLen) := by show _ ≤ _; have h4 := HJ.out.ln; unfold maxLen; omega
              have hm2 : Hid ((xs.length + 1) * 8 ≤ 140737488355328) := by show _ ≤ _; have h4 := HJ.out.ln; omega
              have HLS : Hid ((xs ++ [(r : Int)]).length = xn + 1) := by show _ = _; rw [List.length_append, ← HJ.out.ln]; rfl
              go_wp2_with (at_builtin; go_loud (refine wpList_app eltJ rfl _ _ rfl (.slice av xn cv) xs (by simp [Act.eval]) HOW.out (some ⟨w3.heap.size, 0, none⟩) 1 1 [(r : Int)] (by simp [Act.eval]) (sl_new (c := icod) w3 #[.int .i64 (r : Int)] 3 [(r : Int)] 1 rfl (by unfold maxLen; omega) rfl) hm1.out hm2.out (by simp; omega) ?_); intro v' w4 hown hgr; obtain ⟨a', c', ev', -⟩ := hown.slice; rw [HLS.out] at ev'; subst ev'; have HO := Lib.hid hown; have HG := Lib.hid hgr; clear hown hgr)
              go_step3
              subst hQ
              have hbk := back_in (k := k) (a := a) HLO.out HMEM.out (by unfold backB; rw [← HDR.out, ← HDP.out]; exact decide_eq_true ⟨t1, HT2.out⟩)
              simp only [] at hbk
              have hg4 : Below (o + 1) w1 w4 := by
                refine Below.trans ((HB3.out.mono (show o + 1 ≤ w1.heap.size by omega)).alloc (by omega) (.cells #[.int .i64 (r : Int)] 3)) ⟨HG.out.os, HG.out.tape, HG.out.output, HG.out.size, fun i hi => HG.out.block i (by simp; omega) (fun q => ?_)⟩
                have := (World.ownsRow.lt HOW.out _ q.symm).1
                omega
              have hfr4 : Go.V.Own 3 icod (w.heap.size + 1) w4 (.slice (some ⟨o, 0, none⟩) k oc) (bf n.links k a) := by
                refine Go.V.Own.kept ((HJ.out.fr.below HB3.out).alloc _) HG.out (.inr fun q => ?_)
                have := (World.ownsRow.lt HOW.out o q.symm).1
                omega
              refine ⟨rfl, ⟨o, oc, (r : Int), xs ++ [(r : Int)], a', xn + 1, c', _, _, _, _, _, _, _, _, _, _, _, _, _, _, _, _, _, _, _, _, _, _, _, _, _, _, _, _, _, _, _, _, _, _, _, _, _, _, _, _, _, _, _, _, _, _, _, _, _, _, _, _, _, _, _, _, _, _, _, _, _, _, _, _, _, _, _, _, _, _, _, _, _, _, _, rfl, ?_⟩, ?_⟩
              · have hob : w.heap.size ≤ o + 1 := by have := hol2.1; omega
                have hbl : Below w.heap.size w w4 := HJ.out.bel.trans (hg4.mono hob)
                obtain ⟨c, h1, h2⟩ := HJ.out.rel
                have hfp : (far n.links k a (r : Int)).toNat + 1 ≤ (far n.links k a (p : Int)).toNat := by omega
                obtain ⟨c2, rfl⟩ : ∃ c2, c = c2 + 1 := ⟨c - 1, by omega⟩
                rw [backE_go HVA.out, HPV.out] at h1
                refine ⟨HLS.out.symm, HJ.out.er, HJ.out.ck, HJ.out.bin, (hg4.block _ (by have := hol2.1; omega)).trans HJ.out.box, HH.out.below hbl, hfr4, HO.out, hbl, ⟨by omega, by omega⟩, hbk.2.2.1, ⟨c2, by rw [List.append_assoc]; exact h1, by omega⟩, ?_⟩
                have h4 := HJ.out.len
                have h5 := HJ.out.ln
                rw [HLS.out]
                omega
              · show (far n.links k a (r : Int)).toNat < (far n.links k a (p : Int)).toNat
                omega
            · have b2 : (dr + xw == dp) = false := by simpa using t2
              have HBB : Hid (backB (far n.links k a) (p : Int) ⟨xa, r, xw⟩ = false) := by show _ = _; unfold backB; rw [← HDR.out, ← HDP.out]; exact decide_eq_false (fun q => t2 q.2)
              clear t2
              refine wp_region_quiet_below (by assumption) (by kernel_rfl) ?_
              repeat (go_big_quiet_step (fail))
              refine wpQuiet_nil ?_
              intro w3 hw3
              obtain ⟨⟨nd, osq⟩, rfl⟩ := hw3
              have hbq := below_regrown V nd osq
              generalize grow (redrawn V nd) osq = w3 at hbq ⊢
              have HBQ := Lib.hid (HBV.out.trans (hbq.mono HBV.out.size))
              clear hbq F0 G0 Y0 Y1 Y2
              go_wp2_with fail
              go_roundw
              case rel => exact ⟨j + 1, by go_num, by omega, rfl, fun i x hi hx => by
                by_cases e : i = j
                · subst e; rw [HLJ.out] at hx; cases hx; exact HBB.out
                · exact hall.out i x (by omega) hx, HBQ.out⟩
              case measure => simp [intOf]; omega
          · have b1 : decide (0 ≤ dr) = false := decide_eq_false t1
            have HBB : Hid (backB (far n.links k a) (p : Int) ⟨xa, r, xw⟩ = false) := by show _ = _; unfold backB; rw [← HDR.out]; exact decide_eq_false (fun q => t1 q.1)
            refine wp_region_quiet_below (by assumption) (by kernel_rfl) ?_
            repeat (go_big_quiet_step (fail))
            refine wpQuiet_nil ?_
            intro w3 hw3
            obtain ⟨⟨nd, osq⟩, rfl⟩ := hw3
            have hbq := below_regrown V nd osq
            generalize grow (redrawn V nd) osq = w3 at hbq ⊢
            have HBQ := Lib.hid (HBV.out.trans (hbq.mono HBV.out.size))
            clear hbq F0 G0 Y0 Y1 Y2
            go_wp2_with fail
            go_roundw
            case rel => exact ⟨j + 1, by go_num, by omega, rfl, fun i x hi hx => by
              by_cases e : i = j
              · subst e; rw [HLJ.out] at hx; cases hx; exact HBB.out
              · exact hall.out i x (by omega) hx, HBQ.out⟩
            case measure => simp [intOf]; omega
        · exfalso
          have hjm : mn = j := by omega
          obtain ⟨l, hl1, hl2⟩ := back_ex (L := n.links) (k := k) (a := a) HLO.out HJ.out.ck.2 HJ.out.v0 HVA.out
          rw [HMM.out] at hl1
          obtain ⟨i, hi⟩ := List.mem_iff_getElem?.1 hl1
          have h1 := hall.out i l (by rw [← hjm, ← HMN.out]; exact (List.getElem?_eq_some_iff.1 hi).1) hi
          rw [hl2] at h1
          cases h1
end Go.Proofs.Ytgfakkkiejeofaa.Ne
