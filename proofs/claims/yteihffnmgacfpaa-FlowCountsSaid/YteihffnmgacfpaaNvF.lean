/- Networks: the document's best way walked; distances, best ways and weights are the document's: the law walked. -/
import Derived.Test.YteihffnmgacfpaaNvA
import Derived.Test.YteihffnmgacfpaaNvB
import Derived.Test.YteihffnmgacfpaaNeE
import Derived.Test.YteihffnmgacfpaaNeO
import Derived.Deep.RegionHeld3
namespace Go.Proofs.Yteihffnmgacfpaa.Ne
open Go.RowKit Go.V Go.Proofs Go.Sort

theorem own_one {w : World} {base : Nat} {x : Int} (hb : base ≤ w.heap.size) : V.Own 3 icod base (w.alloc (.cells #[.int .i64 x] 3)) (.slice (some ⟨w.heap.size, 0, none⟩) 1 1) [x] :=
  own_new (c := icod) w #[.int .i64 x] 3 base [x] 1 rfl hb (by unfold maxLen; omega) rfl
theorem own_some {w : World} {base : Nat} {v : Value} {x : Int} {xs : List Int} (h : V.Own 3 icod base w v (x :: xs)) : ∃ o cap, v = .slice (some ⟨o, 0, none⟩) (xs.length + 1) cap := by
  obtain ⟨g, cap, cur, e, -, -⟩ := own_ne h (by simp)
  exact ⟨g, cap, by rw [e, List.length_cons]⟩

set_option maxHeartbeats 8000000 in
set_option maxRecDepth 100000 in
theorem rway_any (n : Net) (hs hl : Hdr) (a b : Nat) (w : World) (h : NetIn w n hs hl) (hok : checkE n = 0) (h60 : hs.n ≤ 60) (h120 : hl.n ≤ 120) (hak : a < hs.n) (hbk : b < hs.n) (h0 : 0 ≤ far n.links hs.n a b) :
    Calls Try.prog 49 #[n.val hs hl, .int .i64 a, .int .i64 b] w fun e w' => ∃ v, e = .returned v ∧ V.Own 3 icod w.heap.size w' v (wayL n.links hs.n a b) ∧ Below w.heap.size w w' := by
  have mixed : Try.prog.follows .mixedOrders = true := by kernel_rfl
  obtain ⟨kk1, kk2, -, -, kk5, kk6⟩ := check_ok hok
  have HKN := Lib.hid h.s.hlen
  have HLN := Lib.hid h.l.hlen
  obtain ⟨sa, k, sc⟩ := hs
  obtain ⟨la, m, lc⟩ := hl
  have HLO : Hid (LinksOk n.links k) := by have e : k = n.stops.length := HKN.out; show LinksOk _ _; rw [e]; exact kk5
  have HPW := Lib.hid kk6
  have HH := Lib.hid h
  have HOK := Lib.hid hok
  have h60 : k ≤ 60 := h60
  have h120 : m ≤ 120 := h120
  have hak : a < k := hak
  have hbk : b < k := hbk
  have HIA : Hid (0 ≤ (a : Int) ∧ (a : Int) < k) := ⟨by omega, by omega⟩
  have HF0 : Hid (0 ≤ far n.links k a b) := h0
  have HLM : Hid (∀ v, -1 ≤ far n.links k a v ∧ far n.links k a v ≤ 20000000000) := fun v => far_lim HLO.out HIA.out h60 (by rw [← HLN.out]; exact h120) v
  have HX0 := Lib.hid (box_new w (n.box ⟨sa, k, sc⟩ ⟨la, m, lc⟩))
  have HB0 : Hid (Below w.heap.size w (w.alloc (n.box ⟨sa, k, sc⟩ ⟨la, m, lc⟩))) := (Below.refl _ _).alloc (Nat.le_refl _) _
  clear h hok kk1 kk2 kk5 kk6 h0
  go_enter Try.func49, Try.ntmps49
  go_upto_region 2 with (go_at_call 48; go_loud (refine (rfrom_any n ⟨sa, k, sc⟩ ⟨la, m, lc⟩ a _ (HH.out.below HB0.out) HOK.out h60 h120 hak).mono ?_); rintro e w1 ⟨fo, fc, rfl, ho1, hb1⟩; rw [← HKN.out] at ho1; have HB1 := Lib.hid (HB0.out.trans (hb1.mono HB0.out.size)); have HX1 := Lib.hid (box_below HX0.out hb1); have HO1 : Hid (V.Own 3 icod w.heap.size w1 (.slice (some ⟨fo, 0, none⟩) k fc) (bf n.links k a)) := ho1.lower (by simp); clear hb1 ho1)
  have HZ0 : Hid (V.Own 3 icod w.heap.size (w1.alloc (.cells #[.int .i64 b] 3)) (.slice (some ⟨w1.heap.size, 0, none⟩) 1 1) [(b : Int)]) := own_one HB1.out.size
  have HB2 := Lib.hid (HB1.out.alloc HB1.out.size (.cells #[.int .i64 b] 3))
  have HX2 := Lib.hid (box_alloc (o := .cells #[.int .i64 b] 3) HX1.out)
  have HO2 := Lib.hid (HO1.out.alloc (.cells #[.int .i64 b] 3))
  go_wp2_with fail
  go_loopg [8] 20000000000 (fun kx ov wr => ∃ (p c : Nat) (ys : List Int) (ob xn xc : Nat), ov = .slice (some ⟨ob, 0, none⟩) xn xc ∧ Hid (xn = ys.length + 1) ∧ p < k ∧ c ≤ kx ∧ xn + c ≤ 20000000001 ∧ Hid (V.Own 3 icod w.heap.size wr (.slice (some ⟨ob, 0, none⟩) xn xc) ((p : Int) :: ys)) ∧ Hid (V.Own 3 icod w.heap.size wr (.slice (some ⟨fo, 0, none⟩) k fc) (bf n.links k a)) ∧ Hid (wr.heap[w.heap.size]? = some (n.box ⟨sa, k, sc⟩ ⟨la, m, lc⟩)) ∧ Hid (Below w.heap.size w wr) ∧ Hid (0 ≤ far n.links k a p) ∧ Hid ((far n.links k a p).toNat ≤ c) ∧ Hid ((backE (prevE n.links (far n.links k a)) a c p).reverse ++ ((p : Int) :: ys) = wayL n.links k a b))
  case atStart => exact ⟨b, (far n.links k a b).toNat, [], w1.heap.size, 1, 1, rfl, rfl, hbk, by have := (HLM.out b).2; omega, by have := (HLM.out b).2; omega, HZ0.out, HO2.out, HX2.out, HB2.out, HF0.out, Nat.le_refl _, by show _ = _; unfold wayL; rw [List.reverse_cons]⟩
  case round =>
    clear HZ0 HB2 HX2 HO2 HX1 HB1 HO1 HX0 HB0 HF0
    obtain ⟨p, c, ys, ob, xn, xc, rfl, HXN, hpk, hck, hxc, HZ, HO, HX, HB, HF, HFC, HW⟩ := hrel
    have hxn0 : 0 < xn := by have := HXN.out; omega
    have hxni : (0 : Int) < (xn : Int) := by omega
    obtain ⟨dz, hdz, z0, -, -⟩ := icells HZ.out (by have := HXN.out; simpa using this) hxn0
    simp at hdz
    subst hdz
    by_cases hpa : p = a
    · subst hpa
      have hbp : ((p : Int) != (p : Int)) = false := by simp
      have HE : Hid ((p : Int) :: ys = wayL n.links k p b) := by
        have := HW.out
        rw [backE_self] at this
        exact this
      go_wp2_with fail
      go_ret
      exact ⟨_, rfl, by rw [← HE.out]; exact HZ.out, HB.out⟩
    · have hbp : ((p : Int) != (a : Int)) = true := by simp; omega
      go_wp2_with fail
      obtain ⟨q, hq1, hq2, hqk, hq3, hq4⟩ := nxt_prev HLO.out HPW.out HIA.out HF.out (show (p : Int) ≠ (a : Int) by omega)
      have HQ : Hid (nxt n.links (far n.links k a) p k = q ∧ prevE n.links (far n.links k a) p = q ∧ 0 ≤ far n.links k a q ∧ far n.links k a q < far n.links k a p) := ⟨hq1, hq2, hq3, hq4⟩
      clear hq1 hq2 hq3 hq4
      clear z0
      go_loopw [9, 10] (fun nx i wr => ∃ j : Nat, i = .int .i64 j ∧ nx = .int .i64 (nxt n.links (far n.links k a) p j) ∧ j ≤ k ∧ Hid (V.Own 3 icod w.heap.size wr (.slice (some ⟨ob, 0, none⟩) xn xc) ((p : Int) :: ys)) ∧ Hid (V.Own 3 icod w.heap.size wr (.slice (some ⟨fo, 0, none⟩) k fc) (bf n.links k a)) ∧ Hid (wr.heap[w.heap.size]? = some (n.box ⟨sa, k, sc⟩ ⟨la, m, lc⟩)) ∧ Hid (Below w.heap.size w wr)) (fun _ i _ => k - (intOf i).toNat)
      case atStart => exact ⟨0, by go_num, by go_num, by omega, HZ.out, HO.out, HX.out, HB.out⟩
      case round =>
        clear HZ HO HX HB
        obtain ⟨j, rfl, rfl, hj, HZ, HO, HX, HB⟩ := hrel
        obtain ⟨c0, c1, c2, -, -, -⟩ := box3_cells HX.out
        obtain ⟨dz, hdz, z0, -, -⟩ := icells HZ.out (by have := HXN.out; simpa using this) hxn0
        simp at hdz
        subst hdz
        obtain ⟨t, ht⟩ : ∃ t, nxt n.links (far n.links k a) p j = t := ⟨_, rfl⟩
        have HT := Lib.hid ht
        rw [ht]
        clear ht
        by_cases hlt : j < k
        · have hji : (j : Int) < (k : Int) := by omega
          have hpi : (p : Int) < (k : Int) := by omega
          obtain ⟨x, hx⟩ : ∃ x, wtE n.links p j = x := ⟨_, rfl⟩
          have HXX := Lib.hid hx
          have hlim := wt_lim HLO.out (p : Int) (j : Int)
          rw [hx] at hlim
          have HBd : Hid (Below w.heap.size w wr.drew) := HB.out.trans (Below.drew (Below.refl _ _))
          have HZd := Lib.hid (HZ.out.below (Below.drew (Below.refl _ _)))
          have HOd := Lib.hid (HO.out.below (Below.drew (Below.refl _ _)))
          have hzl : ob < wr.heap.size := (World.ownsRow.lt HZ.out ob rfl).2
          go_upto_region 8 with fail
          go_region_held3 (fun w' => w'.cell? ⟨w.heap.size, 0, none⟩ = some (.int .i64 n.ver) ∧ w'.cell? ⟨w.heap.size, 1, none⟩ = some (.slice sa k sc) ∧ w'.cell? ⟨w.heap.size, 2, none⟩ = some (.slice la m lc) ∧ w'.cell? ⟨ob, 0, none⟩ = some (.int .i64 p))
            (first | go_keep | (exact ⟨d0, d1, d2, y0⟩))
            (first
              | (go_at_call 30; go_loud (refine (rwt_any n ⟨sa, k, sc⟩ ⟨la, m, lc⟩ p j wr.drew (HH.out.below HBd.out)).mono ?_); rintro e w3 ⟨rfl, hb3⟩; rw [HXX.out]; have HX3 := Lib.hid (box_below (w := wr.drew) HX.out hb3); have HB3 := Lib.hid (HBd.out.trans (hb3.mono HBd.out.size)); have HZ3 := Lib.hid (HZd.out.below hb3); have HO3 := Lib.hid (HOd.out.below hb3); obtain ⟨d0, d1, d2, -, -, -⟩ := box3_cells HX3.out; have y0 := (hb3.cell (p := ⟨ob, 0, none⟩) hzl).trans z0; clear hb3))
          clear c0 c1 c2 z0 d0 d1 d2
          have p0 := bf_cell HLO.out HIA.out HO3.out hlt
          have p1 := bf_cell HLO.out HIA.out HO3.out hpk
          have l1 := HLM.out j
          have hst : nxt n.links (far n.links k a) p (j + 1) = if t < 0 ∧ hopB n.links (far n.links k a) p j = true then (j : Int) else t := nxt_step HT.out
          unfold hopB at hst
          rw [HXX.out] at hst
          obtain ⟨fj, hfj⟩ : ∃ fj, far n.links k a j = fj := ⟨_, rfl⟩
          obtain ⟨fp, hfp⟩ : ∃ fp, far n.links k a p = fp := ⟨_, rfl⟩
          rw [hfj] at p0 l1 hst
          rw [hfp] at p1 hst
          have hcase : (0 ≤ t ∧ decide (t < 0) = false ∧ nxt n.links (far n.links k a) p (j + 1) = t) ∨ (t < 0 ∧ decide (t < 0) = true ∧ x = 0 ∧ decide (0 < x) = false ∧ nxt n.links (far n.links k a) p (j + 1) = t) ∨ (t < 0 ∧ decide (t < 0) = true ∧ 0 < x ∧ decide (0 < x) = true ∧ fj < 0 ∧ decide (0 ≤ fj) = false ∧ nxt n.links (far n.links k a) p (j + 1) = t) ∨ (t < 0 ∧ decide (t < 0) = true ∧ 0 < x ∧ decide (0 < x) = true ∧ 0 ≤ fj ∧ decide (0 ≤ fj) = true ∧ ((fj + x) == fp) = false ∧ nxt n.links (far n.links k a) p (j + 1) = t) ∨ (t < 0 ∧ decide (t < 0) = true ∧ 0 < x ∧ decide (0 < x) = true ∧ 0 ≤ fj ∧ decide (0 ≤ fj) = true ∧ ((fj + x) == fp) = true ∧ nxt n.links (far n.links k a) p (j + 1) = j) := by
            by_cases g1 : t < 0
            · by_cases g2 : x = 0
              · exact .inr (.inl ⟨g1, decide_eq_true g1, g2, decide_eq_false (by omega), by rw [hst, if_neg]; intro h; have := of_decide_eq_true h.2; omega⟩)
              · by_cases g3 : fj < 0
                · exact .inr (.inr (.inl ⟨g1, decide_eq_true g1, by omega, decide_eq_true (by omega), g3, decide_eq_false (by omega), by rw [hst, if_neg]; intro h; have := of_decide_eq_true h.2; omega⟩))
                · by_cases g4 : fj + x = fp
                  · exact .inr (.inr (.inr (.inr ⟨g1, decide_eq_true g1, by omega, decide_eq_true (by omega), by omega, decide_eq_true (by omega), by simpa using g4, by rw [hst, if_pos ⟨g1, decide_eq_true ⟨by omega, by omega, g4⟩⟩]⟩)))
                  · exact .inr (.inr (.inr (.inl ⟨g1, decide_eq_true g1, by omega, decide_eq_true (by omega), by omega, decide_eq_true (by omega), by simpa using g4, by rw [hst, if_neg]; intro h; have := of_decide_eq_true h.2; omega⟩)))
            · exact .inl ⟨by omega, decide_eq_false g1, by rw [hst, if_neg (fun h => g1 h.1)]⟩
          have hws : IntKind.i64.wrap (fj + x) = fj + x := by rw [IntKind.wrap_i64]; omega
          clear hst hfj hfp hx
          rcases hcase with ⟨r0, r1, r2⟩ | ⟨r0, r1, r3, r4, r2⟩ | ⟨r0, r1, r3, r4, r5, r6, r2⟩ | ⟨r0, r1, r3, r4, r5, r6, r7, r2⟩ | ⟨r0, r1, r3, r4, r5, r6, r7, r2⟩
          all_goals
            have HR := Lib.hid r2
            clear r2
            go_wp2_with fail
            go_quiet (fail)
            go_wp2_with fail
            go_roundw
            case rel => exact ⟨j + 1, by go_num, by rw [HR.out], by omega, HZ3.out.below (below_drewN (Below.refl _ _) _), HO3.out.below (below_drewN (Below.refl _ _) _), box_below HX3.out (below_drewN (Below.refl _ _) _), below_drewN HB3.out _⟩
            case measure => simp [intOf]; omega
        · have hjk : j = k := by omega
          subst hjk
          have htq : t = (q : Int) := by rw [← HT.out, HQ.out.1]
          subst htq
          have hq0 : decide ((q : Int) < 0) = false := decide_eq_false (by omega)
          obtain ⟨hzs, -⟩ := own_sl HZ.out
          have HZS := Lib.hid hzs
          clear hzs
          have HM1 : Hid (1 + xn ≤ maxLen) := by show _ ≤ _; unfold maxLen; omega
          have HM2 : Hid ((1 + xn) * 8 ≤ 140737488355328) := by show _ ≤ _; omega
          go_wp2_with (at_builtin; go_loud (refine wpList_app eltI rfl (.tmp 67) (.tmp 68) rfl (base := wr.heap.size) _ [(q : Int)] rfl (own_one (Nat.le_refl _)) _ xn xc ((p : Int) :: ys) rfl (HZS.out.below ((Below.refl _ _).alloc (Nat.le_refl _) _)) HM1.out HM2.out (by simp) ?_); intro v1 w4 ho hg; have HO4 := Lib.hid ho; have HB4 : Hid (Below wr.heap.size wr w4) := ((Below.refl _ _).alloc (Nat.le_refl _) _).trans (own_below (own_one (Nat.le_refl _)) hg (by simp)); clear ho hg)
          have HO5 : Hid (V.Own 3 icod wr.heap.size w4 v1 ((q : Int) :: ((p : Int) :: ys))) := HO4.out
          obtain ⟨ob2, xc2, hv⟩ := own_some HO5.out
          subst hv
          obtain ⟨c', hc'⟩ : ∃ c', c = c' + 1 := ⟨c - 1, by have := HFC.out; have := HQ.out; omega⟩
          subst hc'
          have HW2 : Hid ((backE (prevE n.links (far n.links j a)) a c' q).reverse ++ ((q : Int) :: ((p : Int) :: ys)) = wayL n.links j a b) := by
            have := HW.out
            rw [backE_go (show (p : Int) ≠ (a : Int) by omega), HQ.out.2.1, List.reverse_cons, List.append_assoc] at this
            exact this
          have HX4 := Lib.hid (box_below HX.out HB4.out)
          have HB5 := Lib.hid (HB.out.trans (HB4.out.mono HB.out.size))
          have HF4 := Lib.hid (HO.out.below HB4.out)
          have hlen : (((p : Int) :: ys).length + 1) = xn + 1 := by rw [List.length_cons]; have := HXN.out; omega
          rw [hlen] at HO5 ⊢
          go_roundg c'
          case measure => omega
          case rel => exact ⟨q, c', (p : Int) :: ys, ob2, xn + 1, xc2, rfl, by show _ = _; omega, hqk, Nat.le_refl _, by omega, HO5.out.lower HB.out.size, HF4.out, HX4.out, HB5.out, HQ.out.2.2.1, by have := HFC.out; have := HQ.out; show _ ≤ _; omega, HW2.out⟩

set_option maxHeartbeats 8000000 in
set_option maxRecDepth 100000 in
theorem ptells_any (n : Net) (hs hl : Hdr) (xa xb : Int) (wa : Option Addr) (wn wc : Nat) (xs : List Int) (w : World) (h : NetIn w n hs hl) (hx : Sl icod w wa wn wc xs) :
    Calls Try.prog 9 #[n.val hs hl, .agg #[.int .i64 xa, .int .i64 xb], .slice wa wn wc] w fun e w' => e = .returned (.bool true) ∧ Below w.heap.size w w' := by
  have mixed : Try.prog.follows .mixedOrders = true := by kernel_rfl
  have hwn : wn ≤ 9223372036854775807 := by have := hx.hcap; have := hx.hmax; unfold maxLen at this; omega
  obtain ⟨sa, k, sc⟩ := hs
  obtain ⟨la, m, lc⟩ := hl
  have HH := Lib.hid h
  have HS := Lib.hid hx
  have HKN : Hid (k = n.stops.length) := h.s.hlen
  have HLN : Hid (m = n.links.length) := h.l.hlen
  have HX0 := Lib.hid (box_alloc (o := .cells #[.int .i64 xa, .int .i64 xb] 35) (box_new w (n.box ⟨sa, k, sc⟩ ⟨la, m, lc⟩)))
  have HY0 : Hid (((w.alloc (n.box ⟨sa, k, sc⟩ ⟨la, m, lc⟩)).alloc (.cells #[.int .i64 xa, .int .i64 xb] 35)).heap[w.heap.size + 1]? = some (.cells #[.int .i64 xa, .int .i64 xb] 35 (0, 0))) := by
    show _ = _
    rw [show w.heap.size + 1 = (w.alloc (n.box ⟨sa, k, sc⟩ ⟨la, m, lc⟩)).heap.size by simp]
    exact box_new _ _
  have HB0 : Hid (Below w.heap.size w ((w.alloc (n.box ⟨sa, k, sc⟩ ⟨la, m, lc⟩)).alloc (.cells #[.int .i64 xa, .int .i64 xb] 35))) := ((Below.refl _ _).alloc (Nat.le_refl _) _).alloc (by simp) _
  obtain ⟨c0, c1, c2, -, -, -⟩ := box3_cells HX0.out
  clear h hx
  go_enter Try.func9, Try.ntmps9
  go_upto_region 3 with (go_at_call 43; refine (awake17_any _).mono ?_; rintro e w1 ⟨rfl, hb1⟩; have HB1 := Lib.hid (HB0.out.trans (hb1.mono HB0.out.size)); have HX1 := Lib.hid (box_below HX0.out hb1); have HY1 := Lib.hid (box_below HY0.out hb1); clear hb1)
  clear c0 c1 c2 HX0 HB0 HY0
  obtain ⟨c0, c1, c2, -, -, -⟩ := box3_cells HX1.out
  obtain ⟨fb, hfb⟩ : ∃ fb, decide (k ≤ 60 ∧ m ≤ 120) = fb := ⟨_, rfl⟩
  have HFB := Lib.hid hfb
  clear hfb
  cases fb with
  | false =>
    go_wp2_with (go_at_call 16; refine (few_any n ⟨sa, k, sc⟩ ⟨la, m, lc⟩ _).mono ?_; rintro e w2 ⟨rfl, hb2⟩; rw [HFB.out]; have HB2 := Lib.hid (HB1.out.trans (hb2.mono HB1.out.size)); clear hb2)
    go_ret
    exact ⟨rfl, HB2.out⟩
  | true =>
  obtain ⟨k60, m120⟩ := of_decide_eq_true HFB.out
  by_cases hbig : (50 : Int) < (wn : Int)
  · go_wp2_with (go_at_call 16; refine (few_any n ⟨sa, k, sc⟩ ⟨la, m, lc⟩ _).mono ?_; rintro e w2 ⟨rfl, hb2⟩; rw [HFB.out]; have HB2 := Lib.hid (HB1.out.trans (hb2.mono HB1.out.size)); clear hb2)
    go_ret
    exact ⟨rfl, HB2.out⟩
  have hbf : decide ((50 : Int) < (wn : Int)) = false := decide_eq_false hbig
  have hw50 : wn ≤ 1000 := by omega
  have HM : Hid (k ≤ 1000000 ∧ m ≤ 1000000) := ⟨by omega, by omega⟩
  obtain ⟨ce, hce⟩ : ∃ ce, checkE n = ce := ⟨_, rfl⟩
  have HCE := Lib.hid hce
  clear hce
  obtain ⟨ev, hev⟩ : ∃ ev, fromE n xa = ev := ⟨_, rfl⟩
  have HEV := Lib.hid hev
  clear hev
  obtain ⟨fv, hfv⟩ : ∃ fv, wayErr n k xa xb = fv := ⟨_, rfl⟩
  have HFV := Lib.hid hfv
  clear hfv
  obtain ⟨dv, hdv⟩ : ∃ dv, wayFar n k xa xb = dv := ⟨_, rfl⟩
  have HDV := Lib.hid hdv
  clear hdv
  go_upto_region 8 with (first
    | (go_at_call 16; refine (few_any n ⟨sa, k, sc⟩ ⟨la, m, lc⟩ _).mono ?_; rintro e w2 ⟨rfl, hb2⟩; rw [HFB.out]; have HB2 := Lib.hid (HB1.out.trans (hb2.mono HB1.out.size)); have HX2 := Lib.hid (box_below HX1.out hb2); have HY2 := Lib.hid (box_below HY1.out hb2); obtain ⟨d0, d1, d2, -, -, -⟩ := box3_cells HX2.out; obtain ⟨y0, y1, -, -⟩ := box2_cells HY2.out; clear hb2)
    | (go_at_call 44; go_loud (refine (pfrom_gen n ⟨sa, k, sc⟩ ⟨la, m, lc⟩ xa _ HM.out (HH.out.below HB2.out)).mono ?_); rintro e w3 ⟨fa, fn, fc, rfl, hf1, hf2, hb3⟩; rw [HEV.out] at hf1 hf2 ⊢; have HB3 := Lib.hid (HB2.out.trans (hb3.mono HB2.out.size)); have HX3 := Lib.hid (box_below HX2.out hb3); have HY3 := Lib.hid (box_below HY2.out hb3); obtain ⟨e0, e1, e2, -, -, -⟩ := box3_cells HX3.out; obtain ⟨z0, z1, -, -⟩ := box2_cells HY3.out; have HF1 := Lib.hid hf1; have HF2 := Lib.hid hf2; clear hb3 hf1 hf2)
    | (go_at_call 45; go_loud (refine (pway_gen n ⟨sa, k, sc⟩ ⟨la, m, lc⟩ xa xb _ k60 m120 (HH.out.below HB3.out)).mono ?_); rintro e w4 ⟨va, vn, vc, rfl, hv1, hv2, hb4⟩; rw [HFV.out] at hv1 hv2 ⊢; rw [HDV.out]; have HB4 := Lib.hid (HB3.out.trans (hb4.mono HB3.out.size)); have HX4 := Lib.hid (box_below HX3.out hb4); have HY4 := Lib.hid (box_below HY3.out hb4); have HG2 : Hid (ev = 0 → Sl icod w4 fa fn fc (bf n.links k xa) ∧ fn = k) := (fun q => ⟨(HF2.out q).1.below hb4, (HF2.out q).2⟩); obtain ⟨g0, g1, g2, -, -, -⟩ := box3_cells HX4.out; have HV1 := Lib.hid hv1; have HV2 := Lib.hid hv2; clear hb4 hv1 hv2)
    | (go_at_call 18; go_loud (refine (rcheck_any n ⟨sa, k, sc⟩ ⟨la, m, lc⟩ _ HM.out (HH.out.below HB4.out)).mono ?_); rintro e w5 ⟨rfl, hb5⟩; rw [HCE.out]; have HB5 := Lib.hid (HB4.out.trans (hb5.mono HB4.out.size)); have HX5 := Lib.hid (box_below HX4.out hb5); have HY5 := Lib.hid (box_below HY4.out hb5); have HK2 : Hid (ev = 0 → Sl icod w5 fa fn fc (bf n.links k xa) ∧ fn = k) := (fun q => ⟨(HG2.out q).1.below hb5, (HG2.out q).2⟩); have HW2 : Hid (fv = 0 → Sl icod w5 va vn vc (wayL n.links k xa xb) ∧ vn = (wayL n.links k xa xb).length) := (fun q => ⟨(HV2.out q).1.below hb5, (HV2.out q).2⟩); clear hb5))
  clear c0 c1 c2 d0 d1 d2 e0 e1 e2 g0 g1 g2 y0 y1 z0 z1 HX1 HX2 HX3 HX4 HY1 HY2 HY3 HY4 HB1 HB2 HB3 HB4 HF2 HG2 HV2
  by_cases he : ce = 0
  case neg =>
    have he' : checkE n ≠ 0 := by rw [HCE.out]; exact he
    have hev : ev = ce := by rw [← HEV.out, ← HCE.out]; unfold fromE; rw [if_neg he']
    have hfv : fv = ce := by
      rw [← HFV.out]; unfold wayErr
      rw [if_pos (by rw [HEV.out, hev]; exact he), HEV.out, hev]
    have hfn := HF1.out (by rw [hev]; exact he)
    have hvn := HV1.out (by rw [hfv]; exact he)
    subst hev hfv hfn hvn
    have e0 : (fv == 0) = false := by simpa using he
    go_wp2_with fail
    go_ret
    exact ⟨rfl, HB5.out⟩
  case pos =>
    subst he
    obtain ⟨c0, c1, c2, -, -, -⟩ := box3_cells HX5.out
    obtain ⟨A, hA⟩ : ∃ A, (wayW n.links k xs).1 = A := ⟨_, rfl⟩
    obtain ⟨bo, hbo⟩ : ∃ bo, (wayW n.links k xs).2 = bo := ⟨_, rfl⟩
    have HA : Hid ((wayW n.links k xs).1 = A ∧ (wayW n.links k xs).2 = bo) := ⟨hA, hbo⟩
    have hAA : ((A : Int) != A) = false := by simp
    have hbb : ((bo : Bool) != bo) = false := by cases bo <;> rfl
    clear hA hbo
    go_upto_region 14 with (first
      | (go_at_call 46; go_loud (refine (pweight_any n ⟨sa, k, sc⟩ ⟨la, m, lc⟩ wa wn wc xs _ (HH.out.below HB5.out) HCE.out (HS.out.below HB5.out) (by omega)).mono ?_); rintro e w6 ⟨rfl, hb6⟩; rw [HA.out.1, HA.out.2]; have HB6 := Lib.hid (HB5.out.trans (hb6.mono HB5.out.size)); have HX6 := Lib.hid (box_below HX5.out hb6); have HY6 := Lib.hid (box_below HY5.out hb6); have HK3 : Hid (ev = 0 → Sl icod w6 fa fn fc (bf n.links k xa) ∧ fn = k) := (fun q => ⟨(HK2.out q).1.below hb6, (HK2.out q).2⟩); have HW3 : Hid (fv = 0 → Sl icod w6 va vn vc (wayL n.links k xa xb) ∧ vn = (wayL n.links k xa xb).length) := (fun q => ⟨(HW2.out q).1.below hb6, (HW2.out q).2⟩); obtain ⟨d0, d1, d2, -, -, -⟩ := box3_cells HX6.out; clear hb6)
      | (go_at_call 47; go_loud (refine (rweight_any n ⟨sa, k, sc⟩ ⟨la, m, lc⟩ wa wn wc xs _ (HH.out.below HB6.out) HCE.out (HS.out.below HB6.out) hw50).mono ?_); rintro e w7 ⟨rfl, hb7⟩; rw [HA.out.1, HA.out.2]; have HB7 := Lib.hid (HB6.out.trans (hb7.mono HB6.out.size)); have HX7 := Lib.hid (box_below HX6.out hb7); have HY7 := Lib.hid (box_below HY6.out hb7); have HK4 : Hid (ev = 0 → Sl icod w7 fa fn fc (bf n.links k xa) ∧ fn = k) := (fun q => ⟨(HK3.out q).1.below hb7, (HK3.out q).2⟩); have HW4 : Hid (fv = 0 → Sl icod w7 va vn vc (wayL n.links k xa xb) ∧ vn = (wayL n.links k xa xb).length) := (fun q => ⟨(HW3.out q).1.below hb7, (HW3.out q).2⟩); clear hb7))
    clear c0 c1 c2 d0 d1 d2 HX5 HX6 HY5 HY6 HB5 HB6 HK2 HK3 HW2 HW3 HA
    obtain ⟨c0, c1, c2, -, -, -⟩ := box3_cells HX7.out
    obtain ⟨y0, y1, -, -⟩ := box2_cells HY7.out
    by_cases hin : 0 ≤ xa ∧ xa < (k : Int)
    case neg =>
      have hev : ev = 2 := by rw [← HEV.out]; unfold fromE; rw [if_pos HCE.out, if_neg (by rw [← HKN.out]; exact hin)]
      have hfv : fv = 2 := by
        rw [← HFV.out]; unfold wayErr
        rw [if_pos (by rw [HEV.out, hev]; decide), HEV.out, hev]
      have hfn := HF1.out (by rw [hev]; decide)
      have hvn := HV1.out (by rw [hfv]; decide)
      subst hev hfv hfn hvn
      have hc : (xa < 0 ∧ decide (xa < 0) = true) ∨ (decide (xa < 0) = false ∧ (k : Int) ≤ xa ∧ decide ((k : Int) ≤ xa) = true) := by
        by_cases g : xa < 0
        · exact .inl ⟨g, decide_eq_true g⟩
        · exact .inr ⟨decide_eq_false g, by omega, decide_eq_true (by omega)⟩
      clear hin
      rcases hc with ⟨r0, r1⟩ | ⟨r0, r1, r2⟩
      all_goals
        go_wp2_with fail
        go_ret
        exact ⟨rfl, HB7.out⟩
    case pos =>
      obtain ⟨a, rfl⟩ : ∃ a : Nat, xa = a := ⟨xa.toNat, by omega⟩
      have hak : a < k := by omega
      have HIA : Hid (0 ≤ (a : Int) ∧ (a : Int) < k) := hin
      have hev : ev = 0 := by rw [← HEV.out]; unfold fromE; rw [if_pos HCE.out, if_pos (by rw [← HKN.out]; exact hin)]
      subst hev
      obtain ⟨hsl7, hfn⟩ := HK4.out rfl
      subst hfn
      have HS7 := Lib.hid hsl7
      have r0 : decide ((a : Int) < 0) = false := decide_eq_false (by omega)
      have r1 : decide ((fn : Int) ≤ (a : Int)) = false := decide_eq_false (by omega)
      have HF0 : Hid (wayErr n fn a xb = if 0 ≤ xb ∧ xb < fn then (if far n.links fn a xb < 0 then 30 else 0) else 2) := by
        show _ = _; unfold wayErr; rw [HEV.out, if_neg (by simp)]
      rw [HFV.out] at HF0
      clear hsl7 hin HK4 HF1
      go_upto_region 19 with (first
        | (go_at_call 48; go_loud (refine (rfrom_any n ⟨sa, fn, sc⟩ ⟨la, m, lc⟩ a _ (HH.out.below HB7.out) HCE.out k60 m120 hak).mono ?_); rintro e w8 ⟨o8, cap8, rfl, ho8, hb8⟩; rw [← HKN.out] at ho8; have HO8 := Lib.hid ho8; have HB8 := Lib.hid (HB7.out.trans (hb8.mono HB7.out.size)); have HX8 := Lib.hid (box_below HX7.out hb8); have HY8 := Lib.hid (box_below HY7.out hb8); have HS8 := Lib.hid (HS7.out.below hb8); have HW8 : Hid (fv = 0 → Sl icod w8 va vn vc (wayL n.links fn a xb) ∧ vn = (wayL n.links fn a xb).length) := (fun q => ⟨(HW4.out q).1.below hb8, (HW4.out q).2⟩); clear hb8 ho8)
        | (go_at_call 27; go_loud (refine (isame_any fa fn fc (bf n.links fn a) _ fn cap8 (bf n.links fn a) _ HS8.out (own_sl HO8.out).1).mono ?_); rintro e w9 ⟨rfl, hb9⟩; have HB9 := Lib.hid (HB8.out.trans (hb9.mono HB8.out.size)); have HX9 := Lib.hid (box_below HX8.out hb9); have HY9 := Lib.hid (box_below HY8.out hb9); have HO9 := Lib.hid (HO8.out.below hb9); have HW9 : Hid (fv = 0 → Sl icod w9 va vn vc (wayL n.links fn a xb) ∧ vn = (wayL n.links fn a xb).length) := (fun q => ⟨(HW8.out q).1.below hb9, (HW8.out q).2⟩); clear hb9; rw [decide_eq_true (rfl : bf n.links fn a = bf n.links fn a)]))
      clear c0 c1 c2 y0 y1 HX7 HX8 HY7 HY8 HB7 HB8 HW4 HW8 HS7 HS8 HO8
      obtain ⟨c0, c1, c2, -, -, -⟩ := box3_cells HX9.out
      obtain ⟨y0, y1, -, -⟩ := box2_cells HY9.out
      have HDE : Hid (dv = if fv = 0 then far n.links fn a xb else 0) := by show _ = _; rw [← HDV.out]; unfold wayFar; rw [HFV.out]
      by_cases hin : 0 ≤ xb ∧ xb < (fn : Int)
      case neg =>
        have hfv : fv = 2 := by have := HF0.out; rw [if_neg hin] at this; exact this
        subst hfv
        have hvn := HV1.out (by decide)
        have hdv : dv = 0 := by rw [HDE.out, if_neg (by decide)]
        subst hvn hdv
        have hc : (xb < 0 ∧ decide (xb < 0) = true) ∨ (decide (xb < 0) = false ∧ (fn : Int) ≤ xb ∧ decide ((fn : Int) ≤ xb) = true) := by
          by_cases g : xb < 0
          · exact .inl ⟨g, decide_eq_true g⟩
          · exact .inr ⟨decide_eq_false g, by omega, decide_eq_true (by omega)⟩
        clear hin
        rcases hc with ⟨q0, q1⟩ | ⟨q0, q1, q2⟩
        all_goals
          go_wp2_with fail
          go_ret
          exact ⟨rfl, HB9.out⟩
      case pos =>
        obtain ⟨b, rfl⟩ : ∃ b : Nat, xb = b := ⟨xb.toNat, by omega⟩
        have hbk : b < fn := by omega
        have q0 : decide ((b : Int) < 0) = false := decide_eq_false (by omega)
        have q1 : decide ((fn : Int) ≤ (b : Int)) = false := decide_eq_false (by omega)
        have hbi : (b : Int) < (fn : Int) := by omega
        have HLO : Hid (LinksOk n.links fn) := by have e : fn = n.stops.length := HKN.out; show LinksOk _ _; rw [e]; exact (check_ok HCE.out).2.2.2.2.1
        have p0 := bf_cell HLO.out HIA.out HO9.out hbk
        have hfv := HF0.out
        rw [if_pos hin] at hfv
        have hdv := HDE.out
        have HFW : Hid (0 ≤ far n.links fn a b → Calls Try.prog 49 #[n.val ⟨sa, fn, sc⟩ ⟨la, m, lc⟩, .int .i64 a, .int .i64 b] w9 fun e w' => ∃ v, e = .returned v ∧ V.Own 3 icod w9.heap.size w' v (wayL n.links fn a b) ∧ Below w9.heap.size w9 w') := fun q => rway_any n ⟨sa, fn, sc⟩ ⟨la, m, lc⟩ a b w9 (HH.out.below HB9.out) HCE.out k60 m120 hak hbk q
        obtain ⟨d, hd⟩ : ∃ d, far n.links fn a b = d := ⟨_, rfl⟩
        rw [hd] at p0 hfv hdv HFW
        clear hd hin
        by_cases hd0 : d < 0
        · rw [if_pos hd0] at hfv
          subst hfv
          have hvn := HV1.out (by decide)
          rw [if_neg (by decide)] at hdv
          subst hvn hdv
          have q2 : decide (d < 0) = true := decide_eq_true hd0
          go_wp2_with fail
          go_ret
          exact ⟨rfl, HB9.out⟩
        · rw [if_neg hd0] at hfv
          subst hfv
          rw [if_pos rfl] at hdv
          subst hdv
          obtain ⟨hsl9, hvn⟩ := HW9.out rfl
          have HS9 := Lib.hid hsl9
          have HVN := Lib.hid hvn
          have q2 : decide (dv < 0) = false := decide_eq_false hd0
          have q3 : ((dv : Int) == dv) = true := by simp
          have HFX := Lib.hid (HFW.out (by omega))
          have hol : o8 < w9.heap.size := (World.ownsRow.lt HO9.out o8 rfl).2
          clear hsl9 hvn HFW
          go_wp2_with (first
            | (go_at_call 49; go_loud (refine HFX.out.mono ?_); rintro e w10 ⟨v10, rfl, ho10, hb10⟩; obtain ⟨ua, uc, hv10, hsl10, -⟩ := ho10.slice; subst hv10; rw [← HVN.out] at hsl10 ⊢; have HT10 := Lib.hid hsl10; have HS10 := Lib.hid (HS9.out.below hb10); have HB10 := Lib.hid (HB9.out.trans (hb10.mono HB9.out.size)); have HX10 := Lib.hid (box_below HX9.out hb10); have HY10 := Lib.hid (box_below HY9.out hb10); have HP10 : Hid (o8 < w10.heap.size ∧ w10.cell? ⟨o8, b, none⟩ = some (.int .i64 dv)) := ⟨by have := hb10.size; omega, (hb10.cell (p := ⟨o8, b, none⟩) hol).trans p0⟩; clear hb10 ho10 hsl10)
            | (go_at_call 27; go_loud (refine (isame_any va vn vc (wayL n.links fn a b) ua vn uc (wayL n.links fn a b) _ HS10.out HT10.out).mono ?_); rintro e w11 ⟨rfl, hb11⟩; have HB11 := Lib.hid (HB10.out.trans (hb11.mono HB10.out.size)); have HY11 := Lib.hid (box_below HY10.out hb11); obtain ⟨z0, z1, -, -⟩ := box2_cells HY11.out; have s0 := (hb11.cell (p := ⟨o8, b, none⟩) HP10.out.1).trans HP10.out.2; clear hb11; rw [decide_eq_true (rfl : wayL n.links fn a b = wayL n.links fn a b)]))
          go_ret
          exact ⟨rfl, HB11.out⟩
end Go.Proofs.Yteihffnmgacfpaa.Ne
