/- Networks: the document's best way walked; distances, best ways and weights are the document's: the law walked. -/
import Derived.Test.YtgfakkkiejeofaaNvA
import Derived.Test.YtgfakkkiejeofaaNvB
import Derived.Test.YtgfakkkiejeofaaNeE
import Derived.Test.YtgfakkkiejeofaaNeO
import Derived.Deep.RegionHeld3
namespace Go.Proofs.Ytgfakkkiejeofaa.Ne
open Go.RowKit Go.V Go.Proofs Go.Sort

theorem own_one {w : World} {base : Nat} {x : Int} (hb : base ≤ w.heap.size) : V.Own 3 icod base (w.alloc (.cells #[.int .i64 x] 3)) (.slice (some ⟨w.heap.size, 0, none⟩) 1 1) [x] :=
  own_new (c := icod) w #[.int .i64 x] 3 base [x] 1 rfl hb (by unfold maxLen; omega) rfl
theorem own_some {w : World} {base : Nat} {v : Value} {x : Int} {xs : List Int} (h : V.Own 3 icod base w v (x :: xs)) : ∃ o cap, v = .slice (some ⟨o, 0, none⟩) (xs.length + 1) cap := by
  obtain ⟨g, cap, cur, e, -, -⟩ := own_ne h (by simp)
  exact ⟨g, cap, by rw [e, List.length_cons]⟩

set_option maxHeartbeats 8000000 in
set_option maxRecDepth 100000 in
theorem rway_any (n : Net) (hs hl : Hdr) (a b : Nat) (w : World) (h : NetIn w n hs hl) (hok : checkE n = 0) (h60 : hs.n ≤ 60) (h120 : hl.n ≤ 120) (hak : a < hs.n) (hbk : b < hs.n) (h0 : 0 ≤ far n.links hs.n a b) :
    Calls Try.prog 23 #[n.val hs hl, .int .i64 a, .int .i64 b] w fun e w' => ∃ v, e = .returned v ∧ V.Own 3 icod w.heap.size w' v (wayL n.links hs.n a b) ∧ Below w.heap.size w w' := by
  have mixed : Try.prog.follows .mixedOrders = true := by kernel_rfl
  obtain ⟨kk1, kk2, -, -, kk5, kk6⟩ := check_ok hok
  have HKN := Lib.hid h.s.hlen
  have HLN := Lib.hid h.l.hlen
  obtain ⟨sa, k, sc⟩ := hs
  obtain ⟨la, m, lc⟩ := hl
  have HLO : Hid (LinksOk n.links k) := by have e : k = n.stops.length := HKN.out; show LinksOk _ _; rw [e]; exact kk5
  have HPW := Lib.hid kk6
  have HH := Lib.hid h
  have HOK := Lib.hid hok
  have h60 : k ≤ 60 := h60
  have h120 : m ≤ 120 := h120
  have hak : a < k := hak
  have hbk : b < k := hbk
  have HIA : Hid (0 ≤ (a : Int) ∧ (a : Int) < k) := ⟨by omega, by omega⟩
  have HF0 : Hid (0 ≤ far n.links k a b) := h0
  have HLM : Hid (∀ v, -1 ≤ far n.links k a v ∧ far n.links k a v ≤ 20000000000) := fun v => far_lim HLO.out HIA.out h60 (by rw [← HLN.out]; exact h120) v
  have HX0 := Lib.hid (box_new w (n.box ⟨sa, k, sc⟩ ⟨la, m, lc⟩))
  have HB0 : Hid (Below w.heap.size w (w.alloc (n.box ⟨sa, k, sc⟩ ⟨la, m, lc⟩))) := (Below.refl _ _).alloc (Nat.le_refl _) _
  clear h hok kk1 kk2 kk5 kk6 h0
  go_enter Try.func23, Try.ntmps23
  go_upto_region 2 with (go_at_call 22; go_loud (refine (rfrom_any n ⟨sa, k, sc⟩ ⟨la, m, lc⟩ a _ (HH.out.below HB0.out) HOK.out h60 h120 hak).mono ?_); rintro e w1 ⟨fo, fc, rfl, ho1, hb1⟩; rw [← HKN.out] at ho1; have HB1 := Lib.hid (HB0.out.trans (hb1.mono HB0.out.size)); have HX1 := Lib.hid (box_below HX0.out hb1); have HO1 : Hid (V.Own 3 icod w.heap.size w1 (.slice (some ⟨fo, 0, none⟩) k fc) (bf n.links k a)) := ho1.lower (by simp); clear hb1 ho1)
  have HZ0 : Hid (V.Own 3 icod w.heap.size (w1.alloc (.cells #[.int .i64 b] 3)) (.slice (some ⟨w1.heap.size, 0, none⟩) 1 1) [(b : Int)]) := own_one HB1.out.size
  have HB2 := Lib.hid (HB1.out.alloc HB1.out.size (.cells #[.int .i64 b] 3))
  have HX2 := Lib.hid (box_alloc (o := .cells #[.int .i64 b] 3) HX1.out)
  have HO2 := Lib.hid (HO1.out.alloc (.cells #[.int .i64 b] 3))
  go_wp2_with fail
  go_loopg [8] 20000000000 (fun kx ov wr => ∃ (p c : Nat) (ys : List Int) (ob xn xc : Nat), ov = .slice (some ⟨ob, 0, none⟩) xn xc ∧ Hid (xn = ys.length + 1) ∧ p < k ∧ c ≤ kx ∧ xn + c ≤ 20000000001 ∧ Hid (V.Own 3 icod w.heap.size wr (.slice (some ⟨ob, 0, none⟩) xn xc) ((p : Int) :: ys)) ∧ Hid (V.Own 3 icod w.heap.size wr (.slice (some ⟨fo, 0, none⟩) k fc) (bf n.links k a)) ∧ Hid (wr.heap[w.heap.size]? = some (n.box ⟨sa, k, sc⟩ ⟨la, m, lc⟩)) ∧ Hid (Below w.heap.size w wr) ∧ Hid (0 ≤ far n.links k a p) ∧ Hid ((far n.links k a p).toNat ≤ c) ∧ Hid ((backE (prevE n.links (far n.links k a)) a c p).reverse ++ ((p : Int) :: ys) = wayL n.links k a b))
  case atStart => exact ⟨b, (far n.links k a b).toNat, [], w1.heap.size, 1, 1, rfl, rfl, hbk, by have := (HLM.out b).2; omega, by have := (HLM.out b).2; omega, HZ0.out, HO2.out, HX2.out, HB2.out, HF0.out, Nat.le_refl _, by show _ = _; unfold wayL; rw [List.reverse_cons]⟩
  case round =>
    clear HZ0 HB2 HX2 HO2 HX1 HB1 HO1 HX0 HB0 HF0
    obtain ⟨p, c, ys, ob, xn, xc, rfl, HXN, hpk, hck, hxc, HZ, HO, HX, HB, HF, HFC, HW⟩ := hrel
    have hxn0 : 0 < xn := by have := HXN.out; omega
    have hxni : (0 : Int) < (xn : Int) := by omega
    obtain ⟨dz, hdz, z0, -, -⟩ := icells HZ.out (by have := HXN.out; simpa using this) hxn0
    simp at hdz
    subst hdz
    by_cases hpa : p = a
    · subst hpa
      have hbp : ((p : Int) != (p : Int)) = false := by simp
      have HE : Hid ((p : Int) :: ys = wayL n.links k p b) := by
        have := HW.out
        rw [backE_self] at this
        exact this
      go_wp2_with fail
      go_ret
      exact ⟨_, rfl, by rw [← HE.out]; exact HZ.out, HB.out⟩
    · have hbp : ((p : Int) != (a : Int)) = true := by simp; omega
      go_wp2_with fail
      obtain ⟨q, hq1, hq2, hqk, hq3, hq4⟩ := nxt_prev HLO.out HPW.out HIA.out HF.out (show (p : Int) ≠ (a : Int) by omega)
      have HQ : Hid (nxt n.links (far n.links k a) p k = q ∧ prevE n.links (far n.links k a) p = q ∧ 0 ≤ far n.links k a q ∧ far n.links k a q < far n.links k a p) := ⟨hq1, hq2, hq3, hq4⟩
      clear hq1 hq2 hq3 hq4
      clear z0
      go_loopw [9, 10] (fun nx i wr => ∃ j : Nat, i = .int .i64 j ∧ nx = .int .i64 (nxt n.links (far n.links k a) p j) ∧ j ≤ k ∧ Hid (V.Own 3 icod w.heap.size wr (.slice (some ⟨ob, 0, none⟩) xn xc) ((p : Int) :: ys)) ∧ Hid (V.Own 3 icod w.heap.size wr (.slice (some ⟨fo, 0, none⟩) k fc) (bf n.links k a)) ∧ Hid (wr.heap[w.heap.size]? = some (n.box ⟨sa, k, sc⟩ ⟨la, m, lc⟩)) ∧ Hid (Below w.heap.size w wr)) (fun _ i _ => k - (intOf i).toNat)
      case atStart => exact ⟨0, by go_num, by go_num, by omega, HZ.out, HO.out, HX.out, HB.out⟩
      case round =>
        clear HZ HO HX HB
        obtain ⟨j, rfl, rfl, hj, HZ, HO, HX, HB⟩ := hrel
        obtain ⟨c0, c1, c2, -, -, -⟩ := box3_cells HX.out
        obtain ⟨dz, hdz, z0, -, -⟩ := icells HZ.out (by have := HXN.out; simpa using this) hxn0
        simp at hdz
        subst hdz
        obtain ⟨t, ht⟩ : ∃ t, nxt n.links (far n.links k a) p j = t := ⟨_, rfl⟩
        have HT := Lib.hid ht
        rw [ht]
        clear ht
        by_cases hlt : j < k
        · have hji : (j : Int) < (k : Int) := by omega
          have hpi : (p : Int) < (k : Int) := by omega
          obtain ⟨x, hx⟩ : ∃ x, wtE n.links p j = x := ⟨_, rfl⟩
          have HXX := Lib.hid hx
          have hlim := wt_lim HLO.out (p : Int) (j : Int)
          rw [hx] at hlim
          have HBd : Hid (Below w.heap.size w wr.drew) := HB.out.trans (Below.drew (Below.refl _ _))
          have HZd := Lib.hid (HZ.out.below (Below.drew (Below.refl _ _)))
          have HOd := Lib.hid (HO.out.below (Below.drew (Below.refl _ _)))
          have hzl : ob < wr.heap.size := (World.ownsRow.lt HZ.out ob rfl).2
          go_upto_region 8 with fail
          go_region_held3 (fun w' => w'.cell? ⟨w.heap.size, 0, none⟩ = some (.int .i64 n.ver) ∧ w'.cell? ⟨w.heap.size, 1, none⟩ = some (.slice sa k sc) ∧ w'.cell? ⟨w.heap.size, 2, none⟩ = some (.slice la m lc) ∧ w'.cell? ⟨ob, 0, none⟩ = some (.int .i64 p))
            (first | go_keep | (exact ⟨d0, d1, d2, y0⟩))
            (first
              | (go_at_call 39; go_loud (refine (rwt_any n ⟨sa, k, sc⟩ ⟨la, m, lc⟩ p j wr.drew (HH.out.below HBd.out)).mono ?_); rintro e w3 ⟨rfl, hb3⟩; rw [HXX.out]; have HX3 := Lib.hid (box_below (w := wr.drew) HX.out hb3); have HB3 := Lib.hid (HBd.out.trans (hb3.mono HBd.out.size)); have HZ3 := Lib.hid (HZd.out.below hb3); have HO3 := Lib.hid (HOd.out.below hb3); obtain ⟨d0, d1, d2, -, -, -⟩ := box3_cells HX3.out; have y0 := (hb3.cell (p := ⟨ob, 0, none⟩) hzl).trans z0; clear hb3))
          clear c0 c1 c2 z0 d0 d1 d2
          have p0 := bf_cell HLO.out HIA.out HO3.out hlt
          have p1 := bf_cell HLO.out HIA.out HO3.out hpk
          have l1 := HLM.out j
          have hst : nxt n.links (far n.links k a) p (j + 1) = if t < 0 ∧ hopB n.links (far n.links k a) p j = true then (j : Int) else t := nxt_step HT.out
          unfold hopB at hst
          rw [HXX.out] at hst
          obtain ⟨fj, hfj⟩ : ∃ fj, far n.links k a j = fj := ⟨_, rfl⟩
          obtain ⟨fp, hfp⟩ : ∃ fp, far n.links k a p = fp := ⟨_, rfl⟩
          rw [hfj] at p0 l1 hst
          rw [hfp] at p1 hst
          have hcase : (0 ≤ t ∧ decide (t < 0) = false ∧ nxt n.links (far n.links k a) p (j + 1) = t) ∨ (t < 0 ∧ decide (t < 0) = true ∧ x = 0 ∧ decide (0 < x) = false ∧ nxt n.links (far n.links k a) p (j + 1) = t) ∨ (t < 0 ∧ decide (t < 0) = true ∧ 0 < x ∧ decide (0 < x) = true ∧ fj < 0 ∧ decide (0 ≤ fj) = false ∧ nxt n.links (far n.links k a) p (j + 1) = t) ∨ (t < 0 ∧ decide (t < 0) = true ∧ 0 < x ∧ decide (0 < x) = true ∧ 0 ≤ fj ∧ decide (0 ≤ fj) = true ∧ ((fj + x) == fp) = false ∧ nxt n.links (far n.links k a) p (j + 1) = t) ∨ (t < 0 ∧ decide (t < 0) = true ∧ 0 < x ∧ decide (0 < x) = true ∧ 0 ≤ fj ∧ decide (0 ≤ fj) = true ∧ ((fj + x) == fp) = true ∧ nxt n.links (far n.links k a) p (j + 1) = j) := by
            by_cases g1 : t < 0
            · by_cases g2 : x = 0
              · exact .inr (.inl ⟨g1, decide_eq_true g1, g2, decide_eq_false (by omega), by rw [hst, if_neg]; intro h; have := of_decide_eq_true h.2; omega⟩)
              · by_cases g3 : fj < 0
                · exact .inr (.inr (.inl ⟨g1, decide_eq_true g1, by omega, decide_eq_true (by omega), g3, decide_eq_false (by omega), by rw [hst, if_neg]; intro h; have := of_decide_eq_true h.2; omega⟩))
                · by_cases g4 : fj + x = fp
                  · exact .inr (.inr (.inr (.inr ⟨g1, decide_eq_true g1, by omega, decide_eq_true (by omega), by omega, decide_eq_true (by omega), by simpa using g4, by rw [hst, if_pos ⟨g1, decide_eq_true ⟨by omega, by omega, g4⟩⟩]⟩)))
                  · exact .inr (.inr (.inr (.inl ⟨g1, decide_eq_true g1, by omega, decide_eq_true (by omega), by omega, decide_eq_true (by omega), by simpa using g4, by rw [hst, if_neg]; intro h; have := of_decide_eq_true h.2; omega⟩)))
            · exact .inl ⟨by omega, decide_eq_false g1, by rw [hst, if_neg (fun h => g1 h.1)]⟩
          have hws : IntKind.i64.wrap (fj + x) = fj + x := by rw [IntKind.wrap_i64]; omega
          clear hst hfj hfp hx
          rcases hcase with ⟨r0, r1, r2⟩ | ⟨r0, r1, r3, r4, r2⟩ | ⟨r0, r1, r3, r4, r5, r6, r2⟩ | ⟨r0, r1, r3, r4, r5, r6, r7, r2⟩ | ⟨r0, r1, r3, r4, r5, r6, r7, r2⟩
          all_goals
            have HR := Lib.hid r2
            clear r2
            go_wp2_with fail
            go_quiet (fail)
            go_wp2_with fail
            go_roundw
            case rel => exact ⟨j + 1, by go_num, by rw [HR.out], by omega, HZ3.out.below (below_drewN (Below.refl _ _) _), HO3.out.below (below_drewN (Below.refl _ _) _), box_below HX3.out (below_drewN (Below.refl _ _) _), below_drewN HB3.out _⟩
            case measure => simp [intOf]; omega
        · have hjk : j = k := by omega
          subst hjk
          have htq : t = (q : Int) := by rw [← HT.out, HQ.out.1]
          subst htq
          have hq0 : decide ((q : Int) < 0) = false := decide_eq_false (by omega)
          obtain ⟨hzs, -⟩ := own_sl HZ.out
          have HZS := Lib.hid hzs
          clear hzs
          have HM1 : Hid (1 + xn ≤ maxLen) := by show _ ≤ _; unfold maxLen; omega
          have HM2 : Hid ((1 + xn) * 8 ≤ 140737488355328) := by show _ ≤ _; omega
          go_wp2_with (at_builtin; go_loud (refine wpList_app eltI rfl (.tmp 67) (.tmp 68) rfl (base := wr.heap.size) _ [(q : Int)] rfl (own_one (Nat.le_refl _)) _ xn xc ((p : Int) :: ys) rfl (HZS.out.below ((Below.refl _ _).alloc (Nat.le_refl _) _)) HM1.out HM2.out (by simp) ?_); intro v1 w4 ho hg; have HO4 := Lib.hid ho; have HB4 : Hid (Below wr.heap.size wr w4) := ((Below.refl _ _).alloc (Nat.le_refl _) _).trans (own_below (own_one (Nat.le_refl _)) hg (by simp)); clear ho hg)
          have HO5 : Hid (V.Own 3 icod wr.heap.size w4 v1 ((q : Int) :: ((p : Int) :: ys))) := HO4.out
          obtain ⟨ob2, xc2, hv⟩ := own_some HO5.out
          subst hv
          obtain ⟨c', hc'⟩ : ∃ c', c = c' + 1 := ⟨c - 1, by have := HFC.out; have := HQ.out; omega⟩
          subst hc'
          have HW2 : Hid ((backE (prevE n.links (far n.links j a)) a c' q).reverse ++ ((q : Int) :: ((p : Int) :: ys)) = wayL n.links j a b) := by
            have := HW.out
            rw [backE_go (show (p : Int) ≠ (a : Int) by omega), HQ.out.2.1, List.reverse_cons, List.append_assoc] at this
            exact this
          have HX4 := Lib.hid (box_below HX.out HB4.out)
          have HB5 := Lib.hid (HB.out.trans (HB4.out.mono HB.out.size))
          have HF4 := Lib.hid (HO.out.below HB4.out)
          have hlen : (((p : Int) :: ys).length + 1) = xn + 1 := by rw [List.length_cons]; have := HXN.out; omega
          rw [hlen] at HO5 ⊢
          go_roundg c'
          case measure => omega
          case rel => exact ⟨q, c', (p : Int) :: ys, ob2, xn + 1, xc2, rfl, by show _ = _; omega, hqk, Nat.le_refl _, by omega, HO5.out.lower HB.out.size, HF4.out, HX4.out, HB5.out, HQ.out.2.2.1, by have := HFC.out; have := HQ.out; show _ ≤ _; omega, HW2.out⟩

end Go.Proofs.Ytgfakkkiejeofaa.Ne
