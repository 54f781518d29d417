/- Disputes: the document's parts, walked. -/
import Derived.Test.YtgdhlhjflbinmaaDiP
import Derived.Test.YtgdhlhjflbinmaaDiE
import Derived.Test.YtgdhlhjflbinmaaDiG
import Derived.Deep.CutRange
namespace Go.Proofs.Ytgdhlhjflbinmaa
open Go.RowKit Go.V Go.Sort Go.Shelf Go.Proofs Go.Maps

theorem map_setT {xs : List Ride} (h : (xs.map Ride.t).Nodup) {j : Nat} {r : Ride} (hj : xs[j]? = some r) (F : Int → Int) (y : Int) : (xs.map fun s => F s.t).set j y = xs.map fun s => if s.t = r.t then y else F s.t := by
  apply List.ext_getElem?
  intro i
  have hl := (List.getElem?_eq_some_iff.1 hj).1
  by_cases hi : i = j
  · subst hi
    rw [List.getElem?_set_self (by rw [List.length_map]; exact hl), List.getElem?_map, hj]
    simp
  · rw [List.getElem?_set_ne (fun e => hi e.symm), List.getElem?_map, List.getElem?_map]
    cases hx : xs[i]? with
    | none => rfl
    | some s =>
      have : s.t ≠ r.t := fun e => hi (trip_idx h hx hj e)
      simp [this]
theorem findI_mem {xs : List Ride} {t : Int} (h : t ∈ xs.map Ride.t) : ∃ (j : Nat) (r : Ride), findI xs t = j ∧ j < xs.length ∧ xs[j]? = some r ∧ r.t = t := by
  obtain ⟨s, hs, rfl⟩ := List.mem_map.1 h
  rcases findI_cases xs s.t with ⟨-, h2⟩ | ⟨k, r, h1, h2, h3, h4, -⟩
  · exact absurd rfl (h2 s hs)
  · exact ⟨k, r, h1, h2, h3, h4⟩

theorem own_cases_ {α : Type} {e : TypeId} {c : Cod α} {base : Nat} {w : World} {v : Value} {xs : List α} (h : V.Own e c base w v xs) : v.ownBlock = none ∨ ∃ g, v.ownBlock = some g ∧ base ≤ g := by
  cases hv : v.ownBlock with
  | none => exact .inl rfl
  | some g => exact .inr ⟨g, rfl, (World.ownsRow.lt h g hv).1⟩
theorem own_sl_ {α : Type} {c : Cod α} {e : TypeId} {B : Nat} {w : World} {a : Option Addr} {n cap : Nat} {xs : List α} (h : V.Own e c B w (.slice a n cap) xs) : Sl c w a n cap xs := by
  obtain ⟨a1, b1, e1, s1, -⟩ := h.slice
  cases e1
  exact s1

set_option maxHeartbeats 8000000 in
set_option maxRecDepth 100000 in
theorem rsplit33_any (t : Tar) (hb hs hr : Hdr) (c : Int) (a : Option Addr) (n cap : Nat) (xs : List Ride) (w : World) (hm : hb.n ≤ 1000000 ∧ hs.n ≤ 1000000 ∧ hr.n ≤ 1000000) (hn : n ≤ 100000) (h : TarIn w t hb hs hr) (hx : Sl Ride.cod w a n cap xs) :
    Calls Try.prog 15 #[t.val hb hs hr, .int .i64 c, .slice a n cap] w fun e w' => ∃ v, e = .returned (.tuple #[v, .int .i64 (monthE t c xs)]) ∧ V.Own 3 icod w.heap.size w' v (splR t c xs) ∧ Below w.heap.size w w' := by
  have HN := Lib.hid hx.hlen
  have TB0 : Hid (TarBox 26 (w.alloc (t.box hb hs hr)) w.heap.size t hb hs hr) := box_new _ _
  have B0 : Hid (Below w.heap.size w (w.alloc (t.box hb hs hr))) := (Below.refl _ _).alloc (Nat.le_refl _) _
  unfold Tar.box at TB0 B0
  obtain ⟨gs, hgs⟩ : ∃ gs, billG t c xs = gs := ⟨_, rfl⟩
  obtain ⟨S, hS⟩ : ∃ S, billS t c xs = S := ⟨_, rfl⟩
  obtain ⟨P, hP⟩ : ∃ P, billP t c xs = P := ⟨_, rfl⟩
  have hR : splR t c xs = if monthE t c xs = 0 then xs.map fun r => mapOf (duesTo gs S P gs.length) r.t else [] := by unfold splR; rw [hgs, hS, hP]
  have HR := Lib.hid hR
  have HG : Hid (monthE t c xs = 0 → GrpsOk gs S P ∧ (∀ g ∈ gs, ∀ y ∈ g.trips, y ∈ xs.map Ride.t) ∧ (xs.map Ride.t).Nodup) := by
    intro h0
    rw [← hgs, ← hS, ← hP]
    obtain ⟨q1, -, q3, q4⟩ := month_ok h0
    exact ⟨q1, fun g hg y hy => q3.mem_iff.1 (List.mem_flatMap.2 ⟨g, hg, hy⟩), q4⟩
  obtain ⟨E, hE⟩ : ∃ E, monthE t c xs = E := ⟨_, rfl⟩
  have HQ : Hid (billG t c xs = gs ∧ billS t c xs = S ∧ billP t c xs = P ∧ monthE t c xs = E) := ⟨hgs, hS, hP, hE⟩
  rw [hE] at HR HG
  clear hgs hS hP hE hR
  have hmk := fun (m : Nat) (hm : m ≤ 100000) => run_make_row' (P := Try.prog) 23 3 (.int .i64 0) 8 Try.underlying23 infoInt rfl .i64 .i64 m (by omega) (by omega)
  unfold Tar.val
  go_enter Try.func15, Try.ntmps15
  by_cases e0 : E = 0
  case neg =>
    have e1 : (E == 0) = false := by simp; exact e0
    have e1' : (E != 0) = true := by simp; exact e0
    have hv := HR.out
    rw [if_neg e0] at hv
    have HV := Lib.hid hv
    clear hv
    go_wp2_with (go_at_call 26; refine (rmonth_any t hb hs hr c a n cap xs _ hm hn (h.below B0.out) (hx.below B0.out)).mono ?_; rintro e w1 ⟨v, rfl, hbl, hb1⟩; rw [HQ.out.2.2.2]; rw [HQ.out.1, HQ.out.2.1, HQ.out.2.2.1] at hbl; obtain ⟨a1, c1, g1, rfl, -⟩ := hbl.billIn; have HB1 : Hid (Below w.heap.size w w1) := B0.out.trans (hb1.mono B0.out.size); clear hb1 hbl)
    go_ret2
    exact ⟨_, by rw [HQ.out.2.2.2]; rfl, by rw [HV.out]; exact V.Own.nil, HB1.out.alloc HB1.out.size _⟩
  case pos =>
    subst e0
    obtain ⟨hG, hW, hND⟩ := HG.out rfl
    have HG2 := Lib.hid hG
    have HWF := Lib.hid hW
    have HND := Lib.hid hND
    have hv := HR.out
    rw [if_pos rfl] at hv
    have HV := Lib.hid hv
    have hgl := hG.len
    have hpay := hG.pay
    have htop := hG.top
    clear HG hG hW hv hND
    have hmk2 := hmk n hn
    go_upto_region 4 with (go_at_call 26; refine (rmonth_any t hb hs hr c a n cap xs _ hm hn (h.below B0.out) (hx.below B0.out)).mono ?_; rintro e w1 ⟨v, rfl, hbl, hb1⟩; rw [HQ.out.2.2.2]; rw [HQ.out.1, HQ.out.2.1, HQ.out.2.2.1] at hbl; obtain ⟨a1, c1, g1, rfl, hin⟩ := hbl.billIn; have HI1 := Lib.hid hin; have HB1 : Hid (Below w.heap.size w w1) := B0.out.trans (hb1.mono B0.out.size); clear hb1 hbl hin)
    have hs1 := HB1.out.size
    have X1 : Hid ((w1.alloc (.cells #[.slice a1 gs.length c1, .int .i64 S, .int .i64 P] 61)).heap[w1.heap.size]? = some (.cells #[.slice a1 gs.length c1, .int .i64 S, .int .i64 P] 61 (0, 0))) := box_new _ _
    have Y3 : Hid (Below w.heap.size w (w1.alloc (.cells #[.slice a1 gs.length c1, .int .i64 S, .int .i64 P] 61))) := HB1.out.alloc hs1 _
    have Y4 : Hid (BillIn (w1.alloc (.cells #[.slice a1 gs.length c1, .int .i64 S, .int .i64 P] 61)) a1 gs.length c1 g1 gs) := HI1.out.below ((Below.refl _ _).alloc (Nat.le_refl _) _)
    have hx1 : w1.heap.size < (w1.alloc (.cells #[.slice a1 gs.length c1, .int .i64 S, .int .i64 P] 61)).heap.size := by simp
    obtain ⟨W, hW⟩ : ∃ W, w1.alloc (.cells #[.slice a1 gs.length c1, .int .i64 S, .int .i64 P] 61) = W := ⟨_, rfl⟩
    rw [hW] at X1 Y3 Y4 hx1 ⊢
    clear hW
    have hsW := Y3.out.size
    obtain ⟨p0, p1, p2, -, -, -⟩ := box3_cells X1.out
    obtain ⟨gn, hgn⟩ : ∃ gn, gs.length = gn := ⟨_, rfl⟩
    have HGN := Lib.hid hgn
    rw [hgn] at hgl p0 X1 Y4 ⊢
    clear hgn
    obtain ⟨f, hf⟩ : ∃ f, partF gs S P = f := ⟨_, rfl⟩
    have HF := Lib.hid hf
    clear hf
    have O0 : Hid (V.Own 3 icod W.heap.size (W.alloc (.cells (madeCells #[.int .i64 0] n) 3)) (.slice (some ⟨W.heap.size, 0, none⟩) n n) (xs.map fun r => mapOf (duesTo gs S P 0) r.t)) := by
      have := iown_made W n _ (Nat.le_refl _) (by unfold maxLen; omega)
      have e : (xs.map fun r => mapOf (duesTo gs S P 0) r.t) = List.replicate n (0 : Int) := by
        show (xs.map fun _ => (0 : Int)) = _
        rw [List.map_const', ← HN.out]
      show V.Own _ _ _ _ _ _
      rw [e]; exact this
    have YV : Hid (Below W.heap.size W (W.alloc (.cells (madeCells #[.int .i64 0] n) 3))) := (Below.refl _ _).alloc (Nat.le_refl _) _
    have hxV : W.heap.size < (W.alloc (.cells (madeCells #[.int .i64 0] n) 3)).heap.size := by simp
    obtain ⟨sz, hsz⟩ : ∃ sz, sz = W.heap.size := ⟨_, rfl⟩
    go_upto_region 5 with fail
    obtain ⟨U, hU⟩ : ∃ U, W.alloc (.cells (madeCells #[.int .i64 0] n) 3) = U := ⟨_, rfl⟩
    rw [hU] at O0 YV hxV ⊢
    clear hU
    have XV := Lib.hid (box_below X1.out YV.out)
    obtain ⟨p0, p1, p2, -, -, -⟩ := box3_cells XV.out
    go_wp2_with fail
    go_loopw [11, 12, 13] (fun v u i wr => ∃ (k : Nat) (s : Int) (ap : Option Addr) (cp : Nat), i = .int .i64 k ∧ k ≤ gn ∧ v = .int .i64 s ∧ u = .slice ap k cp ∧ Hid (s = P - sumF f k) ∧ Hid (V.Own 3 icod U.heap.size wr (.slice ap k cp) ((List.range k).map f)) ∧ Hid (Below U.heap.size U wr)) (fun _ _ i _ => gn - (intOf i).toNat)
    case atStart => exact ⟨0, P, none, 0, rfl, by omega, rfl, rfl, by show P = P - 0; omega, V.Own.nil, Below.refl _ _⟩
    case round =>
      obtain ⟨k, s, ap, cp, rfl, hk, rfl, rfl, hsk, hO, hB⟩ := hrel
      have hsr := hB.out.size
      have XBr := Lib.hid (box_below XV.out hB.out)
      obtain ⟨p0, p1, p2, -, -, -⟩ := box3_cells XBr.out
      by_cases hlt : k < gn
      · obtain ⟨b, off, at_, ct, g, rfl, hbb, hg, f0, f1, f2, -⟩ := ((Y4.out.below YV.out).below hB.out).at hlt
        obtain ⟨-, j1, j2⟩ := HG2.out.each g (List.mem_of_getElem? hg)
        have e1 : f k = part0 S P g.price := by rw [← HF.out]; unfold partF; rw [List.getD_eq_getElem?_getD, hg]; rfl
        obtain ⟨u1, u2, -⟩ := part0_in hpay j1
        rw [← e1] at u1 u2
        obtain ⟨v1, v2, -⟩ := sumF_in HG2.out k (by rw [HGN.out]; omega)
        rw [HF.out] at v1 v2
        obtain ⟨q, hq⟩ : ∃ q, sumF f k = q := ⟨_, rfl⟩
        have hs' := hsk.out
        rw [hq] at v1 v2 hs'
        have HQQ := Lib.hid hq
        have HE1 := Lib.hid e1
        obtain ⟨d, hd⟩ : ∃ d, f k = d := ⟨_, rfl⟩
        have HD := Lib.hid hd
        rw [hd] at u1 u2
        have hgk : (k : Int) ≤ 2048 := by omega
        have hd2 : d ≤ 16777216 := by omega
        have hP2 : 0 ≤ P ∧ P ≤ 34359738368 := by omega
        have r1 : IntKind.i64.wrap (s - d) = s - d := by rw [IntKind.wrap_i64]; omega
        have r0 : IntKind.i64.wrap s = s := by rw [IntKind.wrap_i64]; omega
        have HS2 := Lib.hid hs'
        have b1 : (k : Int) < (gn : Int) := by omega
        have hk1 : ((List.range k).map f).length = k := by simp
        have HK1 := Lib.hid hk1
        have HSn : Hid ((List.range (k + 1)).map f = (List.range k).map f ++ [d]) := by
          show _ = _
          rw [List.range_succ, List.map_append, List.map_singleton, hd]
        have HM1 : Hid (((List.range k).map f).length + 1 ≤ maxLen) := by show _ ≤ _; rw [hk1]; unfold maxLen; omega
        have HM2 : Hid ((((List.range k).map f).length + 1) * 8 ≤ 140737488355328) := by show _ ≤ _; rw [hk1]; omega
        clear hq e1 hd hg hs' hk1
        by_cases hS : 0 < S
        · have m1 : 0 ≤ P * g.price := Int.mul_nonneg hP2.1 j1
          have m2 : P * g.price ≤ 34359738368 * 16777216 := Int.mul_le_mul hP2.2 j2 j1 (by decide)
          have e2 : P * g.price / S = d := by rw [← HD.out, HE1.out]; unfold part0; rw [if_pos hS]
          obtain ⟨m, hm'⟩ : ∃ m, P * g.price = m := ⟨_, rfl⟩
          rw [hm'] at m1 m2 e2
          have rm : IntKind.i64.wrap m = m := by rw [IntKind.wrap_i64]; omega
          have q3 : m.tdiv S = d := by rw [Int.tdiv_eq_ediv_of_nonneg m1]; exact e2
          have rd : IntKind.i64.wrap d = d := by rw [IntKind.wrap_i64]; omega
          have z1 : (S == 0) = false := by simp; omega
          have z2 : ¬ S = 0 := by omega
          clear e2
          go_wp2_with fail
          go_quiet (fail)
          go_wp2_with (at_builtin; go_loud (refine wpList_app eltInt rfl (.tmp 57) (.tmp 59) rfl (base := U.heap.size) _ ((List.range k).map f) rfl ((hO.out.below (below_drewN (Below.refl _ _) _)).alloc _) _ 1 1 [d] rfl (sl_new (c := icod) _ #[.int .i64 d] 3 [d] 1 rfl (by unfold maxLen; omega) rfl) HM1.out HM2.out (by simp; omega) ?_); intro v5 w5 hown5 hg5; obtain ⟨a5, c5, e5, -⟩ := hown5.slice; rw [List.length_append, HK1.out] at e5; subst e5; have HO5 := Lib.hid hown5; have HB5 : Hid (Below U.heap.size U w5) := ((below_drewN hB.out _).alloc (below_drewN hB.out nq).size _).grown hg5 (by simp; omega) (fun j hj => own_lt hO.out j hj); clear hown5 hg5)
          go_roundw
          case rel => exact ⟨k + 1, s - d, _, _, by go_num, by omega, rfl, rfl, by show s - d = P - (sumF f k + f k); rw [HQQ.out, HD.out, HS2.out]; omega, by show V.Own _ _ _ _ _ _; rw [HSn.out]; exact HO5.out, HB5.out⟩
          case measure => simp [intOf]; omega
        · have e2 : d = 0 := by rw [← HD.out, HE1.out]; unfold part0; rw [if_neg hS]
          subst e2
          go_wp2_with (at_builtin; go_loud (refine wpList_app eltInt rfl (.tmp 57) (.tmp 59) rfl (base := U.heap.size) _ ((List.range k).map f) rfl (hO.out.alloc _) _ 1 1 [0] rfl (sl_new (c := icod) _ #[.int .i64 0] 3 [0] 1 rfl (by unfold maxLen; omega) rfl) HM1.out HM2.out (by simp; omega) ?_); intro v5 w5 hown5 hg5; obtain ⟨a5, c5, e5, -⟩ := hown5.slice; rw [List.length_append, HK1.out] at e5; subst e5; have HO5 := Lib.hid hown5; have HB5 : Hid (Below U.heap.size U w5) := (hB.out.alloc hB.out.size _).grown hg5 (by simp; omega) (fun j hj => own_lt hO.out j hj); clear hown5 hg5)
          go_roundw
          case rel => exact ⟨k + 1, s - 0, _, _, by go_num, by omega, by first | rfl | rw [Int.sub_zero] | rw [Int.sub_zero, r0], rfl, by show s - 0 = P - (sumF f k + f k); rw [HQQ.out, HD.out, HS2.out]; omega, by show V.Own _ _ _ _ _ _; rw [HSn.out]; exact HO5.out, HB5.out⟩
          case measure => simp [intOf]; omega
      · have hk' : k = gn := by omega
        subst hk'
        obtain ⟨v1, v2, -⟩ := sumF_in HG2.out k (by rw [HGN.out]; omega)
        rw [HF.out] at v1 v2
        have hs' := hsk.out
        have hrs : 0 ≤ P ∧ P ≤ 34359738368 := by omega
        have HS3 := Lib.hid hs'
        have HPO : Hid (∀ m, m < k → partOfG gs S P m = f m + (if m = 0 then s else 0) ∧ 0 ≤ partOfG gs S P m ∧ partOfG gs S P m ≤ 68719476736) := by
          intro m hm'
          refine ⟨?_, partOfG_in HG2.out (by rw [HGN.out]; exact hm')⟩
          unfold partOfG
          rw [HF.out, HGN.out, ← hs']
        clear hs' v1 v2
        obtain ⟨wq, rfl⟩ : ∃ wq : World, wq = wr := ⟨_, rfl⟩
        have HBV : Hid (Below W.heap.size W wq) := YV.out.trans (hB.out.mono (Nat.le_of_lt hxV))
        go_wp2_with fail
        go_loopw [15] (fun i wx => ∃ m : Nat, i = .int .i64 m ∧ m ≤ k ∧ Hid (V.Own 3 icod W.heap.size wx (.slice (some ⟨W.heap.size, 0, none⟩) n n) (xs.map fun r => mapOf (duesTo gs S P m) r.t)) ∧ Hid (Below W.heap.size W wx) ∧ Hid (wq.grownBy wx (some W.heap.size))) (fun i _ => k - (intOf i).toNat)
        case atStart => exact ⟨0, rfl, by omega, O0.out.below hB.out, HBV.out, ⟨rfl, rfl, rfl, Nat.le_refl _, fun _ _ _ => rfl⟩⟩
        case round =>
          obtain ⟨m, rfl, hmk', hOm, hBm, hGm⟩ := hrel
          have hsm := hBm.out.size
          have XBm := Lib.hid (box_below X1.out hBm.out)
          obtain ⟨p0, p1, p2, -, -, -⟩ := box3_cells XBm.out
          by_cases hlt2 : m < k
          · obtain ⟨b, off, at_, ct, g, rfl, hbb, hg, f0, f1, f2, htr⟩ := Y4.out.at hlt2
            have hgd : gs.getD m default = g := by rw [List.getD_eq_getElem?_getD, hg]; rfl
            obtain ⟨⟨j1, j2⟩, -, -⟩ := HG2.out.each g (List.mem_of_getElem? hg)
            have hwf := HWF.out g (List.mem_of_getElem? hg)
            obtain ⟨y0, y1, y2⟩ := HPO.out m hlt2
            obtain ⟨d, hd⟩ : ∃ d, partOfG gs S P m = d := ⟨_, rfl⟩
            rw [hd] at y0 y1 y2
            have hc0 : ((List.range k).map f)[m]? = some (f m) := by simp [hlt2]
            obtain ⟨fm, hfm⟩ : ∃ fm, f m = fm := ⟨_, rfl⟩
            rw [hfm] at hc0 y0
            have hPk : V.Own 3 icod U.heap.size wr (.slice ap k cp) ((List.range k).map f) := hO.out.kept hGm.out (by
              rcases own_cases_ hO.out with e | ⟨g', e, hge⟩
              · exact .inl e
              · exact .inr (by rw [e]; simp; omega))
            obtain ⟨b3, o3, x3, rfl, hb3, hx3, c0⟩ := int_at (own_sl_ hPk) hlt2
            have hx3' := hx3.symm.trans hc0
            cases hx3'
            have hde : dueG gs S P m = g.trips.zip (splitL d g.trips.length) := by unfold dueG; rw [hgd, hd]
            obtain ⟨tl, htl⟩ : ∃ tl, g.trips.length = tl := ⟨_, rfl⟩
            rw [htl] at f0 htr j1 j2 hde
            have F0 : Hid (W.cell? ⟨b, off + m * 3, none⟩ = some (.slice at_ tl ct)) := f0
            have f0' := (hBm.out.cell (p := ⟨b, off + m * 3, none⟩) hbb).trans f0
            have HTL := Lib.hid htl
            have HDE := Lib.hid hde
            have HTR := Lib.hid htr
            have HW := Lib.hid hwf
            have HP0 := Lib.hid y0
            have b1 : (m : Int) < (k : Int) := by omega
            clear hg hgd hd hde htl htr hwf hfm hPk hx3 hc0 f0 f1 f2 y0
            obtain ⟨wj, rfl⟩ : ∃ wj : World, wj = wr := ⟨_, rfl⟩
            go_upto_if 76 with fail
            go_cut [16] (fun v wx => v = .int .i64 d ∧ wx = wj)
            case first =>
              by_cases hm0 : m = 0
              · subst hm0
                have e4 : fm + s = d := by have := HP0.out; simp at this; omega
                have r4 : IntKind.i64.wrap (fm + s) = d := by rw [e4, IntKind.wrap_i64]; omega
                go_wp2_with fail
                go_meet
                exact ⟨rfl, rfl⟩
              · have e4 : fm = d := by have := HP0.out; rw [if_neg hm0] at this; omega
                have z0 : ((m : Int) == 0) = false := by simp; omega
                have z0' : ¬ (m : Int) = 0 := by omega
                go_wp2_with fail
                go_meet
                exact ⟨by rw [e4], rfl⟩
            obtain ⟨rfl, rfl⟩ := hcut
            go_wp2_with fail
            go_loopw [18] (fun i wx => ∃ p : Nat, i = .int .i64 p ∧ p ≤ tl ∧ Hid (V.Own 3 icod W.heap.size wx (.slice (some ⟨W.heap.size, 0, none⟩) n n) (xs.map fun r => mapOf (duesTo gs S P m ++ (dueG gs S P m).take p) r.t)) ∧ Hid (Below W.heap.size W wx) ∧ Hid (wq.grownBy wx (some W.heap.size))) (fun i _ => tl - (intOf i).toNat)
            case atStart => exact ⟨0, rfl, by omega, by show V.Own _ _ _ _ _ _; rw [List.take_zero, List.append_nil]; exact hOm.out, hBm.out, hGm.out⟩
            case round =>
              obtain ⟨p, rfl, hp, hO7, hB7, hG7⟩ := hrel
              have hs7 := hB7.out.size
              have XB7 := Lib.hid (box_below X1.out hB7.out)
              obtain ⟨p0, p1, p2, -, -, -⟩ := box3_cells XB7.out
              have f7 := (hB7.out.cell (p := ⟨b, off + m * 3, none⟩) hbb).trans F0.out
              by_cases hlt3 : p < tl
              · obtain ⟨b2, o2, trip, rfl, hb2, htrip, d0⟩ := int_at (HTR.out.below hB7.out) hlt3
                obtain ⟨y, hy⟩ : ∃ y, (splitL d tl)[p]? = some y := ⟨_, splitL_at d tl p hlt3⟩
                have hy' := (splitL_at d tl p hlt3).symm.trans hy
                simp only [Option.some.injEq] at hy'
                obtain ⟨y3, y4⟩ := splitL_in y1 j1 hy
                obtain ⟨j, r, i1, i2, i3, i4⟩ := findI_mem (HW.out trip (List.mem_of_getElem? htrip))
                have I1 := Lib.hid i1
                have hz : (dueG gs S P m)[p]? = some (trip, y) := by rw [HDE.out, List.getElem?_zip_eq_some]; exact ⟨htrip, hy⟩
                have HTK := Lib.hid (take_at hz)
                have hjn : j < n := by rw [HN.out]; exact i2
                have hol : n = (xs.map fun r => mapOf (duesTo gs S P m ++ (dueG gs S P m).take p) r.t).length := by rw [List.length_map]; exact HN.out
                obtain ⟨x0, hx0⟩ : ∃ x0, (xs.map fun r => mapOf (duesTo gs S P m ++ (dueG gs S P m).take p) r.t)[j]? = some x0 := ⟨_, List.getElem?_eq_getElem (by rw [← hol]; exact hjn)⟩
                obtain ⟨k0, z0⟩ := iown_cell hO7.out hol hx0
                obtain ⟨o1, g1'⟩ := iown_set hO7.out hol j y
                rw [map_setT HND.out i3 (mapOf (duesTo gs S P m ++ (dueG gs S P m).take p)) y, i4] at o1
                have O1 := Lib.hid o1
                have G1 := Lib.hid g1'
                obtain ⟨D, hD⟩ : ∃ D, d / (tl : Int) = D := ⟨_, rfl⟩
                obtain ⟨M, hM⟩ : ∃ M, d % (tl : Int) = M := ⟨_, rfl⟩
                rw [hD, hM] at hy'
                have q1 : d.tdiv (tl : Int) = D := by rw [Int.tdiv_eq_ediv_of_nonneg y1]; exact hD
                have q2 : d.tmod (tl : Int) = M := by rw [Int.tmod_eq_emod_of_nonneg y1]; exact hM
                have q3 : ((tl : Int) == 0) = false := by simp; omega
                have q4 : ¬ (tl : Int) = 0 := by omega
                have q5 : 0 ≤ D ∧ D ≤ d := by rw [← hD]; exact ⟨Int.ediv_nonneg y1 (by omega), Int.ediv_le_self _ y1⟩
                have q6 : IntKind.i64.wrap D = D := by rw [IntKind.wrap_i64]; omega
                have q7 : IntKind.i64.wrap (D + 1) = D + 1 := by rw [IntKind.wrap_i64]; omega
                have b2' : (p : Int) < (tl : Int) := by omega
                have b3' : (j : Int) < (n : Int) := by omega
                have HB7w : Hid (Below w.heap.size w wr) := Y3.out.trans (hB7.out.mono hsW)
                have HY := Lib.hid hy'
                clear hz htrip hy hy' o1 g1' hx0 hol i1 i2 i3 i4 hD hM
                obtain ⟨wk, rfl⟩ : ∃ wk : World, wk = wr := ⟨_, rfl⟩
                go_upto_if 99 with fail
                go_cut [19] (fun v wx => v = .int .i64 y ∧ wx = wk)
                case first =>
                  by_cases hpm : (p : Int) < M
                  · have e5 : D + 1 = y := by have := HY.out; rw [if_pos hpm] at this; exact this
                    rw [e5] at q7
                    go_wp2_with fail
                    go_meet
                    exact ⟨rfl, rfl⟩
                  · have e5 : D = y := by have := HY.out; rw [if_neg hpm] at this; omega
                    go_wp2_with fail
                    go_meet
                    exact ⟨by first | rfl | rw [e5], rfl⟩
                obtain ⟨rfl, rfl⟩ := hcut
                go_wp2_with (go_at_call 23; refine (rfind_any a n cap xs trip _ (by omega) (hx.below HB7w.out)).mono ?_; rintro e w3 ⟨rfl, rfl⟩; rw [I1.out])
                go_roundw
                case rel =>
                  refine ⟨p + 1, by go_num, by omega, ?_, hB7.out.grown G1.out hs7 (fun j hj => by cases hj; exact Nat.le_refl _), hG7.out.trans G1.out⟩
                  show V.Own _ _ _ _ _ _
                  rw [HTK.out, ← List.append_assoc, mapOf_snoc]
                  exact O1.out
                case measure => simp [intOf]; omega
              · have hp' : p = tl := by omega
                subst hp'
                go_wp2_with fail
                go_roundw
                case rel =>
                  refine ⟨m + 1, by go_num, by omega, ?_, hB7.out, hG7.out⟩
                  have hl : (dueG gs S P m).length = p := by rw [HDE.out, List.length_zip, splitL_len, HTL.out, Nat.min_self]
                  have h9 := hO7.out
                  rw [List.take_of_length_le (by omega)] at h9
                  exact h9
                case measure => simp [intOf]; omega
          · have hm' : m = k := by omega
            subst hm'
            go_wp2_with fail
            go_ret2
            refine ⟨_, by rw [HQ.out.2.2.2]; rfl, ?_, Y3.out.trans (hBm.out.mono hsW)⟩
            have h9 := hOm.out
            rw [HV.out, HGN.out]
            exact h9.lower hsW
end Go.Proofs.Ytgdhlhjflbinmaa
