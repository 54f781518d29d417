/- Disputes: each ride's part, walked. -/
import Derived.Test.YtgdhlhjflbinmaaDiP
import Derived.Deep.CutRange
namespace Go.Proofs.Ytgdhlhjflbinmaa
open Go.RowKit Go.V Go.Sort Go.Shelf Go.Proofs Go.Maps

theorem mul_any (a b c : Int) (w : World) (ha : 0 ≤ a ∧ a ≤ 34359738368) (hb : 0 ≤ b ∧ b ≤ 16777216) (hc : 1 ≤ c) : Calls Try.prog 27 #[.int .i64 a, .int .i64 b, .int .i64 c] w fun e w' => e = .returned (.int .i64 (a * b / c)) ∧ w' = w := by
  have h1 : 0 ≤ a * b := Int.mul_nonneg ha.1 hb.1
  have h2 : a * b ≤ 34359738368 * 16777216 := Int.mul_le_mul ha.2 hb.2 hb.1 (by decide)
  have r1 : IntKind.i64.wrap (a * b) = a * b := by rw [IntKind.wrap_i64]; omega
  have h3 : (a * b).tdiv c = a * b / c := Int.tdiv_eq_ediv_of_nonneg h1
  have h4 : 0 ≤ a * b / c ∧ a * b / c ≤ a * b := ⟨Int.ediv_nonneg h1 (by omega), Int.ediv_le_self _ h1⟩
  obtain ⟨m, hm⟩ : ∃ m, a * b = m := ⟨_, rfl⟩
  rw [hm] at h1 h2 r1 h3 h4
  obtain ⟨d, hd⟩ : ∃ d, m / c = d := ⟨_, rfl⟩
  rw [hd] at h3 h4
  have HM : Hid (a * b = m ∧ m / c = d) := ⟨hm, hd⟩
  have r2 : IntKind.i64.wrap d = d := by rw [IntKind.wrap_i64]; omega
  have z1 : (c == 0) = false := by simp; omega
  have z2 : ¬ c = 0 := by omega
  rw [hm, hd]
  clear hd
  go_enter Try.func27, Try.ntmps27
  go_wp2_with fail
  go_ret
  exact ⟨rfl, rfl⟩

theorem laidL_same (f : Nat → Int) {k n : Nat} (h : k < n) (h0 : f k = 0) : laidL f (k + 1) n = laidL f k n := by
  rw [← laidL_step f h, h0]
  apply List.ext_getElem?
  intro i
  by_cases hi : i = k
  · subst hi
    rw [List.getElem?_set_self (by rw [laidL_len f (by omega)]; exact h), laidL_at f h, if_neg (Nat.lt_irrefl _)]
  · rw [List.getElem?_set_ne (by omega)]
theorem parts_first {gs : List Grp} {S P : Int} (h : 0 < gs.length) : (laidL (partF gs S P) gs.length gs.length).set 0 (partF gs S P 0 + (P - sumF (partF gs S P) gs.length)) = (List.range gs.length).map (partOfG gs S P) := by
  apply List.ext_getElem?
  intro i
  by_cases hi : i < gs.length
  · by_cases h0 : i = 0
    · subst h0
      rw [List.getElem?_set_self (by rw [laidL_len _ (Nat.le_refl _)]; exact h)]
      simp [hi, partOfG]
    · rw [List.getElem?_set_ne (by omega), laidL_at _ hi, if_pos hi]
      simp [hi, partOfG, h0]
  · rw [List.getElem?_eq_none (by rw [List.length_set, laidL_len _ (Nat.le_refl _)]; omega), List.getElem?_eq_none (by simp; omega)]
theorem trip_wf {t : Tar} {c : Int} {xs : List Ride} (h : monthE t c xs = 0) (hok : ∀ r ∈ xs, Ride.ok r) : ∀ g ∈ billG t c xs, ∀ y ∈ g.trips, (Lit.int .i64 y).wf = true := by
  intro g hg y hy
  obtain ⟨-, -, h3, -⟩ := month_ok h
  have : y ∈ xs.map Ride.t := h3.mem_iff.1 (List.mem_flatMap.2 ⟨g, hg, hy⟩)
  obtain ⟨r, hr, rfl⟩ := List.mem_map.1 this
  exact (hok r hr).1

set_option maxHeartbeats 8000000 in
set_option maxRecDepth 100000 in
theorem dsplit_any (t : Tar) (hb hs hr : Hdr) (c : Int) (a : Option Addr) (n cap : Nat) (xs : List Ride) (w : World) (hm : hb.n ≤ 1000000 ∧ hs.n ≤ 1000000 ∧ hr.n ≤ 1000000) (hn : n ≤ 100000) (hok : ∀ r ∈ xs, Ride.ok r) (h : TarIn w t hb hs hr) (hx : Sl Ride.cod w a n cap xs) :
    Calls Try.prog 14 #[t.val hb hs hr, .int .i64 c, .slice a n cap] w fun e w' => ∃ v, e = .returned (.tuple #[v, .int .i64 (monthE t c xs)]) ∧ V.Own 3 icod w.heap.size w' v (splR t c xs) ∧ Below w.heap.size w w' := by
  have hmm := @run_makeMap Try.prog
  have HN := Lib.hid hx.hlen
  have TB0 : Hid (TarBox 26 (w.alloc (t.box hb hs hr)) w.heap.size t hb hs hr) := box_new _ _
  have B0 : Hid (Below w.heap.size w (w.alloc (t.box hb hs hr))) := (Below.refl _ _).alloc (Nat.le_refl _) _
  unfold Tar.box at TB0 B0
  obtain ⟨gs, hgs⟩ : ∃ gs, billG t c xs = gs := ⟨_, rfl⟩
  obtain ⟨S, hS⟩ : ∃ S, billS t c xs = S := ⟨_, rfl⟩
  obtain ⟨P, hP⟩ : ∃ P, billP t c xs = P := ⟨_, rfl⟩
  have hR : splR t c xs = if monthE t c xs = 0 then xs.map fun r => mapOf (duesTo gs S P gs.length) r.t else [] := by unfold splR; rw [hgs, hS, hP]
  have HR := Lib.hid hR
  have HG : Hid (monthE t c xs = 0 → GrpsOk gs S P ∧ ∀ g ∈ gs, ∀ y ∈ g.trips, (Lit.int .i64 y).wf = true) := by
    intro h0
    rw [← hgs, ← hS, ← hP]
    exact ⟨(month_ok h0).1, trip_wf h0 hok⟩
  obtain ⟨E, hE⟩ : ∃ E, monthE t c xs = E := ⟨_, rfl⟩
  have HQ : Hid (billG t c xs = gs ∧ billS t c xs = S ∧ billP t c xs = P ∧ monthE t c xs = E) := ⟨hgs, hS, hP, hE⟩
  rw [hE] at HR HG
  clear hgs hS hP hE hR
  have hmk := fun (m : Nat) (hm : m ≤ 100000) => run_make_row' (P := Try.prog) 23 3 (.int .i64 0) 8 Try.underlying23 infoInt rfl .i64 .i64 m (by omega) (by omega)
  unfold Tar.val
  go_enter Try.func14, Try.ntmps14
  by_cases e0 : E = 0
  case neg =>
    have e1 : (E == 0) = false := by simp; exact e0
    have hv := HR.out
    rw [if_neg e0] at hv
    have HV := Lib.hid hv
    clear hv
    go_wp2_with (go_at_call 25; refine (month_any t hb hs hr c a n cap xs _ hm hn hok (h.below B0.out) (hx.below B0.out)).mono ?_; rintro e w1 ⟨v, rfl, hbl, hb1⟩; rw [HQ.out.2.2.2]; rw [HQ.out.1, HQ.out.2.1, HQ.out.2.2.1] at hbl; obtain ⟨a1, c1, g1, rfl, -⟩ := hbl.billIn; have HB1 : Hid (Below w.heap.size w w1) := B0.out.trans (hb1.mono B0.out.size); clear hb1 hbl)
    go_ret2
    exact ⟨_, by rw [HQ.out.2.2.2]; rfl, by rw [HV.out]; exact V.Own.nil, HB1.out.alloc HB1.out.size _⟩
  case pos =>
    subst e0
    obtain ⟨hG, hW⟩ := HG.out rfl
    have HG2 := Lib.hid hG
    have HWF := Lib.hid hW
    have hv := HR.out
    rw [if_pos rfl] at hv
    have HV := Lib.hid hv
    have hgl := hG.len
    have hpay := hG.pay
    have htop := hG.top
    clear HG hG hW hv
    have hmk1 := hmk gs.length (by omega)
    have hmk2 := hmk n hn
    go_upto_region 4 with (go_at_call 25; refine (month_any t hb hs hr c a n cap xs _ hm hn hok (h.below B0.out) (hx.below B0.out)).mono ?_; rintro e w1 ⟨v, rfl, hbl, hb1⟩; rw [HQ.out.2.2.2]; rw [HQ.out.1, HQ.out.2.1, HQ.out.2.2.1] at hbl; obtain ⟨a1, c1, g1, rfl, hin⟩ := hbl.billIn; have HI1 := Lib.hid hin; have HB1 : Hid (Below w.heap.size w w1) := B0.out.trans (hb1.mono B0.out.size); clear hb1 hbl hin)
    have hs1 := HB1.out.size
    have X1 : Hid ((w1.alloc (.cells #[.slice a1 gs.length c1, .int .i64 S, .int .i64 P] 61)).heap[w1.heap.size]? = some (.cells #[.slice a1 gs.length c1, .int .i64 S, .int .i64 P] 61 (0, 0))) := box_new _ _
    have Y3 : Hid (Below w.heap.size w (w1.alloc (.cells #[.slice a1 gs.length c1, .int .i64 S, .int .i64 P] 61))) := HB1.out.alloc hs1 _
    have Y4 : Hid (BillIn (w1.alloc (.cells #[.slice a1 gs.length c1, .int .i64 S, .int .i64 P] 61)) a1 gs.length c1 g1 gs) := HI1.out.below ((Below.refl _ _).alloc (Nat.le_refl _) _)
    have hx1 : w1.heap.size < (w1.alloc (.cells #[.slice a1 gs.length c1, .int .i64 S, .int .i64 P] 61)).heap.size := by simp
    obtain ⟨W, hW⟩ : ∃ W, w1.alloc (.cells #[.slice a1 gs.length c1, .int .i64 S, .int .i64 P] 61) = W := ⟨_, rfl⟩
    rw [hW] at X1 Y3 Y4 hx1 ⊢
    clear hW
    have hsW := Y3.out.size
    obtain ⟨p0, p1, p2, -, -, -⟩ := box3_cells X1.out
    obtain ⟨gn, hgn⟩ : ∃ gn, gs.length = gn := ⟨_, rfl⟩
    have HGN := Lib.hid hgn
    rw [hgn] at hgl hmk1 p0 X1 Y4 ⊢
    clear hgn
    obtain ⟨f, hf⟩ : ∃ f, partF gs S P = f := ⟨_, rfl⟩
    have HF := Lib.hid hf
    clear hf
    go_wp2_with fail
    go_loopw [11, 43] (fun v i wr => ∃ (k : Nat) (s : Int), i = .int .i64 k ∧ k ≤ gn ∧ v = .int .i64 s ∧ Hid (s = P - sumF f k) ∧ Hid (V.Own 3 icod W.heap.size wr (.slice (some ⟨W.heap.size, 0, none⟩) gn gn) (laidL f k gn)) ∧ Hid (Below W.heap.size W wr)) (fun _ i _ => gn - (intOf i).toNat)
    case atStart => exact ⟨0, P, rfl, by omega, rfl, by show P = P - 0; omega, by show V.Own _ _ _ _ _ _; rw [laidL_zero]; exact iown_made W gn _ (Nat.le_refl _) (by unfold maxLen; omega), (Below.refl _ _).alloc (Nat.le_refl _) _⟩
    case round =>
      obtain ⟨k, s, rfl, hk, rfl, hsk, hO, hB⟩ := hrel
      have hsr := hB.out.size
      have XBr := Lib.hid (box_below X1.out hB.out)
      by_cases hlt : k < gn
      · obtain ⟨b, off, at_, ct, g, rfl, hbb, hg, f0, f1, f2, -⟩ := (Y4.out.below hB.out).at hlt
        obtain ⟨p0, p1, p2, -, -, -⟩ := box3_cells XBr.out
        obtain ⟨-, j1, j2⟩ := HG2.out.each g (List.mem_of_getElem? hg)
        have e1 : f k = part0 S P g.price := by rw [← HF.out]; unfold partF; rw [List.getD_eq_getElem?_getD, hg]; rfl
        obtain ⟨u1, u2, -⟩ := part0_in hpay j1
        rw [← e1] at u1 u2
        obtain ⟨v1, v2, -⟩ := sumF_in HG2.out k (by rw [HGN.out]; omega)
        rw [HF.out] at v1 v2
        obtain ⟨q, hq⟩ : ∃ q, sumF f k = q := ⟨_, rfl⟩
        have hs' := hsk.out
        rw [hq] at v1 v2 hs'
        have HQQ := Lib.hid hq
        have HE1 := Lib.hid e1
        obtain ⟨d, hd⟩ : ∃ d, f k = d := ⟨_, rfl⟩
        have HD := Lib.hid hd
        rw [hd] at u1 u2
        have hgk : (k : Int) ≤ 2048 := by omega
        have hd2 : d ≤ 16777216 := by omega
        have hP2 : 0 ≤ P ∧ P ≤ 34359738368 := by omega
        have r1 : IntKind.i64.wrap (s - d) = s - d := by rw [IntKind.wrap_i64]; omega
        have r0 : wrap64 s = s := by unfold wrap64; omega
        have R0 := Lib.hid r0
        clear r0
        have HS2 := Lib.hid hs'
        clear hq e1 hd hg hs'
        obtain ⟨c0, z0⟩ := iown_cell hO.out (laidL_len f hk).symm (laidL_at f hlt)
        rw [if_neg (Nat.lt_irrefl k)] at c0
        have hx2 := box_lt XBr.out
        have hx3 := World.block_lt_of_cell? wr _ c0
        have b1 : (k : Int) < (gn : Int) := by omega
        by_cases hS : 0 < S
        · have e2 : P * g.price / S = d := by rw [← HD.out, HE1.out]; unfold part0; rw [if_pos hS]
          have E2 := Lib.hid e2
          obtain ⟨o1, g1'⟩ := iown_set hO.out (laidL_len f hk).symm k d
          rw [← HD.out, laidL_step f hlt] at o1
          have O1 := Lib.hid o1
          have G1 := Lib.hid g1'
          rw [HD.out] at O1
          clear e2 o1 g1'
          go_wp2_with (go_at_call 27; refine (mul_any P g.price S _ hP2 ⟨j1, j2⟩ (by omega)).mono ?_; rintro e w' ⟨rfl, rfl⟩; rw [E2.out])
          go_roundw
          case rel => exact ⟨k + 1, s - d, by go_num, by omega, rfl, by show s - d = P - (sumF f k + f k); rw [HQQ.out, HD.out, HS2.out]; omega, O1.out.alloc _, (hB.out.grown G1.out hsr (fun j hj => by cases hj; exact Nat.le_refl _)).alloc (by simp; omega) _⟩
          case measure => simp [intOf]; omega
        · have e2 : d = 0 := by rw [← HD.out, HE1.out]; unfold part0; rw [if_neg hS]
          subst e2
          have O1 : Hid (V.Own 3 icod W.heap.size (wr.alloc (.cells #[.slice at_ g.trips.length ct, .int .i64 g.far, .int .i64 g.price] 67)) (.slice (some ⟨W.heap.size, 0, none⟩) gn gn) (laidL f (k + 1) gn)) := by
            show V.Own _ _ _ _ _ _
            rw [laidL_same f hlt HD.out]
            exact hO.out.alloc _
          go_wp2_with fail
          go_roundw
          case rel => exact ⟨k + 1, s - 0, by go_num, by omega, by first | rfl | exact congrArg (Value.int .i64) ((R0.out).trans (Int.sub_zero s).symm), by show s - 0 = P - (sumF f k + f k); rw [HQQ.out, HD.out, HS2.out]; omega, O1.out, hB.out.alloc hsr _⟩
          case measure => simp [intOf]; omega
      · have hk' : k = gn := by omega
        subst hk'
        obtain ⟨p0, p1, p2, -, -, -⟩ := box3_cells XBr.out
        have hP2 : 0 ≤ P ∧ P ≤ 34359738368 := by omega
        obtain ⟨v1, v2, -⟩ := sumF_in HG2.out k (by rw [HGN.out]; omega)
        rw [HF.out] at v1 v2
        have hs' := hsk.out
        go_upto_if 70 with fail
        go_cut [] (fun wx => Hid (V.Own 3 icod W.heap.size wx (.slice (some ⟨W.heap.size, 0, none⟩) k k) ((List.range k).map (partOfG gs S P))) ∧ Hid (Below W.heap.size W wx))
        case first =>
          by_cases h0 : 0 < k
          · obtain ⟨c0, z0⟩ := iown_cell hO.out (laidL_len f (Nat.le_refl k)).symm (laidL_at f h0)
            rw [if_pos h0] at c0
            obtain ⟨o1, g1'⟩ := iown_set hO.out (laidL_len f (Nat.le_refl k)).symm 0 (f 0 + s)
            have e3 := parts_first (gs := gs) (S := S) (P := P) (by rw [HGN.out]; exact h0)
            rw [HGN.out, HF.out] at e3
            have e4 : (laidL f k k).set 0 (f 0 + s) = (List.range k).map (partOfG gs S P) := by rw [hs']; exact e3
            rw [e4] at o1
            have O1 := Lib.hid o1
            have G1 := Lib.hid g1'
            obtain ⟨y1, y2⟩ := partOfG_in HG2.out (i := 0) (by rw [HGN.out]; exact h0)
            have e5 : partOfG gs S P 0 = f 0 + s := by unfold partOfG; rw [if_pos rfl, HF.out, HGN.out, ← hs']
            rw [e5] at y1 y2
            obtain ⟨d, hd⟩ : ∃ d, f 0 = d := ⟨_, rfl⟩
            rw [hd] at c0 y1 y2 O1 G1
            have r1 : IntKind.i64.wrap (d + s) = d + s := by rw [IntKind.wrap_i64]; omega
            have b1 : (0 : Int) < (k : Int) := by omega
            clear o1 g1' e3 e4 e5 hd hs'
            go_wp2_with fail
            go_meet
            exact ⟨O1.out, hB.out.grown G1.out hsr (fun j hj => by cases hj; exact Nat.le_refl _)⟩
          · have e0 : k = 0 := by omega
            have E0 := Lib.hid e0
            have b1 : ¬ (0 : Int) < (k : Int) := by omega
            clear e0 hs'
            go_wp2_with fail
            go_meet
            exact ⟨by have := hO.out; rw [laidL_full] at this; show V.Own _ _ _ _ _ _; rw [show (List.range k).map (partOfG gs S P) = (List.range k).map f from by rw [E0.out]; rfl]; exact this, hB.out⟩
        obtain ⟨hOc, hBc⟩ := hcut
        obtain ⟨wm, rfl⟩ : ∃ wm : World, wm = wc := ⟨_, rfl⟩
        clear hs'
        have hsc := hBc.out.size
        have XBc := Lib.hid (box_below X1.out hBc.out)
        obtain ⟨p0, p1, p2, -, -, -⟩ := box3_cells XBc.out
        have hx4 := box_lt XBc.out
        go_wp2_with fail
        go_loopw [81] (fun i wr => ∃ m : Nat, i = .int .i64 m ∧ m ≤ k ∧ Hid (Mp wr wm.heap.size (duesTo gs S P m).length (mapOf (duesTo gs S P m))) ∧ Hid (Below wm.heap.size wm wr)) (fun i _ => k - (intOf i).toNat)
        case atStart => exact ⟨0, rfl, by omega, Mp.made wm, (Below.refl _ _).alloc (Nat.le_refl _) _⟩
        case round =>
          obtain ⟨m, rfl, hmk', hMp, hB2⟩ := hrel
          have hs2 := hB2.out.size
          by_cases hlt2 : m < k
          · obtain ⟨b, off, at_, ct, g, rfl, hbb, hg, f0, f1, f2, htr⟩ := (Y4.out.below hBc.out).at hlt2
            have hgd : gs.getD m default = g := by rw [List.getD_eq_getElem?_getD, hg]; rfl
            obtain ⟨⟨j1, j2⟩, -, -⟩ := HG2.out.each g (List.mem_of_getElem? hg)
            have hwf := HWF.out g (List.mem_of_getElem? hg)
            obtain ⟨d, hd⟩ : ∃ d, partOfG gs S P m = d := ⟨_, rfl⟩
            have hc0 : ((List.range k).map (partOfG gs S P))[m]? = some d := by rw [← hd]; simp [hlt2]
            obtain ⟨c0, -⟩ := iown_cell (hOc.out.below hB2.out) (by simp) hc0
            obtain ⟨y1, y2⟩ := partOfG_in HG2.out (i := m) (by rw [HGN.out]; exact hlt2)
            rw [hd] at y1 y2
            have hde : dueG gs S P m = g.trips.zip (splitL d g.trips.length) := by unfold dueG; rw [hgd, hd]
            have hdl := duesTo_len HG2.out m (by rw [HGN.out]; omega)
            obtain ⟨tl, htl⟩ : ∃ tl, g.trips.length = tl := ⟨_, rfl⟩
            rw [htl] at f0 htr j1 j2 hde
            replace f0 := (hB2.out.cell (p := ⟨b, off + m * 3, none⟩) hbb).trans f0
            replace f1 := (hB2.out.cell (p := ⟨b, off + m * 3 + 1, none⟩) hbb).trans f1
            replace f2 := (hB2.out.cell (p := ⟨b, off + m * 3 + 2, none⟩) hbb).trans f2
            have hbb2 : b < wr.heap.size := by omega
            have HTL := Lib.hid htl
            have HDE := Lib.hid hde
            have HTR := Lib.hid htr
            have HW := Lib.hid hwf
            clear hg hgd hd hc0 hde htl htr hwf
            have b1 : (m : Int) < (k : Int) := by omega
            have hx5 : W.heap.size < wr.heap.size := World.block_lt_of_cell? wr _ c0
            go_upto_region 19 with fail
            have GB : Hid ((wr.alloc (.cells #[.slice at_ tl ct, .int .i64 g.far, .int .i64 g.price] 67)).heap[wr.heap.size]? = some (.cells #[.slice at_ tl ct, .int .i64 g.far, .int .i64 g.price] 67 (0, 0))) := box_new _ _
            have GP : Hid (Below wr.heap.size wr (wr.alloc (.cells #[.slice at_ tl ct, .int .i64 g.far, .int .i64 g.price] 67))) := (Below.refl _ _).alloc (Nat.le_refl _) _
            have hx6 : wr.heap.size < (wr.alloc (.cells #[.slice at_ tl ct, .int .i64 g.far, .int .i64 g.price] 67)).heap.size := by simp
            obtain ⟨wj, hwj⟩ : ∃ wj, wr.alloc (.cells #[.slice at_ tl ct, .int .i64 g.far, .int .i64 g.price] 67) = wj := ⟨_, rfl⟩
            rw [hwj] at GB GP hx6 ⊢
            clear hwj
            have c1' : wj.cell? ⟨W.heap.size, m, none⟩ = some (.int .i64 d) := (GP.out.cell (p := ⟨W.heap.size, m, none⟩) hx5).trans c0
            obtain ⟨u0, u1, u2, -, -, -⟩ := box3_cells GB.out
            clear c0
            go_cut [17] (fun v wx => ∃ ge ce, v = .slice (some ⟨ge, 0, none⟩) tl ce ∧ Hid (V.Own 3 icod wj.heap.size wx (.slice (some ⟨ge, 0, none⟩) tl ce) (splitL d tl)) ∧ Hid (Below wj.heap.size wj wx))
            case first =>
              go_region_with (go_at_call 28; refine (rsplit_any d tl _ ⟨y1, by omega⟩ ⟨j1, by omega⟩).mono ?_; rintro e w6 ⟨ge, ce, rfl, hO6, hb6⟩)
              all_goals
                go_wp2_with fail
                go_meet
                exact ⟨ge, ce, rfl, hO6, by first | exact hb6 | exact (Below.drew (Below.refl _ _)).trans hb6 | exact (Below.drew (Below.drew (Below.refl _ _))).trans hb6⟩
            obtain ⟨ge, ce, rfl, hO6, hB6⟩ := hcut
            have hs6 := hB6.out.size
            have MP6 := Lib.hid ((hMp.out.below GP.out).below hB6.out)
            have HBM : Hid (Below wm.heap.size wm wc) := hB2.out.trans ((GP.out.trans (hB6.out.mono (Nat.le_of_lt hx6))).mono hs2)
            have GB6 := Lib.hid (box_below GB.out hB6.out)
            have hge := own_lt hO6.out ge rfl
            obtain ⟨wq, rfl⟩ : ∃ wq : World, wq = wc := ⟨_, rfl⟩
            obtain ⟨u0, u1, u2, -, -, -⟩ := box3_cells GB6.out
            clear c1' f0 f1 f2
            go_wp2_with fail
            go_loopw [100] (fun i wx => ∃ p : Nat, i = .int .i64 p ∧ p ≤ tl ∧ Hid (Mp wx wm.heap.size ((duesTo gs S P m).length + p) (mapOf (duesTo gs S P m ++ (dueG gs S P m).take p))) ∧ Hid (Below wm.heap.size wm wx) ∧ Hid (wq.grownBy wx (some wm.heap.size))) (fun i _ => tl - (intOf i).toNat)
            case atStart => exact ⟨0, rfl, by omega, by show Mp _ _ _ _; rw [List.take_zero, List.append_nil]; exact MP6.out, HBM.out, ⟨rfl, rfl, rfl, Nat.le_refl _, fun _ _ _ => rfl⟩⟩
            case round =>
              obtain ⟨p, rfl, hp, hM, hB7, hG7⟩ := hrel
              have hs7 := hB7.out.size
              by_cases hlt3 : p < tl
              · obtain ⟨b2, o2, trip, rfl, hb2, htrip, d0⟩ := int_at (HTR.out.below hB7.out) hlt3
                have hO7 := Lib.hid (hO6.out.kept hG7.out (.inr (by simp [Value.ownBlock]; omega)))
                obtain ⟨y, hy⟩ : ∃ y, (splitL d tl)[p]? = some y := ⟨_, splitL_at d tl p hlt3⟩
                obtain ⟨d1, -⟩ := iown_cell hO7.out (splitL_len d tl).symm hy
                obtain ⟨y3, y4⟩ := splitL_in y1 j1 hy
                have hwk := HW.out trip (List.mem_of_getElem? htrip)
                have hwy : (Lit.int .i64 y).wf = true := WalkArith.wf_i64 (by omega)
                have hz : (dueG gs S P m)[p]? = some (trip, y) := by rw [HDE.out, List.getElem?_zip_eq_some]; exact ⟨htrip, hy⟩
                have htk := take_at hz
                have HTK := Lib.hid htk
                have b2 : (p : Int) < (tl : Int) := by omega
                clear hz htk htrip hy
                go_wp2_with (at_mapUpdate; refine mp_store hM.out rfl (.tmp 105) (.tmp 106) (.tmp 110) rfl rfl (by unfold maxLen; omega) trip y hwk hwy rfl rfl ?_; intro w8 hmp8 hg8; have MP8 := Lib.hid hmp8; have HG8 := Lib.hid hg8; clear hmp8 hg8)
                go_roundw
                case rel =>
                  refine ⟨p + 1, by go_num, by omega, ?_, hB7.out.grown HG8.out hs7 (fun j hj => by cases hj; exact Nat.le_refl _), hG7.out.trans HG8.out⟩
                  show Mp _ _ _ _
                  rw [HTK.out, ← List.append_assoc, mapOf_snoc]
                  exact MP8.out
                case measure => simp [intOf]; omega
              · have hp' : p = tl := by omega
                subst hp'
                go_wp2_with fail
                go_roundw
                case rel =>
                  refine ⟨m + 1, by go_num, by omega, ?_, hB7.out⟩
                  have hl : (dueG gs S P m).length = p := by rw [HDE.out, List.length_zip, splitL_len, HTL.out, Nat.min_self]
                  have h9 := hM.out
                  rw [List.take_of_length_le (by omega)] at h9
                  show Mp _ _ (duesTo gs S P m ++ dueG gs S P m).length (mapOf (duesTo gs S P m ++ dueG gs S P m))
                  rw [List.length_append, hl]
                  exact h9
                case measure => simp [intOf]; omega
          · have hm' : m = k := by omega
            subst hm'
            obtain ⟨wv, rfl⟩ : ∃ wv : World, wv = wr := ⟨_, rfl⟩
            have HBV : Hid (Below w.heap.size w wv) := (Y3.out.trans (hBc.out.mono hsW)).trans (hB2.out.mono (Nat.le_trans hsW hsc))
            have hsv := HBV.out.size
            obtain ⟨gF, hgF⟩ : ∃ gF : Nat → Int, gF = fun i => mapOf (duesTo gs S P m) (xs.getD i default).t := ⟨_, rfl⟩
            have HGF := Lib.hid hgF
            clear hgF
            go_wp2_with fail
            go_loopw [118] (fun i wr => ∃ p : Nat, i = .int .i64 p ∧ p ≤ n ∧ Hid (V.Own 3 icod wv.heap.size wr (.slice (some ⟨wv.heap.size, 0, none⟩) n n) (laidL gF p n)) ∧ Hid (Below wv.heap.size wv wr)) (fun i _ => n - (intOf i).toNat)
            case atStart => exact ⟨0, rfl, by omega, by show V.Own _ _ _ _ _ _; rw [laidL_zero]; exact iown_made wv n _ (Nat.le_refl _) (by unfold maxLen; omega), (Below.refl _ _).alloc (Nat.le_refl _) _⟩
            case round =>
              obtain ⟨p, rfl, hp, hO, hB9⟩ := hrel
              have hs9 := hB9.out.size
              by_cases hlt4 : p < n
              · obtain ⟨b, off, r, rfl, hbl, hr, c0, c1, c2, c3⟩ := ride_at (hx.below (HBV.out.trans (hB9.out.mono hsv))) hlt4
                have hwr := (hok r (List.mem_of_getElem? hr)).1
                have hgp : gF p = mapOf (duesTo gs S P m) r.t := by rw [HGF.out]; simp only; rw [List.getD_eq_getElem?_getD, hr]; rfl
                obtain ⟨y, hy⟩ : ∃ y, mapOf (duesTo gs S P m) r.t = y := ⟨_, rfl⟩
                have HY := Lib.hid hy
                rw [hy] at hgp
                obtain ⟨d0, z0⟩ := iown_cell hO.out (laidL_len gF hp).symm (laidL_at gF hlt4)
                rw [if_neg (Nat.lt_irrefl p)] at d0
                have hx7 := World.block_lt_of_cell? wr _ d0
                obtain ⟨o1, g1'⟩ := iown_set hO.out (laidL_len gF hp).symm p y
                rw [← hgp, laidL_step gF hlt4] at o1
                have O1 := Lib.hid o1
                have G1 := Lib.hid g1'
                rw [hgp] at O1
                have MPW : Hid (Mp (wr.alloc (.cells #[.int .i64 r.t, .int .i64 r.s, .int .i64 r.e, .int .i64 r.f] 29)) wm.heap.size (duesTo gs S P m).length (mapOf (duesTo gs S P m))) := (hMp.out.below hB9.out).below ((Below.refl _ _).alloc (Nat.le_refl _) _)
                have b2 : (p : Int) < (n : Int) := by omega
                clear hr hgp hy o1 g1'
                go_wp2_with (at_lookup; refine mp_look MPW.out rfl (.tmp 125) (.tmp 127) rfl rfl r.t hwr rfl ?_; rw [HY.out])
                go_roundw
                case rel => exact ⟨p + 1, by go_num, by omega, O1.out.alloc _, (hB9.out.grown G1.out hs9 (fun j hj => by cases hj; exact Nat.le_refl _)).alloc (by simp; omega) _⟩
                case measure => simp [intOf]; omega
              · have hp' : p = n := by omega
                subst hp'
                go_wp2_with fail
                go_ret2
                refine ⟨_, by rw [HQ.out.2.2.2]; rfl, ?_, HBV.out.trans (hB9.out.mono hsv)⟩
                have h9 := hO.out
                rw [laidL_full] at h9
                have e : splR t c xs = (List.range p).map gF := by
                  rw [HV.out, HGN.out, HGF.out, HN.out]
                  apply List.ext_getElem?
                  intro i
                  by_cases hi : i < xs.length
                  · simp [hi]
                  · rw [List.getElem?_eq_none (by simp; omega), List.getElem?_eq_none (by simp; omega)]
                rw [e]
                exact h9.lower hsv
end Go.Proofs.Ytgdhlhjflbinmaa
