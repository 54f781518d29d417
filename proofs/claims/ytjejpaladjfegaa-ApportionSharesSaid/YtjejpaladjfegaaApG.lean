/- Shares: the document's shares: walked. -/
import Derived.Test.YtjejpaladjfegaaApF
namespace Go.Proofs.Ytjejpaladjfegaa.Ap
open Go.RowKit Go.V Go.Proofs Go.Sort Go.Shelf
open Go.Proofs.Ytjejpaladjfegaa.Ne (icod int_at box_new box_cell)
open Go.Proofs.Ytjejpaladjfegaa.Ir

def qsE (amount all : Int) (ws : List Int) : List Int := ws.map fun x => tmsQ amount x all
def rsE (amount all : Int) (ws : List Int) : List Int := ws.map fun x => tmsR amount x all
theorem start_of {amount all : Int} {ws : List Int} {S : List Pty} (h : S.Perm (ptys amount all ws)) : Filled S ws.length 0 (qsE amount all ws) ∧ Rests S ws.length 0 (rsE amount all ws) := by
  have key : ∀ (i : Nat) (p : Pty), S[i]? = some p → ∃ (k : Nat) (w : Int), ws[k]? = some w ∧ p = ptyAt amount all k w := by
    intro i p hi
    have hm := h.mem_iff.1 (List.mem_of_getElem? hi)
    obtain ⟨k, hk, hkp⟩ := List.mem_iff_getElem.1 hm
    have e : (ptys amount all ws)[k]? = some p := by rw [List.getElem?_eq_getElem hk, hkp]
    rw [ptys_get] at e
    cases hw : ws[k]? with
    | none => rw [hw] at e; cases e
    | some w => rw [hw] at e; exact ⟨k, w, hw, (Option.some.inj e).symm⟩
  refine ⟨⟨by simp [qsE], fun i p hi => ?_⟩, ⟨by simp [rsE], fun i p hi => ?_⟩⟩
  · obtain ⟨k, w, hw, rfl⟩ := key i p hi
    show (qsE amount all ws)[((k : Int)).toNat]? = _
    unfold qsE
    rw [Int.toNat_natCast, List.getElem?_map, hw, if_neg (by omega)]
    simp [ptyAt, tmsQ]
  · obtain ⟨k, w, hw, rfl⟩ := key i p hi
    show (rsE amount all ws)[((k : Int)).toNat]? = _
    unfold rsE
    rw [Int.toNat_natCast, List.getElem?_map, hw, if_neg (by omega)]
    simp [ptyAt, tmsR]
theorem map_snoc {f : Int → Int} {ws : List Int} {j : Nat} {x : Int} (h : ws[j]? = some x) : (ws.take (j + 1)).map f = (ws.take j).map f ++ [f x] := by rw [take_at h, List.map_append]; rfl
theorem may_ok {amount : Int} {ws : List Int} (h : shMay amount ws = true) : ws.length ≤ 64 ∧ ws.all wtB = true ∧ (0 ≤ amount ∧ amount ≤ 34359738368) ∧ 0 < ws.sum := by
  unfold shMay at h
  simp only [Bool.and_eq_true, decide_eq_true_eq] at h
  exact ⟨h.1.1.1, h.1.1.2, h.1.2, h.2⟩

/-- What the document's shares have in memory. -/
structure RS (w wr : World) (o oc g gc n t : Nat) (S : List Pty) (out rests : List Int) : Prop where
  ow : V.Own 3 icod w.heap.size wr (.slice (some ⟨o, 0, none⟩) n oc) out
  rw_ : V.Own 3 icod w.heap.size wr (.slice (some ⟨g, 0, none⟩) n gc) rests
  ne : o ≠ g
  bel : RowKit.Below w.heap.size w wr
  fil : Filled S n t out
  res : Rests S n t rests
theorem RS.below {w wr w' : World} {o oc g gc n t : Nat} {S : List Pty} {out rests : List Int} (h : RS w wr o oc g gc n t S out rests) (hb : RowKit.Below wr.heap.size wr w') : RS w w' o oc g gc n t S out rests :=
  ⟨h.ow.below hb, h.rw_.below hb, h.ne, h.bel.trans (hb.mono h.bel.size), h.fil, h.res⟩

theorem amax_t {l : List Int} {j : Nat} {a b : Int} (h : l.getD (amax l j) 0 = a ∧ l.getD j 0 = b) (hj : 1 ≤ j) (hlt : a < b) : j = amax l (j + 1) := by
  show j = if j = 0 then 0 else if l.getD (amax l j) 0 < l.getD j 0 then j else amax l j
  rw [if_neg (by omega), h.1, h.2, if_pos hlt]
theorem amax_f {l : List Int} {j : Nat} {a b : Int} (h : l.getD (amax l j) 0 = a ∧ l.getD j 0 = b) (hj : 1 ≤ j) (hlt : ¬ a < b) : amax l j = amax l (j + 1) := by
  show amax l j = if j = 0 then 0 else if l.getD (amax l j) 0 < l.getD j 0 then j else amax l j
  rw [if_neg (by omega), h.1, h.2, if_neg hlt]
theorem RS.step {w wr : World} {o oc g gc n t bb : Nat} {S : List Pty} {out rests : List Int} {p : Pty} {d : Int} (h : RS w wr o oc g gc n t S out rests) (hW : Whole S n) (hp : S[t]? = some p) (hb : bb = p.place.toNat) (hd : out[bb]? = some d) :
    RS w ((wr.setCell ⟨o, bb, none⟩ (.int .i64 (d + 1))).setCell ⟨g, bb, none⟩ (.int .i64 (-1))) o oc g gc n (t + 1) S (out.set bb (d + 1)) (rests.set bb (-1)) := by
  obtain ⟨o1, g1⟩ := iset h.ow h.fil.len.symm bb (d + 1)
  have r1 := h.rw_.kept g1 (.inr (by simp [Value.ownBlock]; exact fun e => h.ne e.symm))
  have b1 := h.bel.trans (own_below h.ow g1 h.bel.size)
  obtain ⟨o2, g2⟩ := iset r1 h.res.len.symm bb (-1)
  have e1 : out.getD p.place.toNat 0 = d := by rw [← hb, List.getD_eq_getElem?_getD, hd]; rfl
  refine ⟨o1.kept g2 (.inr (by simp [Value.ownBlock]; exact h.ne)), o2, h.ne, b1.trans (own_below r1 g2 b1.size), ?_, ?_⟩
  · have := h.fil.step hW hp
    rw [e1, ← hb] at this; exact this
  · have := h.res.step hW hp
    rw [← hb] at this; exact this

set_option maxHeartbeats 4000000 in
set_option maxRecDepth 100000 in
theorem rshares_any (amount : Int) (a : Option Addr) (n cap : Nat) (ws : List Int) (S : List Pty) (w : World) (h : Sl icod w a n cap ws) (hmay : shMay amount ws = true) (hP : S.Perm (ptys amount ws.sum ws)) (hW : Whole S n) :
    Calls Try.prog 50 #[.int .i64 amount, .slice a n cap] w fun e w' => ∃ v out, e = .returned v ∧ V.Own 3 icod w.heap.size w' v out ∧ Filled S n (leftE amount ws.sum ws).toNat out ∧ RowKit.Below w.heap.size w w' := by
  have mixed : Try.prog.follows .mixedOrders = true := by kernel_rfl
  obtain ⟨y1, y2, y3, y4⟩ := may_ok hmay
  have HLEN := Lib.hid h.hlen
  have HH := Lib.hid h
  have HP := Lib.hid hP
  have HW := Lib.hid hW
  have HY2 := Lib.hid y2
  have hn : n ≤ 64 := by have := h.hlen; omega
  obtain ⟨am0, am1⟩ := y3
  have hsum := sum_in y2
  obtain ⟨al, hal⟩ : ∃ al, ws.sum = al := ⟨_, rfl⟩
  rw [hal] at y4 hsum
  have HAL := Lib.hid hal
  have hal2 : al ≤ 274877906944 := by omega
  have HX0 : Hid (∀ x ∈ ws, 0 ≤ x ∧ x ≤ 4294967296 ∧ x ≤ al) := fun x hx => by
    have := mem_sum HY2.out hx
    rw [HAL.out] at this; exact this
  rw [hal]
  clear h hmay hP hW y1 y2 hal hsum
  go_enter Try.func50, Try.ntmps50
  go_wp2_with fail
  go_loop [5, 6] (fun s i => ∃ k : Nat, i = .int .i64 k ∧ k ≤ n ∧ ∃ s1 : Int, s = .int .i64 s1 ∧ Hid (s1 = (ws.take k).sum)) (fun _ i => n - (intOf i).toNat)
  case atStart => exact ⟨0, rfl, by omega, 0, rfl, rfl⟩
  case round =>
    obtain ⟨k, rfl, hk, s1, rfl, HS⟩ := hrel
    have hs2 := sum_in (xs := ws.take k) (by
      have := HY2.out
      rw [List.all_eq_true] at this ⊢
      exact fun x hx => this x (List.mem_of_mem_take hx))
    rw [← HS.out, List.length_take] at hs2
    have hs3 : 0 ≤ s1 ∧ s1 ≤ 274877906944 := by omega
    clear hs2
    by_cases hlt : k < n
    · obtain ⟨b, off, x, rfl, hbl, hx, hcx⟩ := int_at HH.out hlt
      have HX := Lib.hid hx
      have hxx := HX0.out x (List.mem_of_getElem? hx)
      have hki : (k : Int) < (n : Int) := by omega
      clear hx
      go_wp2_with fail
      go_round
      case rel => exact ⟨k + 1, by go_num, by omega, _, rfl, by show _ = _; rw [sum_snoc HX.out, ← HS.out]⟩
      case measure => simp [intOf] <;> omega
    · have hkn : k = n := by omega
      subst hkn
      have hz : s1 = al := by
        have := HS.out
        rw [List.take_of_length_le (by have := HLEN.out; omega), HAL.out] at this
        exact this
      subst hz
      clear HS hs3
      go_wp2_with fail
      go_loopw [7, 8, 9, 10] (fun v u l i wr => ∃ j : Nat, i = .int .i64 j ∧ j ≤ k ∧ Hid (V.Own 3 icod w.heap.size wr v (qsE amount s1 (ws.take j))) ∧ Hid (V.Own 3 icod w.heap.size wr u (rsE amount s1 (ws.take j))) ∧ Hid (Apart v u) ∧ (∃ lv : Int, l = .int .i64 lv ∧ Hid (lv = leftE amount s1 (ws.take j))) ∧ Hid (RowKit.Below w.heap.size w wr)) (fun _ _ _ i _ => k - (intOf i).toNat)
      case atStart => exact ⟨0, by go_num, by omega, Own.nil, Own.nil, Apart.nil, ⟨amount, rfl, by show _ = _; unfold leftE; simp⟩, Below.refl _ _⟩
      case round =>
        obtain ⟨j, rfl, hj, HO, HU, HAP, ⟨lv, rfl, HLV⟩, HBr⟩ := hrel
        have hlv : -2199023255552 ≤ lv ∧ lv ≤ 34359738368 := by
          have h1 := left_in (ws := ws.take j) am0 y4 (fun x hx => by have := HX0.out x (List.mem_of_mem_take hx); omega)
          rw [← HLV.out, List.length_take] at h1
          have h2 : ((min j ws.length : Nat) : Int) * amount ≤ 64 * amount := Int.mul_le_mul_of_nonneg_right (by omega) am0
          omega
        by_cases hlt2 : j < k
        · obtain ⟨b, off, x, rfl, hbl, hx, hcx⟩ := int_at (HH.out.below HBr.out) hlt2
          obtain ⟨x0, x1, x2⟩ := HX0.out x (List.mem_of_getElem? hx)
          have HX := Lib.hid hx
          have hji : (j : Int) < (k : Int) := by omega
          have HLQ : Hid ((qsE amount s1 (ws.take j)).length = j ∧ (rsE amount s1 (ws.take j)).length = j) := by
            unfold qsE rsE
            refine ⟨?_, ?_⟩ <;> (rw [List.length_map, List.length_take]; have := HLEN.out; omega)
          have HM1 : Hid ((qsE amount s1 (ws.take j)).length + 1 ≤ maxLen) := by show _ ≤ _; rw [HLQ.out.1]; unfold maxLen; omega
          have HM2 : Hid (((qsE amount s1 (ws.take j)).length + 1) * 8 ≤ 140737488355328) := by show _ ≤ _; rw [HLQ.out.1]; omega
          have HM3 : Hid ((rsE amount s1 (ws.take j)).length + 1 ≤ maxLen) := by show _ ≤ _; rw [HLQ.out.2]; unfold maxLen; omega
          have HM4 : Hid (((rsE amount s1 (ws.take j)).length + 1) * 8 ≤ 140737488355328) := by show _ ≤ _; rw [HLQ.out.2]; omega
          obtain ⟨tq0, tq1, -, -⟩ := tms_in (A := amount) am0 x0 x2 y4
          obtain ⟨q, hq⟩ : ∃ q, tmsQ amount x s1 = q := ⟨_, rfl⟩
          obtain ⟨r, hr⟩ : ∃ r, tmsR amount x s1 = r := ⟨_, rfl⟩
          have HQ : Hid (tmsQ amount x s1 = q ∧ tmsR amount x s1 = r) := ⟨hq, hr⟩
          rw [hq] at tq0 tq1
          clear hx hq hr
          go_wp2_with (first
            | (go_at_call 128; go_loud (refine (rtimes_any amount x s1 _ ⟨am0, am1⟩ ⟨x0, x1⟩ x2 ⟨y4, hal2⟩).mono ?_); rintro e w1 ⟨rfl, hb1⟩; rw [HQ.out.1, HQ.out.2]; have HO1 := Lib.hid (HO.out.below hb1); have HU1 := Lib.hid (HU.out.below hb1); have HB1 : Hid (RowKit.Below w.heap.size w w1) := HBr.out.trans (hb1.mono HBr.out.size); clear hb1)
            | (at_builtin; refine wpList_app_at eltI rfl (.tmp 44) (.tmp 46) rfl (base := w.heap.size) _ (qsE amount s1 (ws.take j)) rfl (HO1.out.alloc _) _ 1 1 [q] rfl (sl_new (c := icod) _ #[.int .i64 q] 3 [q] 1 rfl (by unfold maxLen; omega) rfl) HM1.out HM2.out (by have := HB1.out.size; simp; omega) ?_; intro v3 w3 ho hg hat; have HO3 := Lib.hid ho; have HU3 := Lib.hid ((HU1.out.alloc _).kept hg HAP.out.symm); have HAP3 := Lib.hid (HAP.out.next hat (HU1.out.alloc _)); have HB3 : Hid (RowKit.Below w.heap.size w w3) := (HB1.out.alloc HB1.out.size _).trans (own_below (HO1.out.alloc _) hg (by have := HB1.out.size; simp; omega)); clear ho hg hat)
            | (at_builtin; go_loud (refine wpList_app_at eltI rfl (.tmp 48) (.tmp 50) rfl (base := w.heap.size) _ (rsE amount s1 (ws.take j)) rfl (HU3.out.alloc _) _ 1 1 [r] rfl (sl_new (c := icod) _ #[.int .i64 r] 3 [r] 1 rfl (by unfold maxLen; omega) rfl) HM3.out HM4.out (by have := HB3.out.size; simp; omega) ?_); intro v4 w4 ho hg hat; have HU4 := Lib.hid ho; have HO4 := Lib.hid ((HO3.out.alloc _).kept hg HAP3.out); have HAP4 := Lib.hid ((HAP3.out.symm.next hat (HO3.out.alloc _)).symm); have HB4 : Hid (RowKit.Below w.heap.size w w4) := (HB3.out.alloc HB3.out.size _).trans (own_below (HU3.out.alloc _) hg (by have := HB3.out.size; simp; omega)); clear ho hg hat))
          go_roundw
          case rel => exact ⟨j + 1, by go_num, by omega, by unfold qsE; rw [map_snoc HX.out, HQ.out.1]; exact HO4.out, by unfold rsE; rw [map_snoc HX.out, HQ.out.2]; exact HU4.out, HAP4.out, ⟨_, rfl, by show _ = _; rw [left_snoc HX.out, HQ.out.1, ← HLV.out]⟩, HB4.out⟩
          case measure => simp [intOf] <;> omega
        · have hjk : k = j := by omega
          subst hjk
          have hk0 : 0 < k := by
            rcases Nat.eq_zero_or_pos k with e | e
            · exfalso
              have h1 := HLEN.out
              have h2 : ws = [] := List.eq_nil_of_length_eq_zero (by omega)
              have h3 := HAL.out
              rw [h2] at h3
              simp at h3; omega
            · exact e
          have HFT : Hid (ws.take k = ws) := List.take_of_length_le (by rw [← HLEN.out]; exact Nat.le_refl _)
          have ho0 := HO.out
          have hu0 := HU.out
          rw [HFT.out] at ho0 hu0
          have hq0 : (qsE amount s1 ws).length = k := by unfold qsE; rw [List.length_map, HLEN.out]
          have hr0 : (rsE amount s1 ws).length = k := by unfold rsE; rw [List.length_map, HLEN.out]
          obtain ⟨o, oc, cur, hv, hob, -⟩ := own_ne ho0 (by intro e; have := congrArg List.length e; rw [hq0] at this; simp at this; omega)
          obtain ⟨g, gc, cur2, hu, hgb, -⟩ := own_ne hu0 (by intro e; have := congrArg List.length e; rw [hr0] at this; simp at this; omega)
          rw [hq0] at hv
          rw [hr0] at hu
          subst hv hu
          have hog : o ≠ g := by
            rcases HAP.out with e | e
            · cases e
            · exact fun q => e (by rw [q]; rfl)
          have HL0 : Hid (lv = leftE amount s1 ws) := by
            have := HLV.out
            rwa [HFT.out] at this
          have hl0 := left_lt (amount := amount) (ws := ws) y4 HAL.out.symm
          rw [← HL0.out] at hl0
          obtain ⟨lv0, lv1⟩ := hl0
          obtain ⟨L, rfl⟩ : ∃ L : Nat, lv = L := ⟨lv.toNat, by omega⟩
          have hLk : L < k := by
            have := lv1 (by intro e; have := HLEN.out; rw [e] at this; simp at this; omega)
            have := HLEN.out; omega
          have hst := start_of HP.out
          rw [HAL.out, ← HLEN.out] at hst
          have HRS : Hid (RS w wr o oc g gc k 0 S (qsE amount s1 ws) (rsE amount s1 ws)) := ⟨ho0, hu0, hog, HBr.out, hst.1, hst.2⟩
          clear ho0 hu0 HO HU HAP hst hq0 hr0 HLV lv0 lv1 hlv HBr
          go_wp2_with fail
          go_loopw [9] (fun l wr => ∃ t out rests, l = .int .i64 ((L : Int) - ((t : Nat) : Int)) ∧ t ≤ L ∧ Hid (RS w wr o oc g gc k t S out rests)) (fun l _ => (intOf l).toNat)
          case atStart => exact ⟨0, _, _, by go_num, by omega, HRS.out⟩
          case round =>
            clear HRS
            obtain ⟨t, out, rests, rfl, ht, HRS⟩ := hrel
            by_cases hlt3 : t < L
            · obtain ⟨p, hp⟩ : ∃ p, S[t]? = some p := ⟨_, List.getElem?_eq_getElem (by rw [HW.out.len]; omega)⟩
              obtain ⟨p0, p1, -⟩ := HW.out.low t p hp
              have HP9 := Lib.hid hp
              have HAM := Lib.hid (amax_next HW.out HRS.out.res hp)
              clear hp
              have hl3 : 0 < (L : Int) - (t : Int) := by omega
              have hl4 : (1 : Int) ≤ (L : Int) - (t : Int) := by omega
              have HRL : Hid (k = rests.length) := HRS.out.res.len.symm
              have HOL : Hid (k = out.length) := HRS.out.fil.len.symm
              obtain ⟨m, hm⟩ : ∃ m : Int, (L : Int) - (t : Int) = m := ⟨_, rfl⟩
              have HMM := Lib.hid hm
              have hm2 : m ≤ 64 := by omega
              rw [hm] at hl3 hl4 ⊢
              clear hm
              go_wp2_with fail
              go_loopw [13, 14] (fun b i wq => ∃ j bb : Nat, i = .int .i64 ((j : Nat) : Int) ∧ 1 ≤ j ∧ j ≤ k ∧ b = .int .i64 ((bb : Nat) : Int) ∧ Hid (bb = amax rests j) ∧ Hid (RS w wq o oc g gc k t S out rests)) (fun _ i _ => k - (intOf i).toNat)
              case atStart => exact ⟨1, 0, by go_num, by omega, by omega, by go_num, rfl, HRS.out⟩
              case round =>
                clear HRS
                obtain ⟨j, bb, rfl, hj1, hj, rfl, HBB, HRS⟩ := hrel
                have hbj : bb < j := by rw [HBB.out]; exact amax_lt rests j (by omega)
                by_cases hlt4 : j < k
                · obtain ⟨dj, hdj, q0, -, hgl⟩ := icells HRS.out.rw_ HRL.out hlt4
                  obtain ⟨db, hdb, r0, -, -⟩ := icells HRS.out.rw_ HRL.out (show bb < k by omega)
                  have hji : (j : Int) < (k : Int) := by omega
                  have hbi : (bb : Int) < (k : Int) := by omega
                  have HD : Hid (rests.getD (amax rests j) 0 = db ∧ rests.getD j 0 = dj) := by
                    rw [← HBB.out]
                    exact ⟨by rw [List.getD_eq_getElem?_getD, hdb]; rfl, by rw [List.getD_eq_getElem?_getD, hdj]; rfl⟩
                  clear hdj hdb
                  by_cases hgt : db < dj
                  · go_wp2_with fail
                    go_quiet (fail)
                    go_wp2_with fail
                    go_roundw
                    case rel => exact ⟨j + 1, j, by go_num, by omega, by omega, by go_num, amax_t HD.out hj1 (by omega), HRS.out.below (by first | exact below_drewN (Below.refl _ _) _ | exact Below.drew (Below.refl _ _))⟩
                    case measure => simp [intOf] <;> omega
                  · have hgd : decide (db < dj) = false := decide_eq_false hgt
                    go_wp2_with fail
                    go_quiet (fail)
                    go_wp2_with fail
                    go_roundw
                    case rel => exact ⟨j + 1, bb, by go_num, by omega, by omega, by go_num, HBB.out.trans (amax_f HD.out hj1 (by omega)), HRS.out.below (by first | exact below_drewN (Below.refl _ _) _ | exact Below.drew (Below.refl _ _))⟩
                    case measure => simp [intOf] <;> omega
                · have hjk4 : k = j := by omega
                  subst hjk4
                  have hbp : bb = p.place.toNat := HBB.out.trans HAM.out
                  have hbk : bb < k := hbj
                  obtain ⟨d, hd, q0, qf, hol⟩ := icells HRS.out.ow HOL.out hbk
                  obtain ⟨d2, hd2, r0, rf, hgl⟩ := icells HRS.out.rw_ HRL.out hbk
                  have hds : 0 ≤ d ∧ d ≤ amount := by
                    have h1 := HRS.out.fil.at_ t p HP9.out
                    rw [← hbp, hd, if_neg (by omega)] at h1
                    have h2 := ptys_share am0 y4 HX0.out (p := p) (by have := HP.out.mem_iff.1 (List.mem_of_getElem? HP9.out); rwa [HAL.out] at this)
                    have h3 := Option.some.inj h1
                    omega
                  have HST := Lib.hid (HRS.out.step HW.out HP9.out hbp hd)
                  have hbi : (bb : Int) < (k : Int) := by omega
                  have hne1 : o ≠ g := hog
                  have hne2 : g ≠ o := fun e => hog e.symm
                  clear hd hd2 hbp
                  go_wp2_with fail
                  go_roundw
                  case rel => exact ⟨t + 1, _, _, (by have := HMM.out; show Value.int .i64 _ = Value.int .i64 _; congr 1; omega), by omega, HST.out⟩
                  case measure => simp [intOf] <;> omega
            · have htl : t = L := by omega
              subst htl
              have hz0 : (t : Int) - (t : Int) = 0 := by omega
              go_wp2_with fail
              go_ret
              have hf := HRS.out.fil
              refine ⟨_, out, rfl, HRS.out.ow, ?_, HRS.out.bel⟩
              rw [← HL0.out, Int.toNat_natCast]; exact hf
end Go.Proofs.Ytjejpaladjfegaa.Ap
