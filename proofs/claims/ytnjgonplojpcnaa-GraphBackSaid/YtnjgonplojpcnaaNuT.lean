/- Networks: the parts by who stands for whom, walked. -/
import Derived.Test.YtnjgonplojpcnaaNuG
import Derived.Test.YtnjgonplojpcnaaNeD
import Derived.Test.YtnjgonplojpcnaaIr
import Derived.Deep.RegionHeld3
namespace Go.Proofs.Ytnjgonplojpcnaa.Ne
open Go.RowKit Go.V Go.Proofs Go.Sort
open Go.Proofs.Ytnjgonplojpcnaa.Ir (infoI eltI own_below)

def idL (j : Nat) : Nat → Nat := fun v => if v < j then v else 0
theorem idL_step (j k : Nat) : (lst (idL j) k).set j ((j : Nat) : Int) = lst (idL (j + 1)) k := by
  rw [lst_set]
  refine lst_congr fun v _ => ?_
  unfold upd idL
  by_cases e : v = j
  · subst e; rw [if_pos rfl, if_pos (by omega)]
  · rw [if_neg e]
    by_cases h : v < j
    · rw [if_pos h, if_pos (by omega)]
    · rw [if_neg h, if_neg (by omega)]
theorem idL_full (k : Nat) : lst (idL k) k = lst id k := lst_congr fun v hv => by unfold idL; rw [if_pos hv]; rfl
theorem lst_zero : ∀ k : Nat, lst (idL 0) k = List.replicate k 0
  | 0 => rfl
  | k + 1 => by rw [lst_snoc, lst_zero k, List.replicate_succ']; rfl

theorem uf_back {L : List Lnk} {k : Nat} {p R : Nat → Nat} (h : UF L k p R) {v : Nat} (hv : R v = v) : p v = v := by
  have h1 := (h.small (p v)).1
  have h2 := h.le v
  rw [h.rp, hv] at h1
  omega

/-- What graph.Parts has in memory. -/
structure PS (w wr : World) (n : Net) (hs hl : Hdr) (z o g k : Nat) (p : Nat → Nat) : Prop where
  bx : wr.heap[z]? = some (n.box hs hl)
  lb : wr.heap[g]? = some (.cells #[.slice (some ⟨o, 0, none⟩) k k] 58 (0, 0))
  own : V.Own 3 icod z wr (.slice (some ⟨o, 0, none⟩) k k) (lst p k)
  bl : Below z w wr
  zs : w.heap.size = z
  zo : z < o
  go : g ≠ o
section
variable {w wr w' : World} {n : Net} {hs hl : Hdr} {z o g k : Nat} {p q : Nat → Nat}
theorem PS.grown (h : PS w wr n hs hl z o g k p) (ho : V.Own 3 icod z w' (.slice (some ⟨o, 0, none⟩) k k) (lst q k)) (hg : wr.grownBy w' (some o)) : PS w w' n hs hl z o g k q :=
  ⟨(hg.block z (box_lt h.bx) (fun e => by have := h.zo; have := Option.some.inj e; omega)).trans h.bx, (hg.block g (box_lt h.lb) (fun e => h.go (Option.some.inj e))).trans h.lb, ho, h.bl.trans (own_below h.own hg (by have := box_lt h.bx; omega)), h.zs, h.zo, h.go⟩
theorem PS.set (h : PS w wr n hs hl z o g k p) (i x : Nat) : PS w (wr.setCell ⟨o, i, none⟩ (.int .i64 ((x : Nat) : Int))) n hs hl z o g k (upd p i x) := by
  obtain ⟨o1, g1⟩ := iset h.own (lst_len p k).symm i ((x : Nat) : Int)
  rw [lst_set] at o1
  exact h.grown o1 g1
theorem PS.below (h : PS w wr n hs hl z o g k p) (hb : Below wr.heap.size wr w') : PS w w' n hs hl z o g k p :=
  ⟨box_below h.bx hb, box_below h.lb hb, h.own.below hb, h.bl.trans (hb.mono (by have := box_lt h.bx; omega)), h.zs, h.zo, h.go⟩
theorem PS.congr (h : PS w wr n hs hl z o g k p) (e : lst p k = lst q k) : PS w wr n hs hl z o g k q := { h with own := by rw [← e]; exact h.own }
end

set_option maxHeartbeats 16000000 in
set_option maxRecDepth 100000 in
theorem parts_any (n : Net) (hs hl : Hdr) (w : World) (hm : hs.n ≤ 1000000 ∧ hl.n ≤ 1000000) (h : NetIn w n hs hl) :
    Calls Try.prog 26 #[n.val hs hl] w fun e w' => Below w.heap.size w w' ∧ (checkE n ≠ 0 → e = .returned (.tuple #[.slice none 0 0, .int .i64 (checkE n)])) ∧
      (checkE n = 0 → ∃ v, e = .returned (.tuple #[v, .int .i64 0]) ∧ V.Own 3 icod w.heap.size w' v (lst (sprdN n.links id hs.n) hs.n)) := by
  have mixed : Try.prog.follows .mixedOrders = true := by kernel_rfl
  have HKN := Lib.hid h.s.hlen
  have HLN := Lib.hid h.l.hlen
  obtain ⟨sa, k, sc⟩ := hs
  obtain ⟨la, m, lc⟩ := hl
  have HH := Lib.hid h
  have HX := Lib.hid (box_new w (n.box ⟨sa, k, sc⟩ ⟨la, m, lc⟩))
  have HB0 : Hid (Below w.heap.size w (w.alloc (n.box ⟨sa, k, sc⟩ ⟨la, m, lc⟩))) := (Below.refl _ _).alloc (Nat.le_refl _) _
  have HM := Lib.hid hm
  obtain ⟨c0, c1, c2, -, -, -⟩ := box3_cells HX.out
  obtain ⟨ce, hce⟩ : ∃ ce, checkE n = ce := ⟨_, rfl⟩
  have HCE := Lib.hid hce
  clear hce hm h
  go_enter Try.func26, Try.ntmps26
  go_upto_region 2 with (go_at_call 21; refine (check_any n ⟨sa, k, sc⟩ ⟨la, m, lc⟩ _ HM.out (HH.out.below HB0.out)).mono ?_; rintro e w1 ⟨rfl, hb1⟩; rw [HCE.out]; have HB1 := Lib.hid (HB0.out.trans (hb1.mono HB0.out.size)); have HX1 := Lib.hid (box_below HX.out hb1); clear hb1)
  clear c0 c1 c2 HX HB0
  obtain ⟨c0, c1, c2, -, -, -⟩ := box3_cells HX1.out
  by_cases he : ce = 0
  case neg =>
    have e0 : (ce == 0) = false := by simpa using he
    go_wp2_with fail
    go_ret2
    rw [HCE.out]
    exact ⟨HB1.out, fun _ => rfl, fun q => absurd q he⟩
  case pos =>
    subst he
    obtain ⟨kk1, kk2, -, -, kk5, -⟩ := check_ok HCE.out
    have hk4 : k ≤ 4096 := by have e : k = n.stops.length := HKN.out; omega
    have hm4 : m ≤ 16384 := by have e : m = n.links.length := HLN.out; omega
    have HLO : Hid (LinksOk n.links k) := by have e : k = n.stops.length := HKN.out; show LinksOk _ _; rw [e]; exact kk5
    clear kk1 kk2 kk5
    have hmk := run_make_row' (P := Try.prog) 58 3 (.int .i64 0) 8 Try.underlying58 infoI rfl .i64 .i64 k (by omega) (by omega)
    go_upto_region 5 with fail
    have HP0 : Hid (PS w ((w1.alloc (.cells (madeCells #[.int .i64 0] k) 3)).alloc (.cells #[.slice (some ⟨w1.heap.size, 0, none⟩) k k] 58)) n ⟨sa, k, sc⟩ ⟨la, m, lc⟩ w.heap.size w1.heap.size (w1.heap.size + 1) k (idL 0)) := by
      have hb1 := HB1.out
      have hsz := box_lt HX1.out
      refine ⟨box_alloc (box_alloc HX1.out), ?_, ?_, (hb1.alloc hb1.size _).alloc (by simp; omega) _, rfl, hsz, by omega⟩
      · have := box_new (w1.alloc (.cells (madeCells #[.int .i64 0] k) 3)) (.cells #[.slice (some ⟨w1.heap.size, 0, none⟩) k k] 58)
        simpa using this
      · refine V.Own.alloc (own_new (c := icod) w1 (madeCells #[.int .i64 0] k) 3 w.heap.size (lst (idL 0) k) k (lst_len _ _).symm (by omega) (by unfold maxLen; omega) ?_) _
        rw [lst_zero, toList_madeCells_one]
        have hf : ∀ m : Nat, (List.replicate m (0 : Int)).flatMap icod.enc = List.replicate m (Value.int .i64 0) := by
          intro m
          induction m with
          | zero => rfl
          | succ m ih => rw [List.replicate_succ, List.flatMap_cons, ih]; rfl
        rw [hf]
    obtain ⟨W, hW⟩ : ∃ W, (w1.alloc (.cells (madeCells #[.int .i64 0] k) 3)).alloc (.cells #[.slice (some ⟨w1.heap.size, 0, none⟩) k k] 58) = W := ⟨_, rfl⟩
    obtain ⟨o, ho⟩ : ∃ o, w1.heap.size = o := ⟨_, rfl⟩
    rw [hW] at HP0 ⊢
    rw [ho] at HP0 ⊢
    obtain ⟨g, hg⟩ : ∃ g, o + 1 = g := ⟨_, rfl⟩
    rw [hg] at HP0 ⊢
    clear hW ho hg c0 c1 c2 HX1 HB1 hmk
    obtain ⟨z, hz⟩ : ∃ z, w.heap.size = z := ⟨_, rfl⟩
    rw [hz] at HP0 ⊢
    have HZ := Lib.hid hz
    clear hz
    have g0 : W.cell? ⟨g, 0, none⟩ = some (.slice (some ⟨o, 0, none⟩) k k) := (box_cell HP0.out.lb 0).1
    go_wp2_with fail
    clear g0
    go_loopw [24] (fun i wr => ∃ j : Nat, i = .int .i64 j ∧ j ≤ k ∧ Hid (PS w wr n ⟨sa, k, sc⟩ ⟨la, m, lc⟩ z o g k (idL j))) (fun i _ => k - (intOf i).toNat)
    case atStart => exact ⟨0, by go_num, by omega, HP0.out⟩
    case round =>
      clear HP0
      obtain ⟨j, rfl, hj, HP⟩ := hrel
      have g0 : wr.cell? ⟨g, 0, none⟩ = some (.slice (some ⟨o, 0, none⟩) k k) := (box_cell HP.out.lb 0).1
      by_cases hlt : j < k
      · have hjk : (j : Int) < (k : Int) := by omega
        obtain ⟨dx, -, p0, pf, p2⟩ := icells HP.out.own (lst_len _ k).symm hlt
        have HP1 : Hid (PS w (wr.setCell ⟨o, j, none⟩ (.int .i64 ((j : Nat) : Int))) n ⟨sa, k, sc⟩ ⟨la, m, lc⟩ z o g k (idL (j + 1))) := (HP.out.set j j).congr ((lst_set _ _ _ _).symm.trans (idL_step j k))
        go_wp2_with fail
        go_roundw
        case rel => exact ⟨j + 1, by go_num, by omega, HP1.out⟩
        case measure => simp [intOf]; omega
      · have hjk : k = j := by omega
        subst hjk
        have HP2 := Lib.hid (HP.out.congr (idL_full k))
        obtain ⟨c0, c1, c2, -, -, -⟩ := box3_cells HP2.out.bx
        go_wp2_with fail
        clear c0 c1 c2 HP g0
        go_loopw [36] (fun i wr => ∃ (j : Nat) (p R : Nat → Nat), i = .int .i64 j ∧ j ≤ m ∧ Hid (PS w wr n ⟨sa, k, sc⟩ ⟨la, m, lc⟩ z o g k p) ∧ Hid (UF (n.links.take j) k p R)) (fun i _ => m - (intOf i).toNat)
        case atStart => exact ⟨0, id, id, by go_num, by omega, HP2.out, by rw [List.take_zero]; exact UF.begin k⟩
        case round =>
          clear HP2
          obtain ⟨j, p, R, rfl, hj2, HP, HU⟩ := hrel
          by_cases hlt2 : j < m
          · obtain ⟨bl, off, l, rfl, hbl, hlj, l0, l1, l2⟩ := lnk_at (HH.out.l.below (by rw [HZ.out]; exact HP.out.bl)) hlt2
            obtain ⟨q1, q2, q3, q4, q5⟩ := HLO.out l (List.mem_of_getElem? hlj)
            obtain ⟨la, lb, x⟩ := l
            obtain ⟨A, rfl⟩ : ∃ A : Nat, la = A := ⟨la.toNat, by simp at q1; omega⟩
            obtain ⟨B, rfl⟩ : ∃ B : Nat, lb = B := ⟨lb.toNat, by simp at q1 q2; omega⟩
            have hAk : A < k := by simp at q2 q3; omega
            have hBk : B < k := by simp at q3; omega
            have HLJ := Lib.hid hlj
            clear q1 q2 q3 q4 q5 hlj
            go_upto_region 14 with fail
            have HPa := Lib.hid (HP.out.below ((Below.refl _ _).alloc (Nat.le_refl _) (.cells #[.int .i64 A, .int .i64 B, .int .i64 x] 63)))
            have HYa := Lib.hid (box_new wr (.cells #[.int .i64 A, .int .i64 B, .int .i64 x] 63))
            have hoy : o ≠ wr.heap.size := by have := (World.ownsRow.lt HP.out.own o rfl).2; omega
            obtain ⟨y, hy⟩ : ∃ y, wr.heap.size = y := ⟨_, rfl⟩
            obtain ⟨X, hX⟩ : ∃ X, wr.alloc (.cells #[.int .i64 A, .int .i64 B, .int .i64 x] 63) = X := ⟨_, rfl⟩
            rw [hX] at HPa HYa ⊢
            rw [hy] at HYa hoy ⊢
            clear hX hy HP l0 l1 l2 hbl
            obtain ⟨y0, y1, -, -, -, -⟩ := box3_cells HYa.out
            have HPd := Lib.hid (HPa.out.below (Below.drew (Below.refl _ _)))
            have HYd : Hid (X.drew.heap[y]? = some (.cells #[.int .i64 A, .int .i64 B, .int .i64 x] 63 (0, 0))) := HYa.out
            clear HPa HYa
            have hyo : y ≠ o := fun e => hoy e.symm
            go_region_held3 (fun w' => w'.cell? ⟨y, 0, none⟩ = some (.int .i64 A) ∧ w'.cell? ⟨y, 1, none⟩ = some (.int .i64 B))
              (first | go_keep | (exact ⟨e0, e1⟩) | (exact ⟨f0, f1⟩))
              (first
                | (go_at_call 59; go_fit (root_any z g o k k A (n.links.take j) p R X.drew hAk HPd.out.lb HPd.out.go HPd.out.own HU.out); rintro e v1 ⟨rfl, p1, ho1, hu1, hr1, -, hw1⟩; have HP1 := Lib.hid (HPd.out.grown ho1 hw1); have HU1 := Lib.hid hu1; have HY1 := Lib.hid ((hw1.block y (box_lt HYd.out) (fun e => hyo (Option.some.inj e))).trans HYd.out); obtain ⟨e0, e1, -, -, -, -⟩ := box3_cells HY1.out; clear ho1 hu1 hr1 hw1)
                | (go_at_call 59; go_fit (root_any z g o k k B (n.links.take j) p1 R v1 hBk HP1.out.lb HP1.out.go HP1.out.own HU1.out); rintro e v2 ⟨rfl, p2, ho2, hu2, hr2, -, hw2⟩; have HP2 := Lib.hid (HP1.out.grown ho2 hw2); have HU2 := Lib.hid hu2; have HY2 := Lib.hid ((hw2.block y (box_lt HY1.out) (fun e => hyo (Option.some.inj e))).trans HY1.out); obtain ⟨f0, f1, -, -, -, -⟩ := box3_cells HY2.out; clear ho2 hu2 hr2 hw2))
            clear y0 y1 e0 e1 f0 f1 HY1 HY2 HYd HP1 HU1 HPd
            have ra := (HU2.out.small A)
            have rb := (HU2.out.small B)
            have HFA := Lib.hid (uf_back HU2.out ra.2)
            have HFB := Lib.hid (uf_back HU2.out rb.2)
            have HJ := Lib.hid (HU2.out.join (l := ⟨A, B, x⟩) ⟨by simp, by simp⟩ (by simp) (by simp) HFA.out HFB.out)
            have HTK := Lib.hid (take_at HLJ.out)
            rw [← HTK.out] at HJ
            obtain ⟨a, ha⟩ : ∃ a, R A = a := ⟨_, rfl⟩
            obtain ⟨b, hb⟩ : ∃ b, R B = b := ⟨_, rfl⟩
            rw [ha] at ra HJ
            rw [hb] at rb HJ
            rw [ha, hb]
            have hak : a < k := by omega
            have hbk : b < k := by omega
            clear ra rb ha hb
            have g0 : v2.cell? ⟨g, 0, none⟩ = some (.slice (some ⟨o, 0, none⟩) k k) := (box_cell HP2.out.lb 0).1
            rcases Nat.lt_or_ge a b with hab | hab
            · have hM : max a b = b := by omega
              have hN : min a b = a := by omega
              have HP3 := Lib.hid (HP2.out.set b a)
              rw [hM, hN] at HJ
              have d1 : (a : Int) < (b : Int) := by omega
              have d2 : ¬ ((b : Int) < (a : Int)) := by omega
              have hMi : (b : Int) < (k : Int) := by omega
              obtain ⟨dx, -, p0, pf, p2⟩ := icells HP2.out.own (lst_len _ k).symm hbk
              clear hM hN
              go_wp2_with fail
              go_roundw
              case rel => exact ⟨j + 1, _, _, by go_num, by omega, HP3.out, HJ.out⟩
              case measure => simp [intOf]; omega
            · have hM : max a b = a := by omega
              have hN : min a b = b := by omega
              have HP3 := Lib.hid (HP2.out.set a b)
              rw [hM, hN] at HJ
              have d1 : ¬ ((a : Int) < (b : Int)) := by omega
              have hMi : (a : Int) < (k : Int) := by omega
              obtain ⟨dx, -, p0, pf, p9⟩ := icells HP2.out.own (lst_len _ k).symm hak
              clear hM hN
              go_wp2_with fail
              go_roundw
              case rel => exact ⟨j + 1, upd p2 a b, _, by go_num, by omega, by rw [show (if b < a then ((b : Nat) : Int) else ((a : Nat) : Int)) = ((b : Nat) : Int) by split <;> omega]; exact HP3.out, HJ.out⟩
              case measure => simp [intOf]; omega
          · have hjm : m = j := by omega
            subst hjm
            rw [List.take_of_length_le (by rw [← HLN.out]; exact Nat.le_refl _)] at HU
            have g0 : wr.cell? ⟨g, 0, none⟩ = some (.slice (some ⟨o, 0, none⟩) k k) := (box_cell HP.out.lb 0).1
            go_wp2_with fail
            clear g0
            go_loopw [59] (fun i wr => ∃ (j : Nat) (p : Nat → Nat), i = .int .i64 j ∧ j ≤ k ∧ Hid (PS w wr n ⟨sa, k, sc⟩ ⟨la, m, lc⟩ z o g k p) ∧ Hid (UF n.links k p R) ∧ Hid (Flat p R j)) (fun i _ => k - (intOf i).toNat)
            case atStart => exact ⟨0, p, by go_num, by omega, HP.out, HU.out, fun u hu => absurd hu (by omega)⟩
            case round =>
              clear HP HU
              obtain ⟨j, p, rfl, hj3, HP, HU, HF⟩ := hrel
              have g0 : wr.cell? ⟨g, 0, none⟩ = some (.slice (some ⟨o, 0, none⟩) k k) := (box_cell HP.out.lb 0).1
              by_cases hlt3 : j < k
              · have hji : (j : Int) < (k : Int) := by omega
                go_upto_region 20 with fail
                have HPd := Lib.hid (HP.out.below (Below.drew (Below.refl _ _)))
                go_region_held3 (fun w' => w'.cell? ⟨g, 0, none⟩ = some (.slice (some ⟨o, 0, none⟩) k k))
                  (first | (exact e0) | (exact f0) | go_keep)
                  (first
                    | (go_at_call 59; go_loud (refine (root_any z g o k k j n.links p R wr.drew hlt3 HPd.out.lb HPd.out.go HPd.out.own HU.out).mono ?_); rintro e v1 ⟨rfl, p1, ho1, hu1, hr1, hf1, hw1⟩; have HP1 := Lib.hid (HPd.out.grown ho1 hw1); have HU1 := Lib.hid hu1; have HF1 := Lib.hid (hf1 _ HF.out); have e0 := (box_cell HP1.out.lb 0).1; obtain ⟨dx, -, p0, pf, p2⟩ := icells HP1.out.own (lst_len _ k).symm hlt3; have HP2 := Lib.hid (HP1.out.set j (R j)); have f0 := (box_cell HP2.out.lb 0).1; have HU2 := Lib.hid (HU1.out.flat j); have HF2 := Lib.hid (HF1.out.flat); clear ho1 hu1 hr1 hf1 hw1))
                all_goals
                  go_wp2_with fail
                  go_roundw
                  case rel => exact ⟨j + 1, _, by go_num, by omega, HP2.out, HU2.out, HF2.out⟩
                  case measure => simp [intOf]; omega
              · have hjk : k = j := by omega
                subst hjk
                have HE : Hid (lst p k = lst (sprdN n.links id k) k) := by
                  show _ = _
                  refine lst_congr fun v hv => ?_
                  rw [HF.out v hv, parts_one HU.out HLO.out hv]
                have HO := Lib.hid (HP.out.congr HE.out)
                go_wp2_with fail
                go_ret2
                exact ⟨by rw [HZ.out]; exact HO.out.bl, fun q => absurd HCE.out q, fun _ => ⟨_, rfl, by rw [HZ.out]; exact HO.out.own⟩⟩
end Go.Proofs.Ytnjgonplojpcnaa.Ne
