/- Grids: ref14.Near: walked. -/
import Derived.Test.YtknbpnkonhniiaaGrT
namespace Go.Proofs.Ytknbpnkonhniiaa.Ne
open Go.RowKit Go.V Go.Proofs

def bocod : Cod Bool := ⟨1, fun x => [.bool x], fun _ => rfl, by simp [Value.oneCell']⟩
theorem infoBo : (Try.prog.info? 4).map (fun i => (i.zero, i.size, i.bytes)) = some (some (.bool false), 1, 1) := by kernel_rfl
theorem boflat_set : ∀ (xs : List Bool) (i : Nat) (d : Bool), (xs.flatMap bocod.enc).set i (.bool d) = (xs.set i d).flatMap bocod.enc
  | [], _, _ => rfl
  | x :: xs, 0, d => rfl
  | x :: xs, i + 1, d => by
    have ih := boflat_set xs i d
    rw [List.set_cons_succ, List.flatMap_cons, List.flatMap_cons, ← ih]
    rfl
theorem boset {base : Nat} {w : World} {b n cap : Nat} {xs : List Bool} (h : Go.V.Own 4 bocod base w (.slice (some ⟨b, 0, none⟩) n cap) xs) (hn : n = xs.length) (i : Nat) (d : Bool) :
    Go.V.Own 4 bocod base (w.setCell ⟨b, i, none⟩ (.bool d)) (.slice (some ⟨b, 0, none⟩) n cap) (xs.set i d) ∧ w.grownBy (w.setCell ⟨b, i, none⟩ (.bool d)) (some b) :=
  h.put hn i _ _ (by simp) (boflat_set xs i d)
theorem bocells {base : Nat} {w : World} {b n cap : Nat} {xs : List Bool} (h : Go.V.Own 4 bocod base w (.slice (some ⟨b, 0, none⟩) n cap) xs) (hn : n = xs.length) {i : Nat} {d : Bool} (hx : xs[i]? = some d) :
    w.cell? ⟨b, i, none⟩ = some (.bool d) ∧ w.frozen? ⟨b, i, none⟩ = false ∧ b < w.heap.size := by
  obtain ⟨h1, h2⟩ := h.at hn hx
  refine ⟨?_, h2 _, (World.ownsRow.lt h b rfl).2⟩
  have := h1 0 _ rfl
  simpa [bocod] using this
theorem bomade (w : World) (n base : Nat) (hb : base ≤ w.heap.size) (hm : n ≤ maxLen) :
    Go.V.Own 4 bocod base (w.alloc (.cells (madeCells #[.bool false] n) 4)) (.slice (some ⟨w.heap.size, 0, none⟩) n n) (List.replicate n false) :=
  own_new (c := bocod) w _ 4 base (List.replicate n false) n (by simp) hb hm (by
    rw [toList_madeCells_one]
    induction n with
    | zero => rfl
    | succ n ih => rw [List.replicate_succ, List.replicate_succ, List.flatMap_cons, ← ih (by omega)]; rfl)
theorem bomake (n : Nat) (hn : n ≤ 1000000) : ∀ w, (Instr.makeSlice 87 (.int .i64 (n : Int)) (.int .i64 (n : Int))).run Try.prog w = .ok (.slice (some ⟨w.heap.size, 0, none⟩) n n) (w.alloc (.cells (madeCells #[.bool false] n) 4)) :=
  fun w => run_make_row' (P := Try.prog) 87 4 (.bool false) 1 Try.underlying87 infoBo rfl .i64 .i64 n (by omega) (by omega) w

set_option maxHeartbeats 8000000 in
set_option maxRecDepth 100000 in
theorem rnear_any (a : Option Addr) (n cap : Nat) (S : List Stp) (p : Stp) (reach : Int) (mk : Nat) (w : World) (hn : n ≤ 200) (hr : 0 ≤ reach ∧ reach ≤ 134217728) (h : Sl Stp.cod w a n cap S) :
    Calls Try.prog 30 #[.slice a n cap, .int .i64 p.x, .int .i64 p.y, .int .i64 reach, .int .i64 (mk : Int)] w fun e w' => ∃ v, e = .returned v ∧ V.Own 3 icod w.heap.size w' v (nearL p S (reach * reach) mk) ∧ Below w.heap.size w w' := by
  have HN := Lib.hid h.hlen
  have HS := Lib.hid h
  obtain ⟨hr1, hr2⟩ := hr
  have hmm : 0 ≤ reach * reach ∧ reach * reach ≤ 18014398509481984 := ⟨Int.mul_nonneg hr1 hr1, by have := Int.mul_le_mul hr2 hr2 hr1 (by decide); omega⟩
  obtain ⟨M, hM⟩ : ∃ M, reach * reach = M := ⟨_, rfl⟩
  have hw3 : IntKind.i64.wrap (reach * reach) = M := by rw [hM, IntKind.wrap_i64]; omega
  rw [hM]
  clear h hM hmm
  have mixed : Try.prog.follows .mixedOrders = true := by kernel_rfl
  have hmk := bomake n (by omega)
  have HX0 : Hid ((w.alloc (.cells #[.int .i64 p.x, .int .i64 p.y] 53)).heap[w.heap.size]? = some (.cells #[.int .i64 p.x, .int .i64 p.y] 53 (0, 0))) := box_new _ _
  have HX1 : Hid (((w.alloc (.cells #[.int .i64 p.x, .int .i64 p.y] 53)).alloc (.cells (madeCells #[.bool false] n) 4)).heap[w.heap.size]? = some (.cells #[.int .i64 p.x, .int .i64 p.y] 53 (0, 0))) := box_alloc HX0.out
  have HB1 : Hid (Below w.heap.size w ((w.alloc (.cells #[.int .i64 p.x, .int .i64 p.y] 53)).alloc (.cells (madeCells #[.bool false] n) 4))) := ((Below.refl _ _).alloc (Nat.le_refl _) _).alloc (by simp) _
  have HD1 : Hid (V.Own 4 bocod (w.heap.size + 1) ((w.alloc (.cells #[.int .i64 p.x, .int .i64 p.y] 53)).alloc (.cells (madeCells #[.bool false] n) 4)) (.slice (some ⟨w.heap.size + 1, 0, none⟩) n n) (doneL p S M 0)) := by
    have := bomade (w.alloc (.cells #[.int .i64 p.x, .int .i64 p.y] 53)) n (w.heap.size + 1) (by simp) (by unfold maxLen; omega)
    rw [World.size_alloc, HN.out, ← done_zero (p := p) (M := M)] at this
    rw [HN.out]
    exact this
  have HFN : Hid ((nearF p S M).length ≤ n) := by rw [HN.out]; exact near_len p S M
  go_enter Try.func30, Try.ntmps30
  go_wp2_with fail
  go_loopg [12] 300 (fun kx v wr => ∃ (t : Nat) (oa : Option Addr) (oc : Nat), v = .slice oa t oc ∧ t ≤ mk ∧ t ≤ n ∧ n - t ≤ kx ∧ kx ≤ 300 ∧ Hid (t ≤ (nearF p S M).length) ∧ Hid (V.Own 3 icod (w.heap.size + 2) wr (.slice oa t oc) (((nearF p S M).take t).map Fnd.stop)) ∧ Hid (V.Own 4 bocod (w.heap.size + 1) wr (.slice (some ⟨w.heap.size + 1, 0, none⟩) n n) (doneL p S M t)) ∧ Hid (wr.heap[w.heap.size]? = some (.cells #[.int .i64 p.x, .int .i64 p.y] 53 (0, 0))) ∧ Hid (Below w.heap.size w wr) ∧ w.heap.size + 2 ≤ wr.heap.size)
  case atStart => exact ⟨0, none, 0, rfl, by omega, by omega, by omega, by omega, by show _ ≤ _; omega, World.ownsRow_nil _ _ _ _, HD1.out, HX1.out, HB1.out, by simp⟩
  case round =>
    obtain ⟨t, oa, oc, rfl, htm, htn, hkx, hk3, hF, ho, hd, hx, hb, hwl⟩ := hrel
    by_cases hlt : t < mk
    · have hltz : (t : Int) < (mk : Int) := by omega
      obtain ⟨wo, hwo⟩ : ∃ wo, wo = wr := ⟨_, rfl⟩
      subst hwo
      go_wp2_with fail
      go_loopw [14, 15] (fun bst i wr => ∃ (j : Nat) (B : Int), j ≤ n ∧ i = .int .i64 j ∧ bst = .int .i64 B ∧ Hid (BestR p S M t j B) ∧ Hid (Below wo.heap.size wo wr)) (fun _ i _ => n - (intOf i).toNat)
      case atStart => exact ⟨0, -1, by omega, rfl, rfl, br_start, Below.refl _ _⟩
      case round =>
        obtain ⟨j, B, hj, rfl, rfl, hbr, hb2⟩ := hrel
        have HB2 : Hid (Below w.heap.size w wr) := hb.out.trans (hb2.out.mono hb.out.size)
        have HX2 := Lib.hid (box_below hx.out hb2.out)
        have HD2 := Lib.hid (hd.out.below hb2.out)
        have hws : wo.heap.size ≤ wr.heap.size := hb2.out.size
        by_cases hjn : j < n
        · have hjz : (j : Int) < (n : Int) := by omega
          obtain ⟨bs, off, r, rfl, hbs, hrj, c0, c1⟩ := stp_at (HS.out.below HB2.out) hjn
          obtain ⟨y0, y1, -, -⟩ := box2_cells HX2.out
          have hjS : j < S.length := by rw [← HN.out]; exact hjn
          obtain ⟨q, hq⟩ : ∃ q, sqE p r = q := ⟨_, rfl⟩
          have HQ := Lib.hid hq
          have HFJ : Hid (fi p S j = ⟨j, q⟩) := by show _ = _; rw [fi, fnd_get hrj, hq]
          obtain ⟨dn, hdn⟩ : ∃ dn, decide ((j : Int) ∈ ((nearF p S M).take t).map Fnd.stop) = dn := ⟨_, rfl⟩
          have hda := done_at (p := p) (S := S) (M := M) (t := t) hjS
          rw [hdn] at hda
          have HCD : Hid (fi p S j ∈ (nearF p S M).drop t ↔ dn = false ∧ q ≤ M) := by
            show _ ↔ _
            rw [cand_done hjS, hdn, HFJ.out]
          obtain ⟨e0, -, e2⟩ := bocells HD2.out (by rw [done_len]; exact HN.out) hda
          have HK : Hid (∀ w', Below wr.heap.size wr w' → w'.cell? ⟨w.heap.size, 0, none⟩ = some (.int .i64 p.x) ∧ w'.cell? ⟨w.heap.size, 1, none⟩ = some (.int .i64 p.y) ∧ w'.cell? ⟨bs, off + j * 2, none⟩ = some (.int .i64 r.x) ∧ w'.cell? ⟨bs, off + j * 2 + 1, none⟩ = some (.int .i64 r.y)) := fun w' hb => ⟨(hb.cell (p := ⟨w.heap.size, 0, none⟩) (box_lt HX2.out)).trans y0, (hb.cell (p := ⟨w.heap.size, 1, none⟩) (box_lt HX2.out)).trans y1, (hb.cell (p := ⟨bs, off + j * 2, none⟩) hbs).trans c0, (hb.cell (p := ⟨bs, off + j * 2 + 1, none⟩) hbs).trans c1⟩
          have hjb : wo.heap.size ≤ wr.heap.size := hws
          clear hdn hda hq
          go_upto_region 9 with fail
          go_region_held3 (fun w' => w'.cell? ⟨w.heap.size, 0, none⟩ = some (.int .i64 p.x) ∧ w'.cell? ⟨w.heap.size, 1, none⟩ = some (.int .i64 p.y) ∧ w'.cell? ⟨bs, off + j * 2, none⟩ = some (.int .i64 r.x) ∧ w'.cell? ⟨bs, off + j * 2 + 1, none⟩ = some (.int .i64 r.y)) (first | exact HK.out _ (Below.refl _ _) | exact HK.out _ (Below.drew (Below.refl _ _)) | exact HK.out _ ((Below.drew (Below.refl _ _)).trans HC1.out)) (first | (go_at_call 31; go_fit (rsq_any p r _); rintro e w3 ⟨rfl, hb3⟩; rw [HQ.out]; have HC1 := Lib.hid hb3; clear hb3))
          all_goals
            have HW3 : Hid (Below wr.heap.size wr w3) := (Below.drew (Below.refl _ _)).trans HC1.out
            have HBQ : Hid (Below wo.heap.size wo w3) := hb2.out.trans (HW3.out.mono hws)
            have e3 := (HW3.out.cell (p := ⟨w.heap.size + 1, j, none⟩) e2).trans e0
            have hs3 : wr.heap.size ≤ w3.heap.size := HW3.out.size
            clear y0 y1 c0 c1 e0
            cases dn with
            | true =>
              have HCN : Hid (fi p S j ∉ (nearF p S M).drop t) := fun hh => by have := (HCD.out.1 hh).1; cases this
              go_wp2_with fail
              go_roundw
              case rel => exact ⟨j + 1, B, by omega, by go_num, rfl, br_skip HCN.out hbr.out, HBQ.out⟩
              case measure => simp [intOf]; omega
            | false =>
              by_cases hqm : M < q
              · have HCN : Hid (fi p S j ∉ (nearF p S M).drop t) := fun hh => by have := (HCD.out.1 hh).2; omega
                go_wp2_with fail
                go_roundw
                case rel => exact ⟨j + 1, B, by omega, by go_num, rfl, br_skip HCN.out hbr.out, HBQ.out⟩
                case measure => simp [intOf]; omega
              · have HCY : Hid (fi p S j ∈ (nearF p S M).drop t) := HCD.out.2 ⟨rfl, by omega⟩
                by_cases hB : B < 0
                · go_upto_region 11 with fail
                  refine wp_region_quiet_below (by assumption) (by kernel_rfl) ?_
                  repeat (go_big_quiet_step (fail))
                  refine wpQuiet_nil ?_
                  intro w9 hw9
                  obtain ⟨⟨nd, osq⟩, rfl⟩ := hw9
                  have hb9 := below_regrown w3 nd osq
                  have HB9 : Hid (Below wo.heap.size wo (Go.Sort.grow (redrawn w3 nd) osq)) := HBQ.out.trans (hb9.mono HBQ.out.size)
                  clear e3
                  generalize Go.Sort.grow (redrawn w3 nd) osq = w9 at HB9 ⊢
                  clear hb9
                  go_wp2_with fail
                  go_roundw
                  case rel => exact ⟨j + 1, j, by omega, by go_num, rfl, br_first HCY.out hbr.out hB, HB9.out⟩
                  case measure => simp [intOf]; omega
                · obtain ⟨b, hBb, hbj⟩ := br_num hbr.out hB
                  subst hBb
                  have hbz : (b : Int) < (n : Int) := by omega
                  obtain ⟨bs', off', sb, hba, hbs', hrb, g0, g1⟩ := stp_at (HS.out.below (HB2.out.trans (HW3.out.mono HB2.out.size))) (i := b) (by omega)
                  cases hba
                  obtain ⟨y0, y1, -, -⟩ := box2_cells (box_below HX2.out HW3.out)
                  have G0 := cell_regrown g0
                  have G1 := cell_regrown g1
                  have Y0 := cell_regrown y0
                  have Y1 := cell_regrown y1
                  obtain ⟨qb, hqb⟩ : ∃ q, sqE p sb = q := ⟨_, rfl⟩
                  have HFB : Hid (fi p S b = ⟨b, qb⟩) := by show _ = _; rw [fi, fnd_get hrb, hqb]
                  have q1 : ∀ nd osq, Calls Try.prog 31 #[p.val, sb.val] (Go.Sort.grow (redrawn w3 nd) osq) fun e w' => e = .returned (.int .i64 qb) ∧ Below (Go.Sort.grow (redrawn w3 nd) osq).heap.size (Go.Sort.grow (redrawn w3 nd) osq) w' := fun nd osq => (rsq_any p sb _).mono fun e w' ⟨k1, k2⟩ => ⟨by rw [k1, hqb], k2⟩
                  clear g0 g1 y0 y1 hrb hqb
                  go_upto_region 11 with fail
                  refine wp_region_quiet_below (by assumption) (by kernel_rfl) ?_
                  repeat (go_big_quiet_step ((go_at_call 31; exact Calls.regrown_of (q1 _ _))))
                  refine wpQuiet_nil ?_
                  intro w9 hw9
                  obtain ⟨⟨nd, osq⟩, rfl⟩ := hw9
                  have hb9 := below_regrown w3 nd osq
                  have HB9 : Hid (Below wo.heap.size wo (Go.Sort.grow (redrawn w3 nd) osq)) := HBQ.out.trans (hb9.mono HBQ.out.size)
                  clear e3 G0 G1 Y0 Y1 q1
                  generalize Go.Sort.grow (redrawn w3 nd) osq = w9 at HB9 ⊢
                  clear hb9
                  by_cases hlq : q < qb
                  · go_wp2_with fail
                    go_roundw
                    case rel => exact ⟨j + 1, j, by omega, by go_num, rfl, br_less HCY.out hbr.out (by rw [HFJ.out, HFB.out]; exact hlq), HB9.out⟩
                    case measure => simp [intOf]; omega
                  · go_wp2_with fail
                    go_roundw
                    case rel => exact ⟨j + 1, b, by omega, by go_num, rfl, br_keep hbr.out (by rw [HFJ.out, HFB.out]; exact hlq), HB9.out⟩
                    case measure => simp [intOf]; omega
        · have hjn' : j = n := by omega
          subst hjn'
          have hbr' : BestR p S M t S.length B := by rw [← HN.out]; exact hbr.out
          have HBR := Lib.hid hbr'
          clear hbr'
          by_cases hB : B < 0
          · go_wp2_with fail
            go_ret
            refine ⟨_, rfl, ?_, HB2.out⟩
            have hle := br_none HBR.out hB
            have o := ho.out.below hb2.out
            rw [List.take_of_length_le hle] at o
            unfold nearL
            rw [List.take_of_length_le (by omega)]
            exact o.lower (by omega)
          · obtain ⟨b, hBb, hbj⟩ := br_num HBR.out hB
            subst hBb
            obtain ⟨hbS, htF, hsn⟩ := br_some HBR.out
            have HSN := Lib.hid hsn
            have hbz : (b : Int) < (j : Int) := by rw [HN.out]; omega
            have hbjn : b < j := by omega
            obtain ⟨e0, e1, e2⟩ := bocells HD2.out (by rw [done_len]; exact HN.out) (done_at (p := p) (S := S) (M := M) (t := t) hbS)
            have hst := boset HD2.out (by rw [done_len]; exact HN.out) b true
            rw [done_set hsn] at hst
            have HST := Lib.hid hst
            have HO2 : Hid (V.Own 3 icod (w.heap.size + 2) (wr.setCell ⟨w.heap.size + 1, b, none⟩ (.bool true)) (.slice oa t oc) (((nearF p S M).take t).map Fnd.stop)) := (ho.out.below hb2.out).kept hst.2 (.inr fun e => by have := (World.ownsRow.lt ho.out _ e).1; omega)
            have HBS : Hid (Below w.heap.size w (wr.setCell ⟨w.heap.size + 1, b, none⟩ (.bool true))) := HB2.out.trans (below_of_grb hst.2 (fun k hk => by cases hk; omega) (by omega))
            have HXS : Hid ((wr.setCell ⟨w.heap.size + 1, b, none⟩ (.bool true)).heap[w.heap.size]? = some (.cells #[.int .i64 p.x, .int .i64 p.y] 53 (0, 0))) := grb_box hst.2 HX2.out (fun e => by have := Option.some.inj e; omega)
            have hlen : (((nearF p S M).take t).map Fnd.stop).length ≤ 200 := by rw [List.length_map, List.length_take]; omega
            have HM1 : Hid ((((nearF p S M).take t).map Fnd.stop).length + 1 ≤ maxLen) := by show _ ≤ _; unfold maxLen; omega
            have HM2 : Hid (((((nearF p S M).take t).map Fnd.stop).length + 1) * 8 ≤ 140737488355328) := by show _ ≤ _; omega
            have hss : wr.heap.size ≤ (wr.setCell ⟨w.heap.size + 1, b, none⟩ (.bool true)).heap.size := hst.2.size
            clear hsn hst hlen
            have HSW : Hid (Sl icod ((wr.setCell ⟨w.heap.size + 1, b, none⟩ (.bool true)).alloc (.cells #[.int .i64 (b : Int)] 3)) (some ⟨wr.heap.size, 0, none⟩) 1 1 [(b : Int)]) := by
              have q := sl_new (c := icod) (wr.setCell ⟨w.heap.size + 1, b, none⟩ (.bool true)) #[.int .i64 (b : Int)] 3 [(b : Int)] 1 rfl (by unfold maxLen; omega) rfl
              rw [show (wr.setCell ⟨w.heap.size + 1, b, none⟩ (.bool true)).heap.size = wr.heap.size from by simp] at q
              exact q
            go_wp2_with (at_builtin; go_loud (refine wpList_app Ir.eltI rfl (.tmp 69) (.tmp 71) rfl (base := w.heap.size + 2) _ _ rfl (HO2.out.alloc _) _ 1 1 [(b : Int)] rfl HSW.out HM1.out HM2.out (by simp; omega) ?_); intro v5 w5 ho5 hg5; have HO5 := Lib.hid ho5; have HG5 := Lib.hid hg5; clear ho5 hg5)
            have hlen5 : (((nearF p S M).take t).map Fnd.stop ++ [(b : Int)]).length = t + 1 := by rw [List.length_append, List.length_map, List.length_take, Nat.min_eq_left hF.out]; rfl
            obtain ⟨oa5, oc5, e5, -, -⟩ := HO5.out.slice
            rw [hlen5] at e5
            subst e5
            have hbo : Below (w.heap.size + 2) ((wr.setCell ⟨w.heap.size + 1, b, none⟩ (.bool true)).alloc (.cells #[.int .i64 (b : Int)] 3)) w5 := Ir.own_below (HO2.out.alloc _) HG5.out (by simp; omega)
            have htj : t + 1 ≤ j := by have := HFN.out; omega
            go_roundg (j - (t + 1))
            case measure => omega
            case rel =>
              refine ⟨t + 1, oa5, oc5, rfl, by omega, by omega, Nat.le_refl _, by omega, htF, ?_, ?_, ?_, ?_, ?_⟩
              · show V.Own _ _ _ _ _ _
                rw [HSN.out]; exact HO5.out
              · refine (HST.out.1.alloc _).kept HG5.out (.inr fun e => ?_)
                have h2 : w.heap.size + 2 ≤ w.heap.size + 1 := (World.ownsRow.lt (HO2.out.alloc (.cells #[.int .i64 (b : Int)] 3)) _ e.symm).1
                omega
              · exact (hbo.block _ (by omega)).trans (box_alloc HXS.out)
              · exact (HBS.out.alloc (by simp; omega) _).trans (hbo.mono (by omega))
              · have := hbo.size
                simp at this
                omega
    · have htk : t = mk := by omega
      have HTK := Lib.hid htk
      clear htk
      go_wp2_with fail
      go_ret
      refine ⟨_, rfl, ?_, hb.out⟩
      have o := ho.out
      rw [HTK.out] at o
      rw [HTK.out]
      unfold nearL
      exact o.lower (by omega)
end Go.Proofs.Ytknbpnkonhniiaa.Ne
