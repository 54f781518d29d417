/- Ways: runs, the document's word: walked. -/
/- Networks: which are right. -/
/- Networks: which are right, walked. -/
import Derived.Test.YtlfbbahihenilaaGreatMhMtG
import Derived.Test.YtlfbbahihenilaaGreatMg02
import Derived.Test.YtlfbbahihenilaaGreatMg03
namespace Go.Proofs.YtlfbbahihenilaaGreat.Ne
open Go.RowKit Go.V Go.Proofs

theorem runs_prev {ss : List Int} {l : List Smp} : ∀ {k : Nat} {r : Rn}, (runsN ss l k).getLast? = some r → r.stop = ss.getD (k - 1) 0
  | 0, r, h => by simp [runsN] at h
  | k + 1, r, h => by
    rw [runsN] at h
    unfold runStep at h
    split at h
    · have e := last_snoc h
      rw [e]; rfl
    · split at h
      · next r' e' hs =>
        have e : (⟨r'.stop, r'.frm, (l.getD k default).t⟩ : Rn) = r := (last_snoc h).symm
        rw [← e]
        exact hs.symm
      · rw [last_snoc h]; rfl
theorem runs_pos {ss : List Int} {l : List Smp} : ∀ {k : Nat}, 0 < k → (runsN ss l k) ≠ []
  | 0, h => absurd h (Nat.lt_irrefl _)
  | k + 1, _ => by
    rw [runsN]
    unfold runStep
    split
    · simp
    · split <;> simp
theorem set_last {R : List Rn} {r : Rn} {t : Int} : ((R ++ [r]).flatMap Rn.cod.enc).set (R.length * 3 + 2) (.int .i64 t) = (R ++ [(⟨r.stop, r.frm, t⟩ : Rn)]).flatMap Rn.cod.enc := by
  rw [List.flatMap_append, List.flatMap_append, List.set_append_right _ _ (by rw [flat_len]; show _ ≤ _; show R.length * 3 ≤ _; omega)]
  congr 1
  rw [flat_len]
  show List.set _ (R.length * 3 + 2 - R.length * 3) _ = _
  rw [show R.length * 3 + 2 - R.length * 3 = 2 by omega]
  rfl

set_option maxHeartbeats 8000000 in
set_option maxRecDepth 100000 in
theorem rruns_any (sa : Option Addr) (n sc : Nat) (ss : List Int) (la : Option Addr) (lc : Nat) (l : List Smp) (w : World) (hn : n ≤ 2048)
    (hs : Sl icod w sa n sc ss) (hl : Sl Smp.cod w la n lc l) (hss : ∀ s ∈ ss, 0 ≤ s ∧ s < 4096) (hr : rightS l = true) :
    Calls Tryz.prog 26 #[.slice sa n sc, .slice la n lc] w fun e w' => ∃ v, e = .returned (.tuple #[v, .int .i64 0]) ∧ V.Own 57 Rn.cod w.heap.size w' v (runsE ss l) ∧ Below w.heap.size w w' := by
  have HNL : Hid (n = l.length) := hl.hlen
  have HNS : Hid (n = ss.length) := hs.hlen
  have HS := Lib.hid hs
  have HL := Lib.hid hl
  have HSS := Lib.hid hss
  have HRR := Lib.hid hr
  have h2048 : decide ((2048 : Int) < (n : Int)) = false := decide_eq_false (by omega)
  have mixed : Tryz.prog.follows .mixedOrders = true := by kernel_rfl
  clear hs hl hss hr
  go_enter Tryz.func26, Tryz.ntmps26
  go_wp2_with (go_at_call 59; go_fit (right06_any la n lc l _ hn HL.out); rintro e w2 ⟨rfl, hb2⟩; rw [HRR.out]; have HB2 := Lib.hid hb2; clear hb2)
  have HS2 := Lib.hid (HS.out.below HB2.out)
  have HL2 := Lib.hid (HL.out.below HB2.out)
  go_loopw [6, 7] (fun ov0 iv wr => ∃ (i : Nat) (ov : Value), ov = ov0 ∧ iv = .int .i64 i ∧ i ≤ n ∧ Hid (V.Own 57 Rn.cod w2.heap.size wr ov (runsN ss l i) ∧ Below w2.heap.size w2 wr)) (fun _ iv _ => n - (intOf iv).toNat)
  case atStart => exact ⟨0, _, rfl, rfl, Nat.zero_le _, Own.nil, Below.refl _ _⟩
  case round =>
    obtain ⟨i, ov, rfl, rfl, hi, hrel⟩ := hrel
    have HO : Hid (V.Own 57 Rn.cod w2.heap.size wr ov (runsN ss l i)) := hrel.out.1
    have HB : Hid (Below w2.heap.size w2 wr) := hrel.out.2
    clear hrel
    by_cases hlt : i < n
    · have hltz : (i : Int) < (n : Int) := by omega
      obtain ⟨b, off, ⟨st, sx, sy⟩, rfl, hbl, hrr, c0w, -, -⟩ := smp_at HL2.out hlt
      obtain ⟨sb, so, sv, rfl, hsb, hsv, s0w⟩ := int_at HS2.out hlt
      have HK : Hid (∀ w', Below w2.heap.size w2 w' → w'.cell? ⟨sb, so + i, none⟩ = some (.int .i64 sv) ∧ w'.cell? ⟨b, off + i * 3, none⟩ = some (.int .i64 st)) := fun w' hw' => ⟨(hw'.cell (p := ⟨sb, so + i, none⟩) hsb).trans s0w, (hw'.cell (p := ⟨b, off + i * 3, none⟩) hbl).trans c0w⟩
      obtain ⟨s0, c0⟩ := HK.out _ HB.out
      have hsr := HSS.out _ (List.mem_of_getElem? hsv)
      have hd1 : decide (sv < 0) = false := decide_eq_false (by omega)
      have hd2 : decide (4095 < sv) = false := decide_eq_false (by omega)
      have HSV : Hid (ss.getD i 0 = sv) := by show _ = _; rw [List.getD_eq_getElem?_getD, hsv]; rfl
      have HRV : Hid ((l.getD i default).t = st) := by show _ = _; rw [List.getD_eq_getElem?_getD, hrr]; rfl
      have HST : Hid (runsN ss l (i + 1) = runStep (runsN ss l i) sv st) := by show _ = _; rw [runsN, HSV.out, HRV.out]
      obtain ⟨OL, hOL⟩ : ∃ O, runsN ss l i = O := ⟨_, rfl⟩
      have hol : OL.length ≤ i := by
        rw [← hOL]
        have hlen := HNL.out
        have hlen2 := HNS.out
        exact (runsN_ok HRR.out HSS.out (by omega) i (by omega)).2.2
      rw [hOL] at HO HST
      have HOL := Lib.hid hOL
      have HM1 : Hid (OL.length + 1 ≤ maxLen) := by show _ ≤ _; unfold maxLen; omega
      have HM2 : Hid ((OL.length + 1) * 24 ≤ 140737488355328) := by show _ ≤ _; omega
      have hle : w2.heap.size ≤ wr.heap.size := HB.out.size
      have S0 := cell_regrown s0
      clear hOL hol hsr hsv hrr
      cases i with
      | zero =>
        have HNW : Hid (runsN ss l (0 + 1) = OL ++ [⟨sv, st, st⟩]) := by
          show _ = _
          rw [HST.out]
          exact runStep_new (fun r h => by rw [← HOL.out] at h; simp [runsN] at h)
        simp only [Nat.zero_mul, Nat.add_zero] at c0 s0 S0 HK
        go_upto_region 11 with fail
        refine wp_region_quiet_below (by assumption) (by kernel_rfl) ?_
        repeat (go_big_quiet_step (fail))
        refine wpQuiet_nil ?_
        intro w9 hw9
        obtain ⟨⟨nd, osq⟩, rfl⟩ := hw9
        have hbq : Below wr.heap.size wr (Go.Sort.grow (redrawn wr nd) osq) := below_regrown _ nd osq
        generalize Go.Sort.grow (redrawn wr nd) osq = w9 at hbq ⊢
        have HO9 := Lib.hid (HO.out.below hbq)
        have HB9 : Hid (Below w2.heap.size w2 w9) := HB.out.trans (hbq.mono HB.out.size)
        obtain ⟨f1, f2⟩ := HK.out _ HB9.out
        have hle9 : w2.heap.size ≤ w9.heap.size := HB9.out.size
        clear hbq
        clear s0 S0 c0
        go_upto_region 13 with fail
        go_region_held3 (fun w' => w'.cell? ⟨sb, so, none⟩ = some (.int .i64 sv) ∧ w'.cell? ⟨b, off, none⟩ = some (.int .i64 st)) (first | exact HK.out _ HB9.out | exact HK.out _ (HB9.out.trans (Below.drew (Below.refl _ _))) | exact HK.out _ (HB9.out.trans (Below.drew ((Below.refl _ _).alloc HB9.out.size _))) | exact HKK.out) (first | (refine step_app_at eltRn rfl (.tmp 64) (.tmp 80) rfl ov OL (by rfl) (HO9.out.below (Below.drew ((Below.refl _ _).alloc (Nat.le_refl _) _))) ⟨w9.heap.size, 0, none⟩ 1 1 [(⟨sv, st, st⟩ : Rn)] (by rfl) ((sl_new (c := Rn.cod) w9 #[.int .i64 sv, .int .i64 st, .int .i64 st] 57 [(⟨sv, st, st⟩ : Rn)] 1 rfl (by unfold maxLen; omega) rfl).below (Below.drew (Below.refl _ _))) HM1.out HM2.out (by show _ ≤ (w9.alloc _).heap.size; simp; omega) ?_; rintro v7 w7 ho7 hg7 -; have HO7 := Lib.hid ho7; have HB7 : Hid (Below w2.heap.size w2 w7) := (HB9.out.trans (Below.drew ((Below.refl _ _).alloc HB9.out.size _))).trans (Ir.own_below (HO9.out.below (Below.drew ((Below.refl _ _).alloc (Nat.le_refl _) _))) hg7 (by show _ ≤ (w9.alloc _).heap.size; simp; omega)); have HKK := Lib.hid (HK.out _ HB7.out); clear ho7 hg7))
        all_goals
          go_wp2_with fail
          go_roundw
          case rel => exact ⟨0 + 1, _, rfl, by go_num, by omega, by rw [HNW.out]; exact HO7.out, HB7.out⟩
          case measure => simp [intOf]; omega
      | succ j =>
        obtain ⟨sb', so', sp, hsc, -, hsp, p0⟩ := int_at (HS2.out.below HB.out) (i := j) (by omega)
        cases hsc
        have P0 := cell_regrown p0
        have HSP : Hid (ss.getD j 0 = sp) := by show _ = _; rw [List.getD_eq_getElem?_getD, hsp]; rfl
        have r1 : IntKind.i64.wrap ((↑(j + 1) : Int) - 1) = (j : Int) := by rw [IntKind.wrap_i64]; omega
        have b2 : (j : Int) < (n : Int) := by omega
        have b3 : (0 : Int) < (↑(j + 1) : Int) := by omega
        have b4 : (0 : Int) ≤ (j : Int) + 1 := by omega
        have b5 : ((j : Int) + 1).toNat = j + 1 := by omega
        have b6 : (j : Int) + 1 < (n : Int) := by omega
        have HNE : Hid (OL ≠ []) := by show _ ≠ _; rw [← HOL.out]; exact runs_pos (Nat.succ_pos _)
        clear hsp
        by_cases hse : sv = sp
        · subst hse
          obtain ⟨R0, r, hRr⟩ : ∃ (R0 : List Rn) (r : Rn), OL = R0 ++ [r] := ⟨OL.dropLast, OL.getLast HNE.out, (List.dropLast_concat_getLast HNE.out).symm⟩
          have hrs : r.stop = sv := by
            have := runs_prev (ss := ss) (l := l) (k := j + 1) (r := r) (by rw [HOL.out, hRr, List.getLast?_concat])
            rw [this]
            exact HSP.out
          have HNW : Hid (runsN ss l (j + 1 + 1) = R0 ++ [⟨r.stop, r.frm, st⟩]) := by
            show _ = _
            rw [HST.out, hRr, ← hrs]
            exact runStep_same
          have HRS := Lib.hid hRr
          have hl1 : OL.length = R0.length + 1 := by rw [hRr, List.length_append]; rfl
          have hwl : IntKind.i64.wrap ((OL.length : Int) - 1) = (R0.length : Int) := by rw [IntKind.wrap_i64]; unfold maxLen at *; have := HM2.out; omega
          have hll : (R0.length : Int) < (OL.length : Int) := by omega
          obtain ⟨oa, oc, hov, hos, hog⟩ := HO.out.slice
          have hoa : ∃ g, oa = some ⟨g, 0, none⟩ ∧ w2.heap.size ≤ g ∧ ∃ cur, wr.heap[g]? = some (.cells cur 57 (0, 0)) := by
            cases hoa : oa with
            | none => exact absurd (List.eq_nil_of_length_eq_zero (hos.hnil hoa).1) HNE.out
            | some d => obtain ⟨g, cur, e1, e2, e3⟩ := hog d hoa; exact ⟨g, by rw [e1], e2, cur, e3⟩
          obtain ⟨og, rfl, hgb, cur, hgc⟩ := hoa
          subst hov
          have hput := fun (W : World) (h : V.Own 57 Rn.cod w2.heap.size W (.slice (some ⟨og, 0, none⟩) OL.length oc) OL) => Own.put h rfl (R0.length * 3 + 2) (.int .i64 st) (R0 ++ [⟨r.stop, r.frm, st⟩]) (by rw [hl1, List.length_append]; rfl) (by rw [hRr]; exact set_last)
          have HPUT := Lib.hid hput
          clear hl1 hos hog hgc hrs
          go_upto_region 11 with fail
          refine wp_region_quiet_below (by assumption) (by kernel_rfl) ?_
          repeat (go_big_quiet_step (fail))
          refine wpQuiet_nil ?_
          intro w9 hw9
          obtain ⟨⟨nd, osq⟩, rfl⟩ := hw9
          have hbq : Below wr.heap.size wr (Go.Sort.grow (redrawn wr nd) osq) := below_regrown _ nd osq
          generalize Go.Sort.grow (redrawn wr nd) osq = w9 at hbq ⊢
          have HO9 := Lib.hid (HO.out.below hbq)
          have HB9 : Hid (Below w2.heap.size w2 w9) := HB.out.trans (hbq.mono HB.out.size)
          obtain ⟨f1, f2⟩ := HK.out _ HB9.out
          have hle9 : w2.heap.size ≤ w9.heap.size := HB9.out.size
          clear hbq
          have hfz : w9.frozen? ⟨og, R0.length * 3 + 2, none⟩ = false := (Own.at HO9.out rfl (i := R0.length) (x := r) (by rw [HRS.out, List.getElem?_append_right (Nat.le_refl _), Nat.sub_self]; rfl)).2 _
          have hex := (Own.at HO9.out rfl (i := R0.length) (x := r) (by rw [HRS.out, List.getElem?_append_right (Nat.le_refl _), Nat.sub_self]; rfl)).1 2 _ rfl
          have hex : w9.cell? ⟨og, R0.length * 3 + 2, none⟩ = some (.int .i64 r.til) := hex
          clear s0 S0 c0 p0 P0 hput hRr
          go_wp2_with fail
          go_roundw
          case rel =>
            obtain ⟨p1, p2⟩ := HPUT.out _ HO9.out
            have hl2 : (R0 ++ [(⟨r.stop, r.frm, st⟩ : Rn)]).length = OL.length := by rw [HRS.out, List.length_append, List.length_append]; rfl
            exact ⟨j + 1 + 1, _, rfl, by go_num, by omega, by rw [HNW.out]; exact p1, HB9.out.trans (Ir.own_below HO9.out p2 hle9)⟩
          case measure => simp [intOf]; omega
        · have hsd : (sv == sp) = false := by simpa using hse
          have HNW : Hid (runsN ss l (j + 1 + 1) = OL ++ [⟨sv, st, st⟩]) := by
            show _ = _
            rw [HST.out]
            refine runStep_new (fun r h => ?_)
            have := runs_prev (ss := ss) (l := l) (k := j + 1) (r := r) (by rw [HOL.out, h])
            rw [this]
            show sv ≠ ss.getD j 0
            rw [HSP.out]
            exact hse
          go_upto_region 11 with fail
          refine wp_region_quiet_below (by assumption) (by kernel_rfl) ?_
          repeat (go_big_quiet_step (fail))
          refine wpQuiet_nil ?_
          intro w9 hw9
          obtain ⟨⟨nd, osq⟩, rfl⟩ := hw9
          have hbq : Below wr.heap.size wr (Go.Sort.grow (redrawn wr nd) osq) := below_regrown _ nd osq
          generalize Go.Sort.grow (redrawn wr nd) osq = w9 at hbq ⊢
          have HO9 := Lib.hid (HO.out.below hbq)
          have HB9 : Hid (Below w2.heap.size w2 w9) := HB.out.trans (hbq.mono HB.out.size)
          obtain ⟨f1, f2⟩ := HK.out _ HB9.out
          have hle9 : w2.heap.size ≤ w9.heap.size := HB9.out.size
          clear hbq
          clear s0 S0 c0 p0 P0
          go_upto_region 13 with fail
          go_region_held3 (fun w' => w'.cell? ⟨sb, so + (j + 1), none⟩ = some (.int .i64 sv) ∧ w'.cell? ⟨b, off + (j + 1) * 3, none⟩ = some (.int .i64 st)) (first | exact HK.out _ HB9.out | exact HK.out _ (HB9.out.trans (Below.drew (Below.refl _ _))) | exact HK.out _ (HB9.out.trans (Below.drew ((Below.refl _ _).alloc HB9.out.size _))) | exact HKK.out) (first | (refine step_app_at eltRn rfl (.tmp 64) (.tmp 80) rfl ov OL (by rfl) (HO9.out.below (Below.drew ((Below.refl _ _).alloc (Nat.le_refl _) _))) ⟨w9.heap.size, 0, none⟩ 1 1 [(⟨sv, st, st⟩ : Rn)] (by rfl) ((sl_new (c := Rn.cod) w9 #[.int .i64 sv, .int .i64 st, .int .i64 st] 57 [(⟨sv, st, st⟩ : Rn)] 1 rfl (by unfold maxLen; omega) rfl).below (Below.drew (Below.refl _ _))) HM1.out HM2.out (by show _ ≤ (w9.alloc _).heap.size; simp; omega) ?_; rintro v7 w7 ho7 hg7 -; have HO7 := Lib.hid ho7; have HB7 : Hid (Below w2.heap.size w2 w7) := (HB9.out.trans (Below.drew ((Below.refl _ _).alloc HB9.out.size _))).trans (Ir.own_below (HO9.out.below (Below.drew ((Below.refl _ _).alloc (Nat.le_refl _) _))) hg7 (by show _ ≤ (w9.alloc _).heap.size; simp; omega)); have HKK := Lib.hid (HK.out _ HB7.out); clear ho7 hg7))
          all_goals
            go_wp2_with fail
            go_roundw
            case rel => exact ⟨j + 1 + 1, _, rfl, by go_num, by omega, by rw [HNW.out]; exact HO7.out, HB7.out⟩
            case measure => simp [intOf]; omega
    · have hin : i = n := by omega
      have hid : decide ((i : Int) < (n : Int)) = false := decide_eq_false (by omega)
      have HIN := Lib.hid hin
      clear hin
      go_wp2_with fail
      go_ret2
      have hoo := HO.out
      rw [HIN.out, HNL.out] at hoo
      exact ⟨_, rfl, hoo.lower HB2.out.size, HB2.out.trans (HB.out.mono HB2.out.size)⟩
end Go.Proofs.YtlfbbahihenilaaGreat.Ne

namespace Go.Proofs.YtlfbbahihenilaaGreat.Ne
open Go.RowKit Go.V Go.Proofs

set_option maxHeartbeats 400000 in
theorem within_any (n lo hi : Int) (w : World) :
    Calls Tryz.prog 68 #[.int .i64 n, .int .i64 lo, .int .i64 hi] w fun e w' => e = .returned (.bool (wB n lo hi)) ∧ w = w' := by
  by_cases h1 : lo ≤ n
  all_goals
    go_enter Tryz.func68, Tryz.ntmps68
    go_wp2
    go_ret
    exact ⟨ret_bool (by unfold wB; rw [Bool.eq_iff_iff]; simp [*] <;> omega), rfl⟩
set_option maxHeartbeats 1000000 in
theorem check1_any (s : Stp) (w : World) :
    Calls Tryz.prog 70 #[s.val] w fun e w' => e = .returned (.bool (!stpB s)) ∧ Below w.heap.size w w' := by
  obtain ⟨bb, hbb⟩ : ∃ bb, mayB s.x s.y = bb := ⟨_, rfl⟩
  have HBB := Lib.hid hbb
  clear hbb
  unfold Stp.val
  go_enter Tryz.func70, Tryz.ntmps70
  go_wp2_with (go_at_call 71; refine (may_any _ _ _).mono ?_; rintro e w' ⟨rfl, rfl⟩; rw [HBB.out])
  go_ret
  exact ⟨ret_bool (by rw [← HBB.out]; rfl), (Below.refl _ _).alloc (Nat.le_refl _) _⟩

set_option maxHeartbeats 1000000 in
theorem sindex_any (a : Option Addr) (n cap : Nat) (xs : List Stp) (w : World) (hn : n ≤ 1000000) (h : Sl Stp.cod w a n cap xs) :
    Calls Tryz.prog 94 #[.slice a n cap, .func (.func 70) #[] #[]] w fun e w' => ∃ i : Int, e = .returned (.int .i64 i) ∧ (xs.all stpB = true → i = -1) ∧ (xs.all stpB = false → 0 ≤ i ∧ i ≤ 1000000) ∧ Below w.heap.size w w' := by
  have hN := Lib.hid h.hlen
  go_enter Tryz.func94, Tryz.ntmps94
  go_wp2_with fail
  go_loopw [8] (fun i wr => ∃ k : Nat, i = .int .i64 k ∧ k ≤ n ∧ Hid ((xs.take k).all stpB = true) ∧ Hid (Below w.heap.size w wr)) (fun i _ => n - (intOf i).toNat)
  case atStart => exact ⟨0, rfl, by omega, rfl, Below.refl _ _⟩
  case round =>
    obtain ⟨k, rfl, hk, hall, hB⟩ := hrel
    by_cases hlt : k < n
    · obtain ⟨b, off, r, rfl, hbl, hr, c0, c1⟩ := stp_at (h.below hB.out) hlt
      have HR := Lib.hid hr
      obtain ⟨bb, hbb⟩ : ∃ bb, stpB r = bb := ⟨_, rfl⟩
      have HBB := Lib.hid hbb
      clear hr hbb
      have e0 : (Value.agg #[.int .i64 r.x, .int .i64 r.y]) = r.val := rfl
      cases bb with
      | true =>
        go_wp2_with (go_at_call 70; refine (check1_any r _).mono ?_; rintro e w1 ⟨rfl, hb1⟩; rw [HBB.out]; have HB1 := Lib.hid (hB.out.trans (hb1.mono hB.out.size)); clear hb1)
        go_roundw
        case rel => exact ⟨k + 1, by go_num, by omega, by show _ = _; rw [take_at HR.out, List.all_append, hall.out]; simp [HBB.out], HB1.out⟩
        case measure => simp [intOf]; omega
      | false =>
        go_wp2_with (go_at_call 70; refine (check1_any r _).mono ?_; rintro e w1 ⟨rfl, hb1⟩; rw [HBB.out]; have HB1 := Lib.hid (hB.out.trans (hb1.mono hB.out.size)); clear hb1)
        go_ret
        refine ⟨_, rfl, fun hh => ?_, fun _ => by omega, HB1.out⟩
        have := List.all_eq_true.1 hh r (List.mem_of_getElem? HR.out)
        rw [HBB.out] at this; cases this
    · have hk' : k = n := by omega
      subst hk'
      go_wp2_with fail
      go_ret
      refine ⟨-1, rfl, fun _ => rfl, fun hh => ?_, hB.out⟩
      have := hall.out
      rw [List.take_of_length_le (by have := hN.out; omega), hh] at this; cases this

set_option maxHeartbeats 1000000 in
theorem scontains_any (a : Option Addr) (n cap : Nat) (xs : List Stp) (w : World) (hn : n ≤ 1000000) (h : Sl Stp.cod w a n cap xs) :
    Calls Tryz.prog 69 #[.slice a n cap, .func (.func 70) #[] #[]] w fun e w' => e = .returned (.bool (!xs.all stpB)) ∧ Below w.heap.size w w' := by
  go_enter Tryz.func69, Tryz.ntmps69
  obtain ⟨bb, hbb⟩ : ∃ bb, xs.all stpB = bb := ⟨_, rfl⟩
  rw [hbb]
  have HBB := Lib.hid hbb
  clear hbb
  cases bb with
  | true =>
    go_wp2_with (go_at_call 94; refine (sindex_any a n cap xs w hn h).mono ?_; rintro e w1 ⟨i, rfl, h1, -, hb1⟩; rw [h1 HBB.out]; have HB1 := Lib.hid hb1; clear hb1 h1)
    go_ret
    exact ⟨rfl, HB1.out⟩
  | false =>
    go_wp2_with (go_at_call 94; refine (sindex_any a n cap xs w hn h).mono ?_; rintro e w1 ⟨i, rfl, -, h1, hb1⟩; obtain ⟨h2, h3⟩ := h1 HBB.out; have HB1 := Lib.hid hb1; clear hb1)
    go_ret
    exact ⟨ret_bool (by simp), HB1.out⟩

/-! ### The order of links -/
theorem aft_cmp (x y : Lnk) : decide ((if cmpI x.a y.a = 0 then cmpI x.b y.b else cmpI x.a y.a) < 0) = aftB x y := by
  unfold aftB cmpI
  rw [Bool.eq_iff_iff]
  simp only [decide_eq_true_eq]
  (repeat' split) <;> omega

set_option maxHeartbeats 1000000 in
set_option maxRecDepth 100000 in
theorem after_any (x y : Lnk) (w : World) :
    Calls Tryz.prog 72 #[lval x, lval y] w fun e w' => e = .returned (.bool (aftB x y)) ∧ Below w.heap.size w w' := by
  obtain ⟨c1, hc1⟩ : ∃ c, cmpI x.a y.a = c := ⟨_, rfl⟩
  obtain ⟨c2, hc2⟩ : ∃ c, cmpI x.b y.b = c := ⟨_, rfl⟩
  obtain ⟨r, hr⟩ : ∃ r, (if c1 = 0 then c2 else c1) = r := ⟨_, rfl⟩
  have HA : Hid (decide (r < 0) = aftB x y) := by
    show _ = _
    rw [← hr, ← hc1, ← hc2]; exact aft_cmp x y
  have HC : Hid (cmpI x.a y.a = c1 ∧ cmpI x.b y.b = c2 ∧ (if c1 = 0 then c2 else c1) = r) := ⟨hc1, hc2, hr⟩
  clear hc1 hc2 hr
  have mixed : Tryz.prog.follows .mixedOrders = true := by kernel_rfl
  unfold lval
  go_enter Tryz.func72, Tryz.ntmps72
  go_wp2_with fail
  have HB0 : Hid (Below w.heap.size w ((w.alloc (.cells #[.int .i64 x.a, .int .i64 x.b, .int .i64 x.w] 121)).alloc (.cells #[.int .i64 y.a, .int .i64 y.b, .int .i64 y.w] 121))) := ((Below.refl _ _).alloc (Nat.le_refl _) _).alloc (by simp) _
  have HX0 := Lib.hid (box_alloc (o := .cells #[.int .i64 y.a, .int .i64 y.b, .int .i64 y.w] 121) (box_new w (.cells #[.int .i64 x.a, .int .i64 x.b, .int .i64 x.w] 121)))
  have HY0 := Lib.hid (box_new (w.alloc (.cells #[.int .i64 x.a, .int .i64 x.b, .int .i64 x.w] 121)) (.cells #[.int .i64 y.a, .int .i64 y.b, .int .i64 y.w] 121))
  have hz : w.heap.size + 1 < ((w.alloc (.cells #[.int .i64 x.a, .int .i64 x.b, .int .i64 x.w] 121)).alloc (.cells #[.int .i64 y.a, .int .i64 y.b, .int .i64 y.w] 121)).heap.size := by simp
  obtain ⟨W, hW⟩ : ∃ W, (w.alloc (.cells #[.int .i64 x.a, .int .i64 x.b, .int .i64 x.w] 121)).alloc (.cells #[.int .i64 y.a, .int .i64 y.b, .int .i64 y.w] 121) = W := ⟨_, rfl⟩
  rw [World.size_alloc] at HY0
  rw [hW] at HB0 HX0 HY0 hz ⊢
  clear hW
  obtain ⟨u0, u1, u2, -, -, -⟩ := box3_cells HX0.out
  obtain ⟨v0, v1, v2, -, -, -⟩ := box3_cells HY0.out
  have hb := HB0.out.size
  have hd : ∀ a, W.drew.cell? a = W.cell? a := fun a => rfl
  go_still_tail 10, (by kernel_rfl)
  still_call ((cmpI_any _ _ _).mono fun _ _ hh => ⟨hh.1, hh.2.symm⟩)
  repeat still_step
  still_call ((cmpI_any _ _ _).mono fun _ _ hh => ⟨hh.1, hh.2.symm⟩)
  repeat still_step
  refine wpStill_nil ?_
  change wpList _ _ _ _ _ W.drew
  rw [HC.out.1, HC.out.2.1]
  have HB1 : Hid (Below w.heap.size w W.drew) := Below.drew HB0.out
  have hb1 := HB1.out.size
  clear hd u0 u1 u2 v0 v1 v2
  generalize W.drew = w2 at HB1 hb1 ⊢
  go_wp2_with (go_at_call 95; refine (or_any c1 c2 _ _ (by simp [go_sem]) (by simp [go_sem])).mono ?_; rintro e w1 ⟨rfl, rfl⟩; rw [HC.out.2.2])
  go_ret
  exact ⟨ret_bool HA.out, HB1.out.alloc hb1 _⟩
end Go.Proofs.YtlfbbahihenilaaGreat.Ne

namespace Go.Proofs.YtlfbbahihenilaaGreat.Ne
open Go.RowKit Go.V Go.Proofs

/-- May a link stand here? -/
def stepB (k : Nat) (L : List Lnk) (i : Nat) (l : Lnk) : Bool := lnkB k l && (match prv L i with | none => true | some p => aftB p l)
theorem linksB_at {k : Nat} {L : List Lnk} {i : Nat} {l : Lnk} (h : L[i]? = some l) : linksB k (prv L i) (L.drop i) = (stepB k L i l && linksB k (prv L (i + 1)) (L.drop (i + 1))) := by
  rw [drop_at h]
  have e : prv L (i + 1) = some l := h
  rw [e]
  unfold stepB
  cases prv L i with
  | none => simp [linksB]
  | some p => simp [linksB]
theorem step_bad {k : Nat} {L : List Lnk} {i : Nat} {l : Lnk} (h : lnkB k l = false) : stepB k L i l = false := by unfold stepB; rw [h]; rfl
theorem step_first {k : Nat} {L : List Lnk} {l : Lnk} (h : lnkB k l = true) : stepB k L 0 l = true := by unfold stepB; rw [h]; rfl
theorem step_next {k : Nat} {L : List Lnk} {i : Nat} {l p : Lnk} (h : lnkB k l = true) (hp : L[i]? = some p) : stepB k L (i + 1) l = aftB p l := by
  unfold stepB
  have : prv L (i + 1) = some p := hp
  rw [h, this]; rfl
theorem within_t (n lo hi : Int) (w : World) (h : wB n lo hi = true) : Calls Tryz.prog 68 #[.int .i64 n, .int .i64 lo, .int .i64 hi] w fun e w' => e = .returned (.bool true) ∧ Below w.heap.size w w' :=
  (within_any n lo hi w).mono fun _ _ ⟨h1, h2⟩ => ⟨by rw [h1, h], h2 ▸ Below.refl _ _⟩
theorem within_f (n lo hi : Int) (w : World) (h : wB n lo hi = false) : Calls Tryz.prog 68 #[.int .i64 n, .int .i64 lo, .int .i64 hi] w fun e w' => e = .returned (.bool false) ∧ Below w.heap.size w w' :=
  (within_any n lo hi w).mono fun _ _ ⟨h1, h2⟩ => ⟨by rw [h1, h], h2 ▸ Below.refl _ _⟩
theorem after_b (x y : Lnk) (w : World) (b : Bool) (h : aftB x y = b) : Calls Tryz.prog 72 #[lval x, lval y] w fun e w' => e = .returned (.bool b) ∧ Below w.heap.size w w' :=
  (after_any x y w).mono fun _ _ ⟨h1, h2⟩ => ⟨by rw [h1, h], h2⟩
theorem lnk_cases (k : Nat) (l : Lnk) : (lnkB k l = false ∧ (l.a < 0 ∨ (0 ≤ l.a ∧ l.b ≤ l.a) ∨ (0 ≤ l.a ∧ l.a < l.b ∧ (k : Int) ≤ l.b) ∨ (0 ≤ l.a ∧ l.a < l.b ∧ l.b < k ∧ wB l.w 1 1048575 = false))) ∨ (lnkB k l = true ∧ 0 ≤ l.a ∧ l.a < l.b ∧ l.b < k ∧ wB l.w 1 1048575 = true) := by
  unfold lnkB wB
  simp only [decide_eq_true_eq, decide_eq_false_iff_not]
  omega

set_option maxHeartbeats 4000000 in
set_option maxRecDepth 100000 in
theorem check_any (n : Net) (hs hl : Hdr) (w : World) (hm : hs.n ≤ 1000000 ∧ hl.n ≤ 1000000) (h : NetIn w n hs hl) :
    Calls Tryz.prog 35 #[n.val hs hl] w fun e w' => e = .returned (.int .i64 (checkE n)) ∧ Below w.heap.size w w' := by
  obtain ⟨m1, m2⟩ := hm
  have HNS := Lib.hid h.s.hlen
  have HNL := Lib.hid h.l.hlen
  have TB0 : Hid (NetBox (w.alloc (n.box hs hl)) w.heap.size n hs hl) := box_new _ _
  have B0 : Hid (Below w.heap.size w (w.alloc (n.box hs hl))) := (Below.refl _ _).alloc (Nat.le_refl _) _
  unfold Net.box at TB0 B0
  obtain ⟨r1, e1⟩ : ∃ r, wB n.ver 1 1048576 = r := ⟨_, rfl⟩
  obtain ⟨r2, e2⟩ : ∃ r, n.stops.all stpB = r := ⟨_, rfl⟩
  obtain ⟨r3, e3⟩ : ∃ r, linksB n.stops.length none n.links = r := ⟨_, rfl⟩
  have hnet : netB n = (r1 && r2 && r3) := by unfold netB; rw [e1, e2, e3]
  have HNET := Lib.hid hnet
  have HE : Hid (wB n.ver 1 1048576 = r1 ∧ n.stops.all stpB = r2 ∧ linksB n.stops.length none n.links = r3) := ⟨e1, e2, e3⟩
  clear hnet e1 e2 e3
  unfold Net.val
  go_enter Tryz.func35, Tryz.ntmps35
  by_cases hbig : hs.n ≤ 4096 ∧ hl.n ≤ 16384
  case neg =>
    have hce : checkE n = 3 := by unfold checkE; rw [if_neg (by rw [← HNS.out, ← HNL.out]; exact hbig)]
    have HCE := Lib.hid hce
    clear hce
    by_cases q1 : hs.n ≤ 4096
    · have q2 : ¬ hl.n ≤ 16384 := fun hh => hbig ⟨q1, hh⟩
      clear hbig
      go_wp2_with fail
      go_ret
      exact ⟨by rw [HCE.out]; rfl, B0.out⟩
    · clear hbig
      go_wp2_with fail
      go_ret
      exact ⟨by rw [HCE.out]; rfl, B0.out⟩
  case pos =>
    obtain ⟨q1, q2⟩ := hbig
    have hcz : checkE n = if (r1 && r2 && r3) = true then 0 else 2 := by
      unfold checkE
      rw [if_pos (by rw [← HNS.out, ← HNL.out]; exact ⟨q1, q2⟩), HNET.out]
    have HCZ := Lib.hid hcz
    have u1 : ¬ 4096 < hs.n := by omega
    have u2 : ¬ 16384 < hl.n := by omega
    clear hcz
    go_upto_region 3 with fail
    go_cut [3] (fun v wx => v = .bool (!(r1 && r2)) ∧ Hid (NetBox wx w.heap.size n hs hl) ∧ Hid (Below w.heap.size w wx))
    case first =>
      obtain ⟨kk, k0, k1, k2⟩ := TB0.out.cells
      cases r1 with
      | false =>
        go_wp2_with (go_at_call 68; refine (within_any _ _ _ _).mono ?_; rintro e w' ⟨rfl, rfl⟩; rw [HE.out.1])
        go_meet
        exact ⟨by simp, TB0.out, B0.out⟩
      | true =>
        go_wp2_with (first
          | (go_at_call 68; refine (within_any _ _ _ _).mono ?_; rintro e w' ⟨rfl, rfl⟩; rw [HE.out.1])
          | (go_at_call 69; refine (scontains_any hs.a hs.n hs.cap n.stops _ m1 (h.s.below B0.out)).mono ?_; rintro e w1 ⟨rfl, hb1⟩; rw [HE.out.2.1]; have TB1 := Lib.hid (TB0.out.below hb1); have HB1 := Lib.hid (B0.out.trans (hb1.mono B0.out.size)); clear hb1))
        go_meet
        exact ⟨by simp, TB1.out, HB1.out⟩
    obtain ⟨rfl, TB, HB⟩ := hcut
    obtain ⟨W1, hW1⟩ : ∃ W1 : World, W1 = wc := ⟨_, rfl⟩
    subst hW1
    obtain ⟨pb, hpb⟩ : ∃ pb, (r1 && r2) = pb := ⟨_, rfl⟩
    rw [hpb] at HCZ ⊢
    clear hpb HNET
    have hsb := HB.out.size
    obtain ⟨kk, k0, k1, k2⟩ := TB.out.cells
    have mixed : Tryz.prog.follows .mixedOrders = true := by kernel_rfl
    have HLN : Hid (r3 = linksB n.stops.length none n.links) := HE.out.2.2.symm
    obtain ⟨wo, hwo⟩ : ∃ wo : World, wo = w := ⟨_, rfl⟩
    clear hwo wo
    go_upto_block 0 with fail
    go_cut [3] (fun v wx => v = .bool (!(pb && r3)) ∧ Hid (Below w.heap.size w wx))
    case first =>
      go_wp2_with fail
      go_loopw [3, 28] (fun v i wr => ∃ k : Nat, i = .int .i64 k ∧ k ≤ hl.n ∧ v = .bool (!pb) ∧ Hid (r3 = linksB n.stops.length (prv n.links k) (n.links.drop k)) ∧ Hid (NetBox wr w.heap.size n hs hl) ∧ Hid (Below w.heap.size w wr)) (fun _ i _ => hl.n - (intOf i).toNat)
      case atStart => exact ⟨0, rfl, by omega, rfl, HLN.out, TB.out, HB.out⟩
      case round =>
        obtain ⟨k, rfl, hk, rfl, hgo, TR, HR⟩ := hrel
        clear kk k0 k1 k2
        obtain ⟨kk, k0, k1, k2⟩ := TR.out.cells
        have hsr := HR.out.size
        by_cases hlt : k < hl.n
        · obtain ⟨b, off, l, ha, hbl, hr, c0, c1, c2⟩ := lnk_at (h.l.below HR.out) hlt
          have HLA := Lib.hid ha
          have HRR := Lib.hid hr
          have hst := linksB_at (k := n.stops.length) hr
          rw [← HNS.out] at hst
          have hgo2 := hgo.out
          rw [← HNS.out, hst] at hgo2
          have HGO := Lib.hid hgo2
          have b0 : (k : Int) < (hl.n : Int) := by omega
          have TBX := Lib.hid (TR.out.alloc (.cells #[.int .i64 l.a, .int .i64 l.b, .int .i64 l.w] 121))
          have HBX := Lib.hid (HR.out.alloc hsr (.cells #[.int .i64 l.a, .int .i64 l.b, .int .i64 l.w] 121))
          have HLX := Lib.hid (box_new wr (.cells #[.int .i64 l.a, .int .i64 l.b, .int .i64 l.w] 121))
          obtain ⟨W2, hW2⟩ : ∃ W2, wr.alloc (.cells #[.int .i64 l.a, .int .i64 l.b, .int .i64 l.w] 121) = W2 := ⟨_, rfl⟩
          obtain ⟨ok, hok⟩ : ∃ ok, stepB hs.n n.links k l = ok := ⟨_, rfl⟩
          have HOK := Lib.hid hok
          clear hr hst hgo2 hok
          rw [ha] at k2
          rw [hW2] at TBX HBX HLX
          go_upto_region 7 with fail
          have hbig := HBX.out.size
          clear hW2 c0 c1 c2 kk k0 k1 k2
          obtain ⟨kk, k0, k1, k2⟩ := TBX.out.cells
          obtain ⟨x0, x1, x2, -, -, -⟩ := box3_cells HLX.out
          go_cut [71] (fun v wx => v = .bool (!ok) ∧ Hid (Below W2.heap.size W2 wx))
          case first =>
            have K1 := cell_regrown k1
            have K2 := cell_regrown k2
            have X0 := cell_regrown x0
            have X1 := cell_regrown x1
            have X2 := cell_regrown x2
            rcases lnk_cases hs.n l with ⟨hb, hc⟩ | ⟨hb, d1, d2, d3, d4⟩
            · obtain rfl : ok = false := by rw [← HOK.out]; exact step_bad hb
              clear hb HOK k0 k1 k2 x0 x1 x2
              rcases hc with d1 | ⟨d1, d2⟩ | ⟨d1, d2, d3⟩ | ⟨d1, d2, d3, d4⟩
              · refine wp_region_quiet_below (by assumption) (by kernel_rfl) ?_
                repeat (go_big_quiet_step (fail))
                refine wpQuiet_nil ?_
                intro w2 hw2
                obtain ⟨⟨nd, osq⟩, rfl⟩ := hw2
                go_wp2_with fail
                go_meet
                exact ⟨rfl, below_regrown W2 nd osq⟩
              · have d1' : decide (l.a < 0) = false := decide_eq_false (by omega)
                refine wp_region_quiet_below (by assumption) (by kernel_rfl) ?_
                repeat (go_big_quiet_step (fail))
                refine wpQuiet_nil ?_
                intro w2 hw2
                obtain ⟨⟨nd, osq⟩, rfl⟩ := hw2
                go_wp2_with fail
                go_meet
                exact ⟨rfl, below_regrown W2 nd osq⟩
              · have d1' : decide (l.a < 0) = false := decide_eq_false (by omega)
                have d2' : decide (l.b ≤ l.a) = false := decide_eq_false (by omega)
                refine wp_region_quiet_below (by assumption) (by kernel_rfl) ?_
                repeat (go_big_quiet_step (fail))
                refine wpQuiet_nil ?_
                intro w2 hw2
                obtain ⟨⟨nd, osq⟩, rfl⟩ := hw2
                go_wp2_with fail
                go_meet
                exact ⟨rfl, below_regrown W2 nd osq⟩
              · have d1' : decide (l.a < 0) = false := decide_eq_false (by omega)
                have d2' : decide (l.b ≤ l.a) = false := decide_eq_false (by omega)
                have d3' : decide ((hs.n : Int) ≤ l.b) = false := decide_eq_false (by omega)
                have D4 := Lib.hid d4
                clear d4
                refine wp_region_quiet_below (by assumption) (by kernel_rfl) ?_
                repeat (go_big_quiet_step ((go_at_call 68; exact Calls.regrown_of (within_f _ _ _ _ D4.out))))
                refine wpQuiet_nil ?_
                intro w2 hw2
                obtain ⟨⟨nd, osq⟩, rfl⟩ := hw2
                go_wp2_with fail
                go_meet
                exact ⟨rfl, below_regrown W2 nd osq⟩
            · have d1' : decide (l.a < 0) = false := decide_eq_false (by omega)
              have d2' : decide (l.b ≤ l.a) = false := decide_eq_false (by omega)
              have d3' : decide ((hs.n : Int) ≤ l.b) = false := decide_eq_false (by omega)
              have D4 := Lib.hid d4
              have HLB := Lib.hid hb
              clear d4 hb
              cases k with
              | zero =>
                obtain rfl : ok = true := by rw [← HOK.out]; exact step_first HLB.out
                clear HOK k0 k1 k2 x0 x1 x2
                refine wp_region_quiet_below (by assumption) (by kernel_rfl) ?_
                repeat (go_big_quiet_step ((go_at_call 68; exact Calls.regrown_of (within_t _ _ _ _ D4.out))))
                refine wpQuiet_nil ?_
                intro w2 hw2
                obtain ⟨⟨nd, osq⟩, rfl⟩ := hw2
                go_wp2_with fail
                go_meet
                exact ⟨rfl, below_regrown W2 nd osq⟩
              | succ j =>
                obtain ⟨b', off', p, ha', hbl', hr', p0, p1, p2⟩ := lnk_at (h.l.below HBX.out) (show j < hl.n by omega)
                rw [HLA.out] at ha'
                cases ha'
                have P0 := cell_regrown p0
                have P1 := cell_regrown p1
                have P2 := cell_regrown p2
                have HA : Hid (aftB p l = ok) := (step_next HLB.out hr').symm.trans HOK.out
                have r2 : IntKind.i64.wrap (j : Int) = (j : Int) := by rw [IntKind.wrap_i64]; omega
                have g1 : (0 : Int) < (j : Int) + 1 := by omega
                have g2 : (j : Int) < (hl.n : Int) := by omega
                have g3 : (0 : Int) ≤ (j : Int) := by omega
                clear HOK k0 k1 k2 x0 x1 x2 p0 p1 p2 hr'
                rw [HLA.out] at K2
                refine wp_region_quiet_below (by assumption) (by kernel_rfl) ?_
                repeat (go_big_quiet_step (first | (go_at_call 68; exact Calls.regrown_of (within_t _ _ _ _ D4.out)) | (go_at_call 72; exact Calls.regrown_of (after_b p l _ ok HA.out))))
                refine wpQuiet_nil ?_
                intro w2 hw2
                obtain ⟨⟨nd, osq⟩, rfl⟩ := hw2
                go_wp2_with fail
                go_meet
                exact ⟨rfl, below_regrown W2 nd osq⟩
          obtain ⟨rfl, HQ⟩ := hcut
          have TQ := Lib.hid (TBX.out.below HQ.out)
          have HBQ : Hid (Below w.heap.size w wc) := HBX.out.trans (HQ.out.mono HBX.out.size)
          cases ok with
          | false =>
            go_wp2_with fail
            go_meet
            refine ⟨?_, HBQ.out⟩
            have := HGO.out
            rw [HOK.out] at this
            rw [this]; simp
          | true =>
            go_wp2_with fail
            go_roundw
            case rel => exact ⟨k + 1, by go_num, by omega, rfl, by have := HGO.out; rw [HOK.out] at this; rw [← HNS.out, this]; rfl, TQ.out, HBQ.out⟩
            case measure => simp [intOf]; omega
        · have hk' : k = hl.n := by omega
          have HK := Lib.hid hk'
          clear hk'
          go_wp2_with fail
          go_meet
          refine ⟨?_, HR.out⟩
          have : r3 = true := by
            rw [hgo.out, List.drop_of_length_le (by have := HK.out; have := HNL.out; omega)]
            cases prv n.links k <;> rfl
          rw [this]; simp
    obtain ⟨rfl, HZ⟩ := hcut
    obtain ⟨z, hz⟩ : ∃ z, (pb && r3) = z := ⟨_, rfl⟩
    rw [hz] at HCZ ⊢
    clear hz
    cases z with
    | false =>
      go_wp2_with fail
      go_ret
      exact ⟨by rw [HCZ.out]; rfl, HZ.out⟩
    | true =>
      go_wp2_with fail
      go_ret
      exact ⟨by rw [HCZ.out]; rfl, HZ.out⟩
end Go.Proofs.YtlfbbahihenilaaGreat.Ne
