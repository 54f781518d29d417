/- Ways: which samples are kept: walked. -/
/- Ways: the samples that are kept: walked. -/
import Derived.Test.YtlfbbahihenilaaGreatMg04
import Derived.Test.YtlfbbahihenilaaGreatMg05
import Derived.Test.YtlfbbahihenilaaGreatMg06
import Derived.ScopeJumps
import Derived.BigQuiet
import Derived.Deep.QuietTactic
import Derived.OwnWalk
namespace Go.Proofs.YtlfbbahihenilaaGreat.Ne
open Go.RowKit Go.V Go.Proofs

def keptI (f : Flt) (l : List Smp) : List Nat := if mayF f = true ∧ rightS l = true then keepI f l l.length else []
def lastI (L : List Nat) : Int := match L.getLast? with
  | none => -1
  | some j => j
theorem keepI_len (f : Flt) (l : List Smp) : ∀ k, (keepI f l k).length ≤ k
  | 0 => Nat.le_refl _
  | k + 1 => by
    have ih := keepI_len f l k
    unfold keepI
    split
    · rw [List.length_append]; simp; omega
    · split
      · rw [List.length_append]; simp; omega
      · omega
theorem keepI_none {f : Flt} {l : List Smp} {k : Nat} (h : (keepI f l k).getLast? = none) : keepI f l (k + 1) = keepI f l k ++ [k] := by
  rw [keepI, h]
theorem keepI_some {f : Flt} {l : List Smp} {k j : Nat} (h : (keepI f l k).getLast? = some j) : keepI f l (k + 1) = if okS f (l.getD j default) (l.getD k default) then keepI f l k ++ [k] else keepI f l k := by
  rw [keepI, h]
theorem lastI_snoc (L : List Nat) (k : Nat) : lastI (L ++ [k]) = k := by
  unfold lastI
  rw [List.getLast?_concat]

set_option maxHeartbeats 8000000 in
set_option maxRecDepth 100000 in
theorem csort_any (f : Flt) (a : Option Addr) (n cap : Nat) (l : List Smp) (w : World) (hn : n ≤ 2048) (h : Sl Smp.cod w a n cap l) :
    Calls Tryz.prog 49 #[f.val, .slice a n cap] w fun e w' => ∃ (ka : Option Addr) (kc : Nat) (v : Value), e = .returned (.tuple #[.slice ka (keptI f l).length kc, v, .int .i64 (keepErr f l)]) ∧ Sl icod w' ka (keptI f l).length kc ((keptI f l).map fun (j : Nat) => (j : Int)) ∧ Below w.heap.size w w' := by
  obtain ⟨sp, gp⟩ := f
  have HN := Lib.hid h.hlen
  have h2048 : decide ((2048 : Int) < (n : Int)) = false := decide_eq_false (by omega)
  have mixed : Tryz.prog.follows .mixedOrders = true := by kernel_rfl
  obtain ⟨w0, hw0⟩ : ∃ w0, w.alloc (Flt.mk sp gp).box = w0 := ⟨_, rfl⟩
  have HX0 : Hid (w0.heap[w.heap.size]? = some (.cells #[.int .i64 sp, .int .i64 gp] 27 (0, 0))) := by rw [← hw0]; exact box_new w _
  have HB0 : Hid (Below w.heap.size w w0) := by rw [← hw0]; exact (Below.refl _ _).alloc (Nat.le_refl _) _
  have hsz : w.heap.size < w0.heap.size := box_lt HX0.out
  have HS := Lib.hid (h.below HB0.out)
  obtain ⟨x0, x1, -, -⟩ := box2_cells HX0.out
  clear h
  obtain ⟨b1, e1⟩ : ∃ b, mayF ⟨sp, gp⟩ = b := ⟨_, rfl⟩
  have E1 := Lib.hid e1
  clear e1
  cases b1 with
  | false =>
    go_enter Tryz.func49, Tryz.ntmps49
    go_wp2_with fail
    refine wp_scope_jumps 0 (fun _ _ => False) (fun _ _ => 0) rfl ?_ (fun _ _ h => h.elim)
    go_wp2_with (go_at_call 28; go_fit (fmay_any ⟨sp, gp⟩ _); rintro e w1 ⟨rfl, hb1⟩; rw [E1.out]; have HC1 := Lib.hid hb1; have HB1 := Lib.hid (HB0.out.trans (hb1.mono HB0.out.size)); clear hb1)
    simp only [Exit.jump]
    go_ret3
    have hk : keptI ⟨sp, gp⟩ l = [] := if_neg (by rw [E1.out]; simp)
    have he : keepErr ⟨sp, gp⟩ l = 2 := if_neg (by rw [E1.out]; simp)
    rw [hk, he]
    exact ⟨none, 0, _, rfl, ⟨rfl, Nat.le_refl _, Nat.zero_le _, fun _ => ⟨rfl, rfl⟩, fun d hd => nomatch hd⟩, HB1.out⟩
  | true =>
    go_enter Tryz.func49, Tryz.ntmps49
    go_wp2_with fail
    refine wp_scope_jumps 0 (fun _ _ => False) (fun _ _ => 0) rfl ?_ (fun _ _ h => h.elim)
    go_wp2_with (go_at_call 28; go_fit (fmay_any ⟨sp, gp⟩ _); rintro e w1 ⟨rfl, hb1⟩; rw [E1.out]; have HC1 := Lib.hid hb1; have HB1 := Lib.hid (HB0.out.trans (hb1.mono HB0.out.size)); clear hb1)
    clear x0 x1 hw0
    have HX1 := Lib.hid (box_below HX0.out HC1.out)
    have hsz1 : w.heap.size < w1.heap.size := box_lt HX1.out
    have HS1 := Lib.hid (HS.out.below HC1.out)
    go_loopw [4, 5, 22] (fun v4 v5 i wr => ∃ (k : Nat), v4 = .slice none 0 0 ∧ v5 = .slice none 0 0 ∧ k ≤ n ∧ i = .int .i64 k ∧ Hid (rightN l k = true) ∧ Hid (Below w1.heap.size w1 wr)) (fun _ _ i _ => n - (intOf i).toNat)
    case atStart => exact ⟨0, rfl, rfl, by omega, rfl, rfl, Below.refl _ _⟩
    case round =>
      obtain ⟨k, rfl, rfl, hk, rfl, hok, hb⟩ := hrel
      by_cases hlt : k < n
      · have hltz : (k : Int) < (n : Int) := by omega
        obtain ⟨b, off, ⟨st, sx, sy⟩, rfl, hbl, hr, c0, c1, c2⟩ := smp_at (HS1.out.below hb.out) hlt
        have HR := Lib.hid hr
        have hba : Below wr.heap.size wr (wr.alloc (.cells #[.int .i64 st, .int .i64 sx, .int .i64 sy] 73)) := (Below.refl _ _).alloc (Nat.le_refl _) _
        have hb9 : Hid (Below w1.heap.size w1 (wr.alloc (.cells #[.int .i64 st, .int .i64 sx, .int .i64 sy] 73))) := hb.out.trans (hba.mono hb.out.size)
        have HT9 := Lib.hid (box_new wr (.cells #[.int .i64 st, .int .i64 sx, .int .i64 sy] 73))
        obtain ⟨t0, t1, t2, -, -, -⟩ := box3_cells HT9.out
        have T0 := cell_regrown t0
        have T1 := cell_regrown t1
        have T2 := cell_regrown t2
        obtain ⟨bb, hbb⟩ : ∃ b, smpB ⟨st, sx, sy⟩ = b := ⟨_, rfl⟩
        have HBB := Lib.hid hbb
        have q1 : ∀ nd osq, Calls Tryz.prog 50 #[(Smp.mk st sx sy).val] (Go.Sort.grow (redrawn (wr.alloc (.cells #[.int .i64 st, .int .i64 sx, .int .i64 sy] 73)) nd) osq) fun e w' => e = .returned (.bool bb) ∧ Below (Go.Sort.grow (redrawn (wr.alloc (.cells #[.int .i64 st, .int .i64 sx, .int .i64 sy] 73)) nd) osq).heap.size (Go.Sort.grow (redrawn (wr.alloc (.cells #[.int .i64 st, .int .i64 sx, .int .i64 sy] 73)) nd) osq) w' := fun nd osq => (smay_any ⟨st, sx, sy⟩ _).mono fun e w' ⟨k1, k2⟩ => ⟨by rw [k1, hbb], k2⟩
        clear hr hbb
        cases bb with
        | false =>
          go_upto_region 8 with fail
          refine wp_region_quiet_below (by assumption) (by kernel_rfl) ?_
          repeat (go_big_quiet_step ((go_at_call 50; exact Calls.regrown_of (q1 _ _))))
          refine wpQuiet_nil ?_
          intro w9 hw9
          obtain ⟨⟨nd, osq⟩, rfl⟩ := hw9
          have HB9 : Hid (Below w1.heap.size w1 (Go.Sort.grow (redrawn (wr.alloc (.cells #[.int .i64 st, .int .i64 sx, .int .i64 sy] 73)) nd) osq)) := hb9.out.trans ((below_regrown _ nd osq).mono hb9.out.size)
          clear T0 T1 T2 t0 t1 t2 q1
          generalize Go.Sort.grow (redrawn (wr.alloc (.cells #[.int .i64 st, .int .i64 sx, .int .i64 sy] 73)) nd) osq = w9 at HB9 ⊢
          clear c0 c1 c2
          go_wp2_with fail
          simp only [Exit.jump]
          go_ret3
          have hr0 : rightS l = false := rightN_bad HR.out (by unfold stepS; rw [HBB.out]; rfl)
          have hk : keptI ⟨sp, gp⟩ l = [] := if_neg (by rw [hr0]; simp)
          have he : keepErr ⟨sp, gp⟩ l = 2 := if_neg (by rw [hr0]; simp)
          rw [hk, he]
          exact ⟨none, 0, _, rfl, ⟨rfl, Nat.le_refl _, Nat.zero_le _, fun _ => ⟨rfl, rfl⟩, fun d hd => nomatch hd⟩, HB1.out.trans (HB9.out.mono HB1.out.size)⟩
        | true =>
          cases k with
          | zero =>
            simp only [Nat.zero_mul, Nat.add_zero] at c0 c1 c2
            go_upto_region 8 with fail
            refine wp_region_quiet_below (by assumption) (by kernel_rfl) ?_
            repeat (go_big_quiet_step ((go_at_call 50; exact Calls.regrown_of (q1 _ _))))
            refine wpQuiet_nil ?_
            intro w9 hw9
            obtain ⟨⟨nd, osq⟩, rfl⟩ := hw9
            have HB9 : Hid (Below w1.heap.size w1 (Go.Sort.grow (redrawn (wr.alloc (.cells #[.int .i64 st, .int .i64 sx, .int .i64 sy] 73)) nd) osq)) := hb9.out.trans ((below_regrown _ nd osq).mono hb9.out.size)
            clear T0 T1 T2 t0 t1 t2 q1
            generalize Go.Sort.grow (redrawn (wr.alloc (.cells #[.int .i64 st, .int .i64 sx, .int .i64 sy] 73)) nd) osq = w9 at HB9 ⊢
            clear c0 c1 c2
            go_wp2_with fail
            go_roundw
            case rel => exact ⟨1, rfl, rfl, by omega, by go_num, by show _ = _; rw [rightN_snoc HR.out, hok.out, Bool.true_and]; unfold stepS; rw [HBB.out]; rfl, HB9.out⟩
            case measure => simp [intOf]; omega
          | succ j =>
            obtain ⟨b', off', ⟨gt, gx, gy⟩, hba', -, hp, d0, -, -⟩ := smp_at (HS1.out.below hb9.out) (i := j) (by omega)
            cases hba'
            have D0 := cell_regrown d0
            have HP := Lib.hid hp
            have r1 : IntKind.i64.wrap ((↑(j + 1) : Int) - 1) = (j : Int) := by rw [IntKind.wrap_i64]; omega
            have b2 : (j : Int) < (n : Int) := by omega
            have b3 : (0 : Int) < (↑(j + 1) : Int) := by omega
            have HST : Hid (stepS l (j + 1) ⟨st, sx, sy⟩ = decide (gt < st)) := by show _ = _; unfold stepS; simp only [HP.out, HBB.out, Bool.true_and]
            clear hp d0
            by_cases hle : st ≤ gt
            · go_upto_region 8 with fail
              refine wp_region_quiet_below (by assumption) (by kernel_rfl) ?_
              repeat (go_big_quiet_step ((go_at_call 50; exact Calls.regrown_of (q1 _ _))))
              refine wpQuiet_nil ?_
              intro w9 hw9
              obtain ⟨⟨nd, osq⟩, rfl⟩ := hw9
              have HB9 : Hid (Below w1.heap.size w1 (Go.Sort.grow (redrawn (wr.alloc (.cells #[.int .i64 st, .int .i64 sx, .int .i64 sy] 73)) nd) osq)) := hb9.out.trans ((below_regrown _ nd osq).mono hb9.out.size)
              clear T0 T1 T2 t0 t1 t2 D0 q1
              generalize Go.Sort.grow (redrawn (wr.alloc (.cells #[.int .i64 st, .int .i64 sx, .int .i64 sy] 73)) nd) osq = w9 at HB9 ⊢
              clear c0 c1 c2
              go_wp2_with fail
              simp only [Exit.jump]
              go_ret3
              have hr0 : rightS l = false := rightN_bad HR.out (by rw [HST.out]; exact decide_eq_false (by omega))
              have hk : keptI ⟨sp, gp⟩ l = [] := if_neg (by rw [hr0]; simp)
              have he : keepErr ⟨sp, gp⟩ l = 2 := if_neg (by rw [hr0]; simp)
              rw [hk, he]
              exact ⟨none, 0, _, rfl, ⟨rfl, Nat.le_refl _, Nat.zero_le _, fun _ => ⟨rfl, rfl⟩, fun d hd => nomatch hd⟩, HB1.out.trans (HB9.out.mono HB1.out.size)⟩
            · go_upto_region 8 with fail
              refine wp_region_quiet_below (by assumption) (by kernel_rfl) ?_
              repeat (go_big_quiet_step ((go_at_call 50; exact Calls.regrown_of (q1 _ _))))
              refine wpQuiet_nil ?_
              intro w9 hw9
              obtain ⟨⟨nd, osq⟩, rfl⟩ := hw9
              have HB9 : Hid (Below w1.heap.size w1 (Go.Sort.grow (redrawn (wr.alloc (.cells #[.int .i64 st, .int .i64 sx, .int .i64 sy] 73)) nd) osq)) := hb9.out.trans ((below_regrown _ nd osq).mono hb9.out.size)
              clear T0 T1 T2 t0 t1 t2 D0 q1
              generalize Go.Sort.grow (redrawn (wr.alloc (.cells #[.int .i64 st, .int .i64 sx, .int .i64 sy] 73)) nd) osq = w9 at HB9 ⊢
              clear c0 c1 c2
              go_wp2_with fail
              go_roundw
              case rel => exact ⟨j + 1 + 1, rfl, rfl, by omega, by go_num, by show _ = _; rw [rightN_snoc HR.out, hok.out, Bool.true_and, HST.out]; exact decide_eq_true (by omega), HB9.out⟩
              case measure => simp [intOf]; omega
      · have hkn : k = n := by omega
        have HRT : Hid (rightS l = true) := by have := hok.out; rw [hkn, HN.out] at this; exact this
        clear hok hkn hk
        go_wp2_with fail
        go_step3
        simp only [Exit.then]
        refine (show ∀ (a : Act) (w : World), Code.wp Tryz.prog _ _ a w → _ from by assumption) _ _ ?_
        have hb1' : Hid (Below w1.heap.size w1 wr) := hb
        have HB2 : Hid (Below w.heap.size w wr) := HB1.out.trans (hb.out.mono HB1.out.size)
        obtain ⟨w2, hw2⟩ : ∃ w2, w2 = wr := ⟨_, rfl⟩
        subst hw2
        have HX2 := Lib.hid (box_below HX1.out hb.out)
        have HS2 := Lib.hid (HS1.out.below hb.out)
        have hsz2 : w.heap.size < w2.heap.size := box_lt HX2.out
        have HKT : Hid (keptI ⟨sp, gp⟩ l = keepI ⟨sp, gp⟩ l n) := by
          show _ = _
          rw [HN.out]
          exact if_pos ⟨E1.out, HRT.out⟩
        have HET : Hid (keepErr ⟨sp, gp⟩ l = 0) := if_pos ⟨E1.out, HRT.out⟩
        clear hb hb1'
        go_wp2_with fail
        go_loopw [4, 5, 9, 48] (fun kv0 dv0 lv i wr => ∃ (j : Nat) (kv dv : Value), kv = kv0 ∧ dv = dv0 ∧ i = .int .i64 j ∧ j ≤ n ∧ lv = .int .i64 (lastI (keepI ⟨sp, gp⟩ l j)) ∧ Hid (V.Own 3 icod w2.heap.size wr kv ((keepI ⟨sp, gp⟩ l j).map fun (j : Nat) => (j : Int))) ∧ Hid (∃ D : List Int, D.length ≤ j ∧ V.Own 3 icod w2.heap.size wr dv D ∧ Apart kv dv) ∧ Hid (Below w2.heap.size w2 wr)) (fun _ _ _ i _ => n - (intOf i).toNat)
        case atStart => exact ⟨0, _, _, rfl, rfl, rfl, by omega, rfl, Own.nil, ⟨[], Nat.le_refl _, Own.nil, Apart.nil⟩, Below.refl _ _⟩
        case round =>
          obtain ⟨j, kv, dv, rfl, rfl, rfl, hj, rfl, ho, hd, hb⟩ := hrel
          by_cases hlt : j < n
          · have hltz : (j : Int) < (n : Int) := by omega
            obtain ⟨b, off, ⟨st, sx, sy⟩, rfl, hbl, hr, c0, c1, c2⟩ := smp_at (HS2.out.below hb.out) hlt
            have hsm := right_may HRT.out _ (List.mem_of_getElem? hr)
            have HR := Lib.hid hr
            have hba : Below wr.heap.size wr (wr.alloc (.cells #[.int .i64 st, .int .i64 sx, .int .i64 sy] 73)) := (Below.refl _ _).alloc (Nat.le_refl _) _
            have hb9 : Hid (Below w2.heap.size w2 (wr.alloc (.cells #[.int .i64 st, .int .i64 sx, .int .i64 sy] 73))) := hb.out.trans (hba.mono hb.out.size)
            have HT9 := Lib.hid (box_new wr (.cells #[.int .i64 st, .int .i64 sx, .int .i64 sy] 73))
            obtain ⟨t0, t1, t2, -, -, -⟩ := box3_cells HT9.out
            have T0 := cell_regrown t0
            have T1 := cell_regrown t1
            have T2 := cell_regrown t2
            obtain ⟨D, hdl, hdo, hap⟩ := hd.out
            have hap := Lib.hid hap
            have hdo := Lib.hid hdo
            obtain ⟨KL, hKL⟩ : ∃ K : List Int, (keepI ⟨sp, gp⟩ l j).map (fun (j : Nat) => (j : Int)) = K := ⟨_, rfl⟩
            have hkl : KL.length ≤ j := by rw [← hKL, List.length_map]; exact keepI_len _ _ _
            rw [hKL] at ho
            have HKL := Lib.hid hKL
            have HM1 : Hid (KL.length + 1 ≤ maxLen) := by show _ ≤ _; unfold maxLen; omega
            have HM2 : Hid ((KL.length + 1) * 8 ≤ 140737488355328) := by show _ ≤ _; omega
            have HM3 : Hid (D.length + 1 ≤ maxLen) := by show _ ≤ _; unfold maxLen; omega
            have HM4 : Hid ((D.length + 1) * 8 ≤ 140737488355328) := by show _ ≤ _; omega
            obtain ⟨lv, hlv⟩ : ∃ v, lastI (keepI ⟨sp, gp⟩ l j) = v := ⟨_, rfl⟩
            rw [hlv]
            have HLV := Lib.hid hlv
            clear hr hd hKL hkl
            have hgl : l.getD j default = ⟨st, sx, sy⟩ := by rw [List.getD_eq_getElem?_getD, HR.out]; rfl
            have HGL := Lib.hid hgl
            clear hgl
            cases hla : (keepI ⟨sp, gp⟩ l j).getLast? with
            | none =>
              have HLA := Lib.hid hla
              have hl1 : lv = -1 := by rw [← hlv]; unfold lastI; rw [hla]
              clear hla hlv
              subst hl1
              go_upto_region 15 with fail
              refine wp_region_quiet_below (by assumption) (by kernel_rfl) ?_
              repeat (go_big_quiet_step (fail))
              refine wpQuiet_nil ?_
              intro w9 hw9
              obtain ⟨⟨nd, osq⟩, rfl⟩ := hw9
              have hbq : Hid (Below wr.heap.size wr (Go.Sort.grow (redrawn (wr.alloc (.cells #[.int .i64 st, .int .i64 sx, .int .i64 sy] 73)) nd) osq)) := hba.trans ((below_regrown _ nd osq).mono hba.size)
              clear T0 T1 T2 t0 t1 t2
              generalize Go.Sort.grow (redrawn (wr.alloc (.cells #[.int .i64 st, .int .i64 sx, .int .i64 sy] 73)) nd) osq = w9 at hbq ⊢
              have HO9 := Lib.hid (ho.out.below hbq.out)
              have HD9 := Lib.hid (hdo.out.below hbq.out)
              have HB9 : Hid (Below w2.heap.size w2 w9) := hb.out.trans (hbq.out.mono hb.out.size)
              have hle9 : w2.heap.size ≤ w9.heap.size := HB9.out.size
              clear c0 c1 c2
              go_wp2_with (at_builtin; go_loud (refine wpList_app_at Ir.eltI rfl (.tmp 82) (.tmp 84) rfl (base := w2.heap.size) kv KL rfl (HO9.out.alloc _) _ 1 1 [(j : Int)] rfl (sl_new (c := icod) w9 #[.int .i64 (j : Int)] 3 [(j : Int)] 1 rfl (by unfold maxLen; omega) rfl) HM1.out HM2.out (by simp; omega) ?_); intro v8 w8 ho8 hg8 ha8; have HO8 := Lib.hid ho8; have HD8 := Lib.hid ((HD9.out.alloc _).kept hg8 (Apart.symm hap.out)); have HA8 := Lib.hid (Apart.next hap.out ha8 (HD9.out.alloc _)); have HB8 : Hid (Below w2.heap.size w2 w8) := (HB9.out.alloc HB9.out.size _).trans (Ir.own_below (HO9.out.alloc _) hg8 (by simp; omega)); clear ho8 hg8 ha8)
              go_roundw
              case rel =>
                have hkk : keepI ⟨sp, gp⟩ l (j + 1) = keepI ⟨sp, gp⟩ l j ++ [j] := keepI_none HLA.out
                refine ⟨j + 1, _, _, rfl, rfl, by go_num, by omega, by rw [hkk, lastI_snoc], ?_, ⟨D, by omega, HD8.out, HA8.out⟩, HB8.out⟩
                show V.Own _ _ _ _ _ _
                rw [hkk, List.map_append, HKL.out]
                exact HO8.out
              case measure => simp [intOf]; omega
            | some p0 =>
              have HLA := Lib.hid hla
              have hp0 : p0 < j := keepI_lt _ _ _ _ (List.mem_of_getLast? hla)
              have hl1 : lv = (p0 : Int) := by rw [← hlv]; unfold lastI; rw [hla]
              clear hla hlv
              subst hl1
              obtain ⟨b', off', ⟨gt, gx, gy⟩, hba', -, hp, d0, d1, d2⟩ := smp_at (HS2.out.below hb9.out) (i := p0) (by omega)
              cases hba'
              have hsp := right_may HRT.out _ (List.mem_of_getElem? hp)
              have hgp : l.getD p0 default = ⟨gt, gx, gy⟩ := by rw [List.getD_eq_getElem?_getD, hp]; rfl
              have HGP := Lib.hid hgp
              have D0 := cell_regrown d0
              have D1 := cell_regrown d1
              have D2 := cell_regrown d2
              have hX9 := box_below HX2.out hb9.out
              obtain ⟨x0, x1, -, -⟩ := box2_cells hX9
              have X0 := cell_regrown x0
              have X1 := cell_regrown x1
              have hin := smp_in hsm
              have hin' := smp_in hsp
              simp only [] at hin hin'
              have hws : IntKind.i64.wrap (st - gt) = st - gt := by rw [IntKind.wrap_i64]; omega
              have b2 : (p0 : Int) < (n : Int) := by omega
              obtain ⟨cb, hcb⟩ : ∃ b, canE ⟨sp, gp⟩ ⟨gt, gx, gy⟩ ⟨st, sx, sy⟩ = b := ⟨_, rfl⟩
              have q1 : ∀ nd osq, Calls Tryz.prog 79 #[(Flt.mk sp gp).val, (Smp.mk gt gx gy).val, (Smp.mk st sx sy).val] (Go.Sort.grow (redrawn (wr.alloc (.cells #[.int .i64 st, .int .i64 sx, .int .i64 sy] 73)) nd) osq) fun e w' => e = .returned (.bool cb) ∧ Below (Go.Sort.grow (redrawn (wr.alloc (.cells #[.int .i64 st, .int .i64 sx, .int .i64 sy] 73)) nd) osq).heap.size (Go.Sort.grow (redrawn (wr.alloc (.cells #[.int .i64 st, .int .i64 sx, .int .i64 sy] 73)) nd) osq) w' := fun nd osq => (can_any ⟨sp, gp⟩ ⟨gt, gx, gy⟩ ⟨st, sx, sy⟩ _).mono fun e w' ⟨k1, k2⟩ => ⟨by rw [k1, hcb], k2⟩
              have HOK : Hid (keepI ⟨sp, gp⟩ l (j + 1) = if (decide (gp ≤ st - gt) && cb) = true then keepI ⟨sp, gp⟩ l j ++ [j] else keepI ⟨sp, gp⟩ l j) := by
                show _ = _
                rw [keepI_some HLA.out, HGL.out, HGP.out]
                unfold okS
                rw [hcb]
              clear hcb hp hgp hsp hsm hin hin' d0 d1 d2 x0 x1 hX9
              by_cases hgap : st - gt < gp
              · have hgd : decide (st - gt < gp) = true := decide_eq_true hgap
                go_upto_region 15 with fail
                refine wp_region_quiet_below (by assumption) (by kernel_rfl) ?_
                repeat (go_big_quiet_step ((go_at_call 79; exact Calls.regrown_of (q1 _ _))))
                refine wpQuiet_nil ?_
                intro w9 hw9
                obtain ⟨⟨nd, osq⟩, rfl⟩ := hw9
                have hbq : Hid (Below wr.heap.size wr (Go.Sort.grow (redrawn (wr.alloc (.cells #[.int .i64 st, .int .i64 sx, .int .i64 sy] 73)) nd) osq)) := hba.trans ((below_regrown _ nd osq).mono hba.size)
                clear T0 T1 T2 t0 t1 t2 D0 D1 D2 X0 X1 q1
                generalize Go.Sort.grow (redrawn (wr.alloc (.cells #[.int .i64 st, .int .i64 sx, .int .i64 sy] 73)) nd) osq = w9 at hbq ⊢
                have HO9 := Lib.hid (ho.out.below hbq.out)
                have HD9 := Lib.hid (hdo.out.below hbq.out)
                have HB9 : Hid (Below w2.heap.size w2 w9) := hb.out.trans (hbq.out.mono hb.out.size)
                have hle9 : w2.heap.size ≤ w9.heap.size := HB9.out.size
                clear c0 c1 c2
                go_wp2_with (at_builtin; go_loud (refine wpList_app_at Ir.eltI rfl (.tmp 78) (.tmp 80) rfl (base := w2.heap.size) dv D rfl (HD9.out.alloc _) _ 1 1 [(j : Int)] rfl (sl_new (c := icod) w9 #[.int .i64 (j : Int)] 3 [(j : Int)] 1 rfl (by unfold maxLen; omega) rfl) HM3.out HM4.out (by simp; omega) ?_); intro v8 w8 ho8 hg8 ha8; have HD8 := Lib.hid ho8; have HO8 := Lib.hid ((HO9.out.alloc _).kept hg8 hap.out); have HA8 := Lib.hid (Apart.symm (Apart.next (Apart.symm hap.out) ha8 (HO9.out.alloc _))); have HB8 : Hid (Below w2.heap.size w2 w8) := (HB9.out.alloc HB9.out.size _).trans (Ir.own_below (HD9.out.alloc _) hg8 (by simp; omega)); clear ho8 hg8 ha8)
                go_roundw
                case rel =>
                  have hkk : keepI ⟨sp, gp⟩ l (j + 1) = keepI ⟨sp, gp⟩ l j := by rw [HOK.out, show decide (gp ≤ st - gt) = false from decide_eq_false (by omega)]; rfl
                  refine ⟨j + 1, _, _, rfl, rfl, by go_num, by omega, by rw [hkk, HLV.out], ?_, ⟨D ++ [(j : Int)], by rw [List.length_append]; simp; omega, HD8.out, HA8.out⟩, HB8.out⟩
                  show V.Own _ _ _ _ _ _
                  rw [hkk, HKL.out]
                  exact HO8.out
                case measure => simp [intOf]; omega
              · have hgd : decide (st - gt < gp) = false := decide_eq_false hgap
                cases cb with
                | false =>
                  go_upto_region 15 with fail
                  refine wp_region_quiet_below (by assumption) (by kernel_rfl) ?_
                  repeat (go_big_quiet_step ((go_at_call 79; exact Calls.regrown_of (q1 _ _))))
                  refine wpQuiet_nil ?_
                  intro w9 hw9
                  obtain ⟨⟨nd, osq⟩, rfl⟩ := hw9
                  have hbq : Hid (Below wr.heap.size wr (Go.Sort.grow (redrawn (wr.alloc (.cells #[.int .i64 st, .int .i64 sx, .int .i64 sy] 73)) nd) osq)) := hba.trans ((below_regrown _ nd osq).mono hba.size)
                  clear T0 T1 T2 t0 t1 t2 D0 D1 D2 X0 X1 q1
                  generalize Go.Sort.grow (redrawn (wr.alloc (.cells #[.int .i64 st, .int .i64 sx, .int .i64 sy] 73)) nd) osq = w9 at hbq ⊢
                  have HO9 := Lib.hid (ho.out.below hbq.out)
                  have HD9 := Lib.hid (hdo.out.below hbq.out)
                  have HB9 : Hid (Below w2.heap.size w2 w9) := hb.out.trans (hbq.out.mono hb.out.size)
                  have hle9 : w2.heap.size ≤ w9.heap.size := HB9.out.size
                  clear c0 c1 c2
                  go_wp2_with (at_builtin; go_loud (refine wpList_app_at Ir.eltI rfl (.tmp 78) (.tmp 80) rfl (base := w2.heap.size) dv D rfl (HD9.out.alloc _) _ 1 1 [(j : Int)] rfl (sl_new (c := icod) w9 #[.int .i64 (j : Int)] 3 [(j : Int)] 1 rfl (by unfold maxLen; omega) rfl) HM3.out HM4.out (by simp; omega) ?_); intro v8 w8 ho8 hg8 ha8; have HD8 := Lib.hid ho8; have HO8 := Lib.hid ((HO9.out.alloc _).kept hg8 hap.out); have HA8 := Lib.hid (Apart.symm (Apart.next (Apart.symm hap.out) ha8 (HO9.out.alloc _))); have HB8 : Hid (Below w2.heap.size w2 w8) := (HB9.out.alloc HB9.out.size _).trans (Ir.own_below (HD9.out.alloc _) hg8 (by simp; omega)); clear ho8 hg8 ha8)
                  go_roundw
                  case rel =>
                    have hkk : keepI ⟨sp, gp⟩ l (j + 1) = keepI ⟨sp, gp⟩ l j := by rw [HOK.out, Bool.and_false]; rfl
                    refine ⟨j + 1, _, _, rfl, rfl, by go_num, by omega, by rw [hkk, HLV.out], ?_, ⟨D ++ [(j : Int)], by rw [List.length_append]; simp; omega, HD8.out, HA8.out⟩, HB8.out⟩
                    show V.Own _ _ _ _ _ _
                    rw [hkk, HKL.out]
                    exact HO8.out
                  case measure => simp [intOf]; omega
                | true =>
                  go_upto_region 15 with fail
                  refine wp_region_quiet_below (by assumption) (by kernel_rfl) ?_
                  repeat (go_big_quiet_step ((go_at_call 79; exact Calls.regrown_of (q1 _ _))))
                  refine wpQuiet_nil ?_
                  intro w9 hw9
                  obtain ⟨⟨nd, osq⟩, rfl⟩ := hw9
                  have hbq : Hid (Below wr.heap.size wr (Go.Sort.grow (redrawn (wr.alloc (.cells #[.int .i64 st, .int .i64 sx, .int .i64 sy] 73)) nd) osq)) := hba.trans ((below_regrown _ nd osq).mono hba.size)
                  clear T0 T1 T2 t0 t1 t2 D0 D1 D2 X0 X1 q1
                  generalize Go.Sort.grow (redrawn (wr.alloc (.cells #[.int .i64 st, .int .i64 sx, .int .i64 sy] 73)) nd) osq = w9 at hbq ⊢
                  have HO9 := Lib.hid (ho.out.below hbq.out)
                  have HD9 := Lib.hid (hdo.out.below hbq.out)
                  have HB9 : Hid (Below w2.heap.size w2 w9) := hb.out.trans (hbq.out.mono hb.out.size)
                  have hle9 : w2.heap.size ≤ w9.heap.size := HB9.out.size
                  clear c0 c1 c2
                  go_wp2_with (at_builtin; go_loud (refine wpList_app_at Ir.eltI rfl (.tmp 82) (.tmp 84) rfl (base := w2.heap.size) kv KL rfl (HO9.out.alloc _) _ 1 1 [(j : Int)] rfl (sl_new (c := icod) w9 #[.int .i64 (j : Int)] 3 [(j : Int)] 1 rfl (by unfold maxLen; omega) rfl) HM1.out HM2.out (by simp; omega) ?_); intro v8 w8 ho8 hg8 ha8; have HO8 := Lib.hid ho8; have HD8 := Lib.hid ((HD9.out.alloc _).kept hg8 (Apart.symm hap.out)); have HA8 := Lib.hid (Apart.next hap.out ha8 (HD9.out.alloc _)); have HB8 : Hid (Below w2.heap.size w2 w8) := (HB9.out.alloc HB9.out.size _).trans (Ir.own_below (HO9.out.alloc _) hg8 (by simp; omega)); clear ho8 hg8 ha8)
                  go_roundw
                  case rel =>
                    have hkk : keepI ⟨sp, gp⟩ l (j + 1) = keepI ⟨sp, gp⟩ l j ++ [j] := by rw [HOK.out, show decide (gp ≤ st - gt) = true from decide_eq_true (by omega)]; rfl
                    refine ⟨j + 1, _, _, rfl, rfl, by go_num, by omega, by rw [hkk, lastI_snoc], ?_, ⟨D, by omega, HD8.out, HA8.out⟩, HB8.out⟩
                    show V.Own _ _ _ _ _ _
                    rw [hkk, List.map_append, HKL.out]
                    exact HO8.out
                  case measure => simp [intOf]; omega
          · have hjn : j = n := by omega
            have hnd : decide ((j : Int) < (n : Int)) = false := decide_eq_false (by omega)
            have HJN := Lib.hid hjn
            obtain ⟨D, hdl, hdo, hap⟩ := hd.out
            clear hd hdl hdo hap hjn
            go_wp2_with fail
            simp only [Exit.jump]
            go_ret3
            rw [HET.out, HKT.out]
            have hoo := ho.out
            rw [HJN.out] at hoo
            obtain ⟨ka, kc, hkv, hsl, -⟩ := hoo.slice
            rw [List.length_map] at hkv hsl
            subst hkv
            exact ⟨ka, kc, _, rfl, hsl, HB2.out.trans (hb.out.mono HB2.out.size)⟩
end Go.Proofs.YtlfbbahihenilaaGreat.Ne

namespace Go.Proofs.YtlfbbahihenilaaGreat.Ne
open Go.RowKit Go.V Go.Proofs

theorem infoSmp : (Tryz.prog.info? 73).map (fun i => (i.zero, i.size, i.bytes)) = some (some (.agg #[.int .i64 0, .int .i64 0, .int .i64 0]), 3, 24) := by kernel_rfl
theorem eltSmp : Elt Tryz.prog 32 73 Smp.cod 24 := Elt.of Tryz.underlying32 infoSmp rfl (by decide)
theorem keptI_lt (f : Flt) (l : List Smp) : ∀ j ∈ keptI f l, j < l.length := by
  intro j h
  unfold keptI at h
  split at h
  · exact keepI_lt _ _ _ _ h
  · cases h
theorem keptE_map (f : Flt) (l : List Smp) : keptE f l = (keptI f l).map fun j => l.getD j default := by
  unfold keptE keptI keepE keepN
  split <;> rfl
theorem keptI_len (f : Flt) (l : List Smp) : (keptI f l).length ≤ l.length := by
  unfold keptI
  split
  · exact keepI_len _ _ _
  · exact Nat.zero_le _
theorem map_take_snoc {α β : Type} {K : List α} {j : Nat} {x : α} {g : α → β} (h : K[j]? = some x) : (K.take (j + 1)).map g = (K.take j).map g ++ [g x] := by
  rw [take_at h, List.map_append]; rfl

set_option maxHeartbeats 8000000 in
set_option maxRecDepth 100000 in
theorem ckeep_any (f : Flt) (a : Option Addr) (n cap : Nat) (l : List Smp) (w : World) (hn : n ≤ 2048) (h : Sl Smp.cod w a n cap l) :
    Calls Tryz.prog 16 #[f.val, .slice a n cap] w fun e w' => ∃ v, e = .returned (.tuple #[v, .int .i64 (keepErr f l)]) ∧ V.Own 73 Smp.cod w.heap.size w' v (keptE f l) ∧ Below w.heap.size w w' := by
  obtain ⟨sp, gp⟩ := f
  have HN := Lib.hid h.hlen
  obtain ⟨w0, hw0⟩ : ∃ w0, w.alloc (Flt.mk sp gp).box = w0 := ⟨_, rfl⟩
  have HX0 : Hid (w0.heap[w.heap.size]? = some (.cells #[.int .i64 sp, .int .i64 gp] 27 (0, 0))) := by rw [← hw0]; exact box_new w _
  have HB0 : Hid (Below w.heap.size w w0) := by rw [← hw0]; exact (Below.refl _ _).alloc (Nat.le_refl _) _
  have HS := Lib.hid (h.below HB0.out)
  obtain ⟨x0, x1, -, -⟩ := box2_cells HX0.out
  clear h
  obtain ⟨K, hK⟩ : ∃ K, keptI ⟨sp, gp⟩ l = K := ⟨_, rfl⟩
  have HKE : Hid (keptE ⟨sp, gp⟩ l = K.map fun j => l.getD j default) := by show _ = _; rw [keptE_map, hK]
  have HKL : Hid (∀ j ∈ K, j < n) := by rw [← hK, HN.out]; exact keptI_lt _ _
  have hkn : K.length ≤ n := by rw [← hK, HN.out]; exact keptI_len _ _
  obtain ⟨E, hE⟩ : ∃ E, keepErr ⟨sp, gp⟩ l = E := ⟨_, rfl⟩
  have hcs := fun (W : World) (h : Sl Smp.cod W a n cap l) => csort_any ⟨sp, gp⟩ a n cap l W hn h
  rw [hK, hE] at hcs
  rw [hE]
  have HCS := Lib.hid hcs
  clear hcs hK hE
  go_enter Tryz.func16, Tryz.ntmps16
  go_wp2_with (go_at_call 49; go_fit (HCS.out _ HS.out); rintro e w1 ⟨ka, kc, dv, rfl, hks, hb1⟩; have HKS := Lib.hid hks; have HB1 : Hid (Below w.heap.size w w1) := HB0.out.trans (hb1.mono HB0.out.size); have HS1 := Lib.hid (HS.out.below hb1); clear hks hb1)
  clear hw0 x0 x1
  obtain ⟨KL, hKL⟩ : ∃ k, K.length = k := ⟨_, rfl⟩
  rw [hKL] at HKS hkn ⊢
  have HKN := Lib.hid hKL
  clear hKL
  go_loopw [9, 21] (fun ov0 i wr => ∃ (j : Nat) (ov : Value), ov = ov0 ∧ i = .int .i64 j ∧ j ≤ KL ∧ Hid (V.Own 73 Smp.cod w1.heap.size wr ov ((K.take j).map fun j => l.getD j default)) ∧ Hid (Below w1.heap.size w1 wr)) (fun _ i _ => KL - (intOf i).toNat)
  case atStart => exact ⟨0, _, rfl, rfl, by omega, Own.nil, Below.refl _ _⟩
  case round =>
    obtain ⟨j, ov, rfl, rfl, hj, ho, hb⟩ := hrel
    by_cases hlt : j < KL
    · have hltz : (j : Int) < (KL : Int) := by omega
      obtain ⟨ib, io, z, rfl, hib, hz, c0⟩ := int_at (HKS.out.below hb.out) hlt
      obtain ⟨x, hx, hzx⟩ : ∃ x, K[j]? = some x ∧ z = ((x : Nat) : Int) := by
        rw [List.getElem?_map] at hz
        cases hk : K[j]? with
        | none => rw [hk] at hz; cases hz
        | some x => rw [hk] at hz; cases hz; exact ⟨x, rfl, rfl⟩
      subst hzx
      have hxn : x < n := HKL.out x (List.mem_of_getElem? hx)
      have hxz : (x : Int) < (n : Int) := by omega
      obtain ⟨b, off, ⟨st, sx, sy⟩, rfl, hbl, hr, d0, d1, d2⟩ := smp_at (HS1.out.below hb.out) hxn
      have HNX : Hid ((K.take (j + 1)).map (fun j => l.getD j default) = (K.take j).map (fun j => l.getD j default) ++ [⟨st, sx, sy⟩]) := by
        show _ = _
        rw [map_take_snoc hx, List.getD_eq_getElem?_getD, hr]; rfl
      obtain ⟨TL, hTL⟩ : ∃ T, (K.take j).map (fun j => l.getD j default) = T := ⟨_, rfl⟩
      have htl : TL.length ≤ j := by rw [← hTL, List.length_map, List.length_take]; omega
      rw [hTL] at ho HNX
      have HM1 : Hid (TL.length + 1 ≤ maxLen) := by show _ ≤ _; unfold maxLen; omega
      have HM2 : Hid ((TL.length + 1) * 24 ≤ 140737488355328) := by show _ ≤ _; omega
      have hle : w1.heap.size ≤ wr.heap.size := hb.out.size
      clear hz hx hr hTL htl
      go_wp2_with (at_builtin; go_loud (refine wpList_app eltSmp rfl (.tmp 25) (.tmp 30) rfl (base := w1.heap.size) ov TL rfl (ho.out.alloc _) _ 1 1 [(⟨st, sx, sy⟩ : Smp)] rfl (sl_new (c := Smp.cod) wr #[.int .i64 st, .int .i64 sx, .int .i64 sy] 73 [(⟨st, sx, sy⟩ : Smp)] 1 rfl (by unfold maxLen; omega) rfl) HM1.out HM2.out (by simp; omega) ?_); intro v8 w8 ho8 hg8; have HO8 := Lib.hid ho8; have HB8 : Hid (Below w1.heap.size w1 w8) := (hb.out.alloc hb.out.size _).trans (Ir.own_below (ho.out.alloc _) hg8 (by simp; omega)); clear ho8 hg8)
      go_roundw
      case rel =>
        refine ⟨j + 1, _, rfl, by go_num, by omega, ?_, HB8.out⟩
        show V.Own _ _ _ _ _ _
        rw [HNX.out]
        exact HO8.out
      case measure => simp [intOf]; omega
    · have hjn : j = KL := by omega
      have hnd : decide ((j : Int) < (KL : Int)) = false := decide_eq_false (by omega)
      have HJN := Lib.hid hjn
      clear hjn
      go_wp2_with fail
      go_ret2
      have hoo := ho.out
      rw [HJN.out, List.take_of_length_le (by rw [HKN.out]; exact Nat.le_refl _), ← HKE.out] at hoo
      exact ⟨_, rfl, hoo.lower HB1.out.size, HB1.out.trans (hb.out.mono HB1.out.size)⟩
end Go.Proofs.YtlfbbahihenilaaGreat.Ne
