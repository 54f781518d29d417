/- Ways: runs: walked. -/
import Derived.Test.YtlfbbahihenilaaGreatMg05
import Derived.Test.YtlfbbahihenilaaGreatMg04
import Derived.Test.YtlfbbahihenilaaGreatMg06
import Derived.Deep.RegionHeld3
namespace Go.Proofs.YtlfbbahihenilaaGreat.Ne
open Go.RowKit Go.V Go.Proofs

theorem infoRn : (Tryz.prog.info? 57).map (fun i => (i.zero, i.size, i.bytes)) = some (some (.agg #[.int .i64 0, .int .i64 0, .int .i64 0]), 3, 24) := by kernel_rfl
theorem eltRn : Elt Tryz.prog 36 57 Rn.cod 24 := Elt.of Tryz.underlying36 infoRn rfl (by decide)
theorem runStep_new {R : List Rn} {s t : Int} (h : ∀ r, R.getLast? = some r → s ≠ r.stop) : runStep R s t = R ++ [⟨s, t, t⟩] := by
  unfold runStep
  cases e : R.getLast? with
  | none => rfl
  | some r => exact if_neg (h r e)
theorem runStep_same {R : List Rn} {r : Rn} {t : Int} : runStep (R ++ [r]) r.stop t = R ++ [⟨r.stop, r.frm, t⟩] := by
  unfold runStep
  rw [List.getLast?_concat]
  show (if r.stop = r.stop then _ else _) = _
  rw [if_pos rfl, List.dropLast_concat]
theorem mt_ge {α : Type} {e : TypeId} {c : Cod α} {base : Nat} {w : World} {v : Value} {xs : List α} {B : Nat} (h : V.Own e c base w v xs) (hB : w.heap.size ≤ B) : v.ownBlock = none ∨ v.ownBlock ≠ some B :=
  .inr fun k => by have := (World.ownsRow.lt h _ k).2; omega
theorem mt_set (w : World) (g j : Nat) (v : Value) : w.grownBy (w.setCell ⟨g, j, none⟩ v) (some g) :=
  ⟨rfl, rfl, rfl, by simp, fun k _ hk => heap_setCell_other _ ⟨g, j, none⟩ k v (fun e => hk (by simp [e]))⟩
set_option maxHeartbeats 8000000 in
set_option maxRecDepth 100000 in
theorem druns_any (sa : Option Addr) (n sc : Nat) (ss : List Int) (la : Option Addr) (lc : Nat) (l : List Smp) (w : World) (hn : n ≤ 2048)
    (hs : Sl icod w sa n sc ss) (hl : Sl Smp.cod w la n lc l) (hss : ∀ s ∈ ss, 0 ≤ s ∧ s < 4096) (hr : rightS l = true) :
    Calls Tryz.prog 45 #[.slice sa n sc, .slice la n lc] w fun e w' => ∃ v, e = .returned (.tuple #[v, .int .i64 0]) ∧ V.Own 57 Rn.cod w.heap.size w' v (runsE ss l) ∧ Below w.heap.size w w' := by
  have HNL : Hid (n = l.length) := hl.hlen
  have HNS : Hid (n = ss.length) := hs.hlen
  have HS := Lib.hid hs
  have HL := Lib.hid hl
  have HSS := Lib.hid hss
  have HRR := Lib.hid hr
  have h2048 : decide ((2048 : Int) < (n : Int)) = false := decide_eq_false (by omega)
  have mixed : Tryz.prog.follows .mixedOrders = true := by kernel_rfl
  clear hs hl hss hr
  go_enter Tryz.func45, Tryz.ntmps45
  go_wp2_with fail
  refine mt_scope 0 (fun a' w' => ∃ (i : Nat) (ov : Value), Hid (i ≤ n ∧ (i < n → ∀ r, (runsN ss l i).getLast? = some r → ss.getD i 0 ≠ r.stop) ∧ V.Own 57 Rn.cod w.heap.size w' ov (runsN ss l i) ∧ Below w.heap.size w w') ∧ ∃ (u2 u3 u4 u5 u6 u7 u10 u11 u12 u13 u14 u15 u16 u17 u18 u19 u20 u21 u22 u23 u24 u25 u26 u27 u28 u29 u30 u31 u32 u33 u34 u35 u36 u37 u38 u39 u40 u41 u42 u43 u44 u45 u46 u47 u48 u49 u50 u51 u52 u53 u54 u55 u56 u57 u58 u59 u60 u61 u62 u63 u64 u65 u66 u67 u68 u69 u70 u71 u72 u73 u74 u75 u76 u77 u78 u79 u80 u81 u82 u83 u84 u85 u86 u87 u88 u89 u90 u91 u92 u93 u94 u95 u96 u97 u98 : Value), a' = { tmps := #[.slice sa n sc, .slice la n lc, u2, u3, u4, u5, u6, u7, ov, .int .i64 i, u10, u11, u12, u13, u14, u15, u16, u17, u18, u19, u20, u21, u22, u23, u24, u25, u26, u27, u28, u29, u30, u31, u32, u33, u34, u35, u36, u37, u38, u39, u40, u41, u42, u43, u44, u45, u46, u47, u48, u49, u50, u51, u52, u53, u54, u55, u56, u57, u58, u59, u60, u61, u62, u63, u64, u65, u66, u67, u68, u69, u70, u71, u72, u73, u74, u75, u76, u77, u78, u79, u80, u81, u82, u83, u84, u85, u86, u87, u88, u89, u90, u91, u92, u93, u94, u95, u96, u97, u98], defers := [] }) (fun a' _ => n - (intOf (a'.tmps.getD 9 undef)).toNat) rfl ?_ ?_
  · intro hpass
    have HPS := Lib.hid hpass
    clear hpass
    go_wp2_with fail
    go_loopw [21] (fun i wr => ∃ (k : Nat), k ≤ n ∧ i = .int .i64 k ∧ Hid (Below w.heap.size w wr)) (fun i _ => n - (intOf i).toNat)
    case atStart => exact ⟨0, by omega, rfl, Below.refl _ _⟩
    case round =>
      obtain ⟨k, hk, rfl, hb⟩ := hrel
      by_cases hlt : k < n
      · have hltz : (k : Int) < (n : Int) := by omega
        obtain ⟨b, off, ⟨st, sx, sy⟩, rfl, hbl, hrr, c0, c1, c2⟩ := smp_at (HL.out.below hb.out) hlt
        have hba : Below wr.heap.size wr (wr.alloc (.cells #[.int .i64 st, .int .i64 sx, .int .i64 sy] 73)) := (Below.refl _ _).alloc (Nat.le_refl _) _
        have hb9 : Hid (Below w.heap.size w (wr.alloc (.cells #[.int .i64 st, .int .i64 sx, .int .i64 sy] 73))) := hb.out.trans (hba.mono hb.out.size)
        obtain ⟨sb, so, sv, rfl, hsb, hsv, s0⟩ := int_at (HS.out.below hb9.out) hlt
        have hsr := HSS.out _ (List.mem_of_getElem? hsv)
        have hd1 : decide (sv < 0) = false := decide_eq_false (by omega)
        have hd2 : decide (4096 ≤ sv) = false := decide_eq_false (by omega)
        have HT9 := Lib.hid (box_new wr (.cells #[.int .i64 st, .int .i64 sx, .int .i64 sy] 73))
        obtain ⟨t0, t1, t2, -, -, -⟩ := box3_cells HT9.out
        have T0 := cell_regrown t0
        have T1 := cell_regrown t1
        have T2 := cell_regrown t2
        have S0 := cell_regrown s0
        have hsm := right_may HRR.out _ (List.mem_of_getElem? hrr)
        have q1 : ∀ nd osq, Calls Tryz.prog 50 #[(Smp.mk st sx sy).val] (Go.Sort.grow (redrawn (wr.alloc (.cells #[.int .i64 st, .int .i64 sx, .int .i64 sy] 73)) nd) osq) fun e w' => e = .returned (.bool true) ∧ Below (Go.Sort.grow (redrawn (wr.alloc (.cells #[.int .i64 st, .int .i64 sx, .int .i64 sy] 73)) nd) osq).heap.size (Go.Sort.grow (redrawn (wr.alloc (.cells #[.int .i64 st, .int .i64 sx, .int .i64 sy] 73)) nd) osq) w' := fun nd osq => (smay_any ⟨st, sx, sy⟩ _).mono fun e w' ⟨k1, k2⟩ => ⟨by rw [k1, hsm], k2⟩
        have HR := Lib.hid hrr
        clear hrr hsr hsm hsv s0
        cases k with
        | zero =>
          simp only [Nat.zero_mul, Nat.add_zero] at c0 c1 c2 S0
          go_upto_region 8 with fail
          refine wp_region_quiet_below (by assumption) (by kernel_rfl) ?_
          repeat (go_big_quiet_step ((go_at_call 50; exact Calls.regrown_of (q1 _ _))))
          refine wpQuiet_nil ?_
          intro w9 hw9
          obtain ⟨⟨nd, osq⟩, rfl⟩ := hw9
          have HB9 : Hid (Below w.heap.size w (Go.Sort.grow (redrawn (wr.alloc (.cells #[.int .i64 st, .int .i64 sx, .int .i64 sy] 73)) nd) osq)) := hb9.out.trans ((below_regrown _ nd osq).mono hb9.out.size)
          clear T0 T1 T2 t0 t1 t2 S0 q1
          generalize Go.Sort.grow (redrawn (wr.alloc (.cells #[.int .i64 st, .int .i64 sx, .int .i64 sy] 73)) nd) osq = w9 at HB9 ⊢
          clear c0 c1 c2
          go_wp2_with fail
          go_roundw
          case rel => exact ⟨0 + 1, by omega, by go_num, HB9.out⟩
          case measure => simp [intOf]; omega
        | succ j =>
          obtain ⟨b', off', ⟨gt, gx, gy⟩, hba', -, hp, d0, -, -⟩ := smp_at (HL.out.below hb9.out) (i := j) (by omega)
          cases hba'
          have D0 := cell_regrown d0
          have r1 : IntKind.i64.wrap ((↑(j + 1) : Int) - 1) = (j : Int) := by rw [IntKind.wrap_i64]; omega
          have b2 : (j : Int) < (n : Int) := by omega
          have b3 : (0 : Int) < (↑(j + 1) : Int) := by omega
          have hgt : gt < st := by
            have h2 := (right_iff.1 HRR.out).2
            obtain ⟨k1, e1⟩ := List.getElem?_eq_some_iff.1 hp
            obtain ⟨k2, e2⟩ := List.getElem?_eq_some_iff.1 HR.out
            have := List.pairwise_iff_getElem.1 h2 j (j + 1) k1 k2 (Nat.lt_succ_self _)
            rw [e1, e2] at this
            exact this
          have hle : decide (st ≤ gt) = false := decide_eq_false (by omega)
          clear hp d0 hgt
          go_upto_region 8 with fail
          refine wp_region_quiet_below (by assumption) (by kernel_rfl) ?_
          repeat (go_big_quiet_step ((go_at_call 50; exact Calls.regrown_of (q1 _ _))))
          refine wpQuiet_nil ?_
          intro w9 hw9
          obtain ⟨⟨nd, osq⟩, rfl⟩ := hw9
          have HB9 : Hid (Below w.heap.size w (Go.Sort.grow (redrawn (wr.alloc (.cells #[.int .i64 st, .int .i64 sx, .int .i64 sy] 73)) nd) osq)) := hb9.out.trans ((below_regrown _ nd osq).mono hb9.out.size)
          clear T0 T1 T2 t0 t1 t2 S0 D0 q1
          generalize Go.Sort.grow (redrawn (wr.alloc (.cells #[.int .i64 st, .int .i64 sx, .int .i64 sy] 73)) nd) osq = w9 at HB9 ⊢
          clear c0 c1 c2
          go_wp2_with fail
          go_roundw
          case rel => exact ⟨j + 1 + 1, by omega, by go_num, HB9.out⟩
          case measure => simp [intOf]; omega
      · have hkn : decide ((k : Int) < (n : Int)) = false := decide_eq_false (by omega)
        go_wp2_with fail
        go_step3
        simp only [Exit.then]
        refine (show ∀ (a : Act) (w : World), Code.wp Tryz.prog _ _ a w → _ from by assumption) _ _ ?_
        exact HPS.out _ _ ⟨0, .slice none 0 0, ⟨Nat.zero_le _, fun _ r h => (by simp [runsN] at h), Own.nil, hb.out⟩, _, _, _, _, _, _, _, _, _, _, _, _, _, _, _, _, _, _, _, _, _, _, _, _, _, _, _, _, _, _, _, _, _, _, _, _, _, _, _, _, _, _, _, _, _, _, _, _, _, _, _, _, _, _, _, _, _, _, _, _, _, _, _, _, _, _, _, _, _, _, _, _, _, _, _, _, _, _, _, _, _, _, _, _, _, _, _, _, _, _, _, _, _, _, _, rfl⟩
  · intro a1 w1 hJ1
    obtain ⟨i, ov, hJ, hJ1⟩ := hJ1
    refine Exists.elim hJ1 fun u2 hJ1 => ?_
    refine Exists.elim hJ1 fun u3 hJ1 => ?_
    refine Exists.elim hJ1 fun u4 hJ1 => ?_
    refine Exists.elim hJ1 fun u5 hJ1 => ?_
    refine Exists.elim hJ1 fun u6 hJ1 => ?_
    refine Exists.elim hJ1 fun u7 hJ1 => ?_
    refine Exists.elim hJ1 fun u10 hJ1 => ?_
    refine Exists.elim hJ1 fun u11 hJ1 => ?_
    refine Exists.elim hJ1 fun u12 hJ1 => ?_
    refine Exists.elim hJ1 fun u13 hJ1 => ?_
    refine Exists.elim hJ1 fun u14 hJ1 => ?_
    refine Exists.elim hJ1 fun u15 hJ1 => ?_
    refine Exists.elim hJ1 fun u16 hJ1 => ?_
    refine Exists.elim hJ1 fun u17 hJ1 => ?_
    refine Exists.elim hJ1 fun u18 hJ1 => ?_
    refine Exists.elim hJ1 fun u19 hJ1 => ?_
    refine Exists.elim hJ1 fun u20 hJ1 => ?_
    refine Exists.elim hJ1 fun u21 hJ1 => ?_
    refine Exists.elim hJ1 fun u22 hJ1 => ?_
    refine Exists.elim hJ1 fun u23 hJ1 => ?_
    refine Exists.elim hJ1 fun u24 hJ1 => ?_
    refine Exists.elim hJ1 fun u25 hJ1 => ?_
    refine Exists.elim hJ1 fun u26 hJ1 => ?_
    refine Exists.elim hJ1 fun u27 hJ1 => ?_
    refine Exists.elim hJ1 fun u28 hJ1 => ?_
    refine Exists.elim hJ1 fun u29 hJ1 => ?_
    refine Exists.elim hJ1 fun u30 hJ1 => ?_
    refine Exists.elim hJ1 fun u31 hJ1 => ?_
    refine Exists.elim hJ1 fun u32 hJ1 => ?_
    refine Exists.elim hJ1 fun u33 hJ1 => ?_
    refine Exists.elim hJ1 fun u34 hJ1 => ?_
    refine Exists.elim hJ1 fun u35 hJ1 => ?_
    refine Exists.elim hJ1 fun u36 hJ1 => ?_
    refine Exists.elim hJ1 fun u37 hJ1 => ?_
    refine Exists.elim hJ1 fun u38 hJ1 => ?_
    refine Exists.elim hJ1 fun u39 hJ1 => ?_
    refine Exists.elim hJ1 fun u40 hJ1 => ?_
    refine Exists.elim hJ1 fun u41 hJ1 => ?_
    refine Exists.elim hJ1 fun u42 hJ1 => ?_
    refine Exists.elim hJ1 fun u43 hJ1 => ?_
    refine Exists.elim hJ1 fun u44 hJ1 => ?_
    refine Exists.elim hJ1 fun u45 hJ1 => ?_
    refine Exists.elim hJ1 fun u46 hJ1 => ?_
    refine Exists.elim hJ1 fun u47 hJ1 => ?_
    refine Exists.elim hJ1 fun u48 hJ1 => ?_
    refine Exists.elim hJ1 fun u49 hJ1 => ?_
    refine Exists.elim hJ1 fun u50 hJ1 => ?_
    refine Exists.elim hJ1 fun u51 hJ1 => ?_
    refine Exists.elim hJ1 fun u52 hJ1 => ?_
    refine Exists.elim hJ1 fun u53 hJ1 => ?_
    refine Exists.elim hJ1 fun u54 hJ1 => ?_
    refine Exists.elim hJ1 fun u55 hJ1 => ?_
    refine Exists.elim hJ1 fun u56 hJ1 => ?_
    refine Exists.elim hJ1 fun u57 hJ1 => ?_
    refine Exists.elim hJ1 fun u58 hJ1 => ?_
    refine Exists.elim hJ1 fun u59 hJ1 => ?_
    refine Exists.elim hJ1 fun u60 hJ1 => ?_
    refine Exists.elim hJ1 fun u61 hJ1 => ?_
    refine Exists.elim hJ1 fun u62 hJ1 => ?_
    refine Exists.elim hJ1 fun u63 hJ1 => ?_
    refine Exists.elim hJ1 fun u64 hJ1 => ?_
    refine Exists.elim hJ1 fun u65 hJ1 => ?_
    refine Exists.elim hJ1 fun u66 hJ1 => ?_
    refine Exists.elim hJ1 fun u67 hJ1 => ?_
    refine Exists.elim hJ1 fun u68 hJ1 => ?_
    refine Exists.elim hJ1 fun u69 hJ1 => ?_
    refine Exists.elim hJ1 fun u70 hJ1 => ?_
    refine Exists.elim hJ1 fun u71 hJ1 => ?_
    refine Exists.elim hJ1 fun u72 hJ1 => ?_
    refine Exists.elim hJ1 fun u73 hJ1 => ?_
    refine Exists.elim hJ1 fun u74 hJ1 => ?_
    refine Exists.elim hJ1 fun u75 hJ1 => ?_
    refine Exists.elim hJ1 fun u76 hJ1 => ?_
    refine Exists.elim hJ1 fun u77 hJ1 => ?_
    refine Exists.elim hJ1 fun u78 hJ1 => ?_
    refine Exists.elim hJ1 fun u79 hJ1 => ?_
    refine Exists.elim hJ1 fun u80 hJ1 => ?_
    refine Exists.elim hJ1 fun u81 hJ1 => ?_
    refine Exists.elim hJ1 fun u82 hJ1 => ?_
    refine Exists.elim hJ1 fun u83 hJ1 => ?_
    refine Exists.elim hJ1 fun u84 hJ1 => ?_
    refine Exists.elim hJ1 fun u85 hJ1 => ?_
    refine Exists.elim hJ1 fun u86 hJ1 => ?_
    refine Exists.elim hJ1 fun u87 hJ1 => ?_
    refine Exists.elim hJ1 fun u88 hJ1 => ?_
    refine Exists.elim hJ1 fun u89 hJ1 => ?_
    refine Exists.elim hJ1 fun u90 hJ1 => ?_
    refine Exists.elim hJ1 fun u91 hJ1 => ?_
    refine Exists.elim hJ1 fun u92 hJ1 => ?_
    refine Exists.elim hJ1 fun u93 hJ1 => ?_
    refine Exists.elim hJ1 fun u94 hJ1 => ?_
    refine Exists.elim hJ1 fun u95 hJ1 => ?_
    refine Exists.elim hJ1 fun u96 hJ1 => ?_
    refine Exists.elim hJ1 fun u97 hJ1 => ?_
    refine Exists.elim hJ1 fun u98 hJ1 => ?_
    subst hJ1
    dsimp only
    go_hide hQ
    obtain ⟨hi, hbd, ho, hb⟩ := hJ.out
    have HO := Lib.hid ho
    have HB := Lib.hid hb
    have HBD := Lib.hid hbd
    clear ho hb hbd hJ
    by_cases hlt : i < n
    · have hltz : (i : Int) < (n : Int) := by omega
      obtain ⟨b, off, ⟨st, sx, sy⟩, rfl, hbl, hrr, c0, -, -⟩ := smp_at (HL.out.below HB.out) hlt
      obtain ⟨sb, so, sv, rfl, hsb, hsv, s0⟩ := int_at (HS.out.below HB.out) hlt
      have HSV := Lib.hid hsv
      have HRV := Lib.hid hrr
      clear hsv hrr
      go_upto_region 14 with fail
      go_cut [10] (fun pv wx => pv = .pointer (some ⟨w1.heap.size, 0, none⟩) ∧ Hid (wx.heap[w1.heap.size]? = some (.cells #[.int .i64 sv, .int .i64 st, .int .i64 0] 57 (0, 0)) ∧ Below w1.heap.size w1 wx))
      case first =>
        go_region_held3 (fun w' => w'.cell? ⟨sb, so + i, none⟩ = some (.int .i64 sv) ∧ w'.cell? ⟨b, off + i * 3, none⟩ = some (.int .i64 st))
          (go_keep) (fail)
        all_goals
          go_wp2_with fail
          go_meet
          exact ⟨rfl, box_new w1 (.cells #[.int .i64 sv, .int .i64 st, .int .i64 0] 57), Below.drew ((Below.refl _ _).alloc (Nat.le_refl _) _)⟩
      case rest =>
        obtain ⟨rfl, hcut⟩ := hcut
        obtain ⟨hg9, hb9⟩ := hcut.out
        rename World => w9
        have HG9 := Lib.hid hg9
        have HB9 : Hid (Below w.heap.size w w9) := HB.out.trans (hb9.mono HB.out.size)
        have HO9 := Lib.hid (HO.out.below hb9)
        have hne : ov.ownBlock = none ∨ ov.ownBlock ≠ some w1.heap.size := mt_ge HO.out (Nat.le_refl _)
        have HNE := Lib.hid hne
        have hsz : w.heap.size ≤ w1.heap.size := HB.out.size
        clear hcut hg9 hb9 hne c0 s0
        have hw9 : w1.heap.size < w9.heap.size := box_lt HG9.out
        go_wp2_with fail
        go_loopw [9] (fun iv wr => ∃ (j : Nat) (til : Int), iv = .int .i64 j ∧ i ≤ j ∧ j ≤ n ∧ Hid (wr.heap[w1.heap.size]? = some (.cells #[.int .i64 sv, .int .i64 st, .int .i64 til] 57 (0, 0)) ∧ (j = i ∨ (i < j ∧ runsN ss l j = runsN ss l i ++ [⟨sv, st, til⟩])) ∧ V.Own 57 Rn.cod w.heap.size wr ov (runsN ss l i) ∧ Below w.heap.size w wr)) (fun iv _ => n - (intOf iv).toNat)
        case atStart => exact ⟨i, 0, rfl, Nat.le_refl _, hi, HG9.out, .inl rfl, HO9.out, HB9.out⟩
        case round =>
          obtain ⟨j, til, rfl, hij, hjn, hrel⟩ := hrel
          obtain ⟨hg, hrn, ho, hb⟩ := hrel.out
          have HG := Lib.hid hg
          have HRN := Lib.hid hrn
          have HOr := Lib.hid ho
          have HBr := Lib.hid hb
          clear hg hrn ho hb hrel
          obtain ⟨g0, g1, g2, -, -, -⟩ := box3_cells HG.out
          have G0 := cell_regrown g0
          by_cases hjl : j < n
          · have hjz : (j : Int) < (n : Int) := by omega
            obtain ⟨b2, off2, ⟨rt, rx, ry⟩, hrb, -, hrj, r0, -, -⟩ := smp_at (HL.out.below HBr.out) hjl
            cases hrb
            obtain ⟨sb2, so2, sj, hsb2, -, hsj, j0⟩ := int_at (HS.out.below HBr.out) hjl
            cases hsb2
            have J0 := cell_regrown j0
            have HSJ := Lib.hid hsj
            have HRJ := Lib.hid hrj
            clear hsj hrj j0
            by_cases hse : sj = sv
            · subst hse
              have HNX : Hid (runsN ss l (j + 1) = runsN ss l i ++ [⟨sj, st, rt⟩]) := by
                show _ = _
                have e1 : ss.getD j 0 = sj := by rw [List.getD_eq_getElem?_getD, HSJ.out]; rfl
                have e2 : (l.getD j default).t = rt := by rw [List.getD_eq_getElem?_getD, HRJ.out]; rfl
                rw [runsN, e1, e2]
                rcases HRN.out with h | ⟨-, h⟩
                · subst h
                  have e3 : rt = st := by have := HRJ.out; rw [HRV.out] at this; cases this; rfl
                  subst e3
                  exact runStep_new (fun r hr => by rw [← e1]; exact HBD.out hlt r hr)
                · rw [h]
                  exact runStep_same (r := ⟨sj, st, til⟩)
              go_upto_region 15 with fail
              refine wp_region_quiet_below (by assumption) (by kernel_rfl) ?_
              repeat (go_big_quiet_step (fail))
              refine wpQuiet_nil ?_
              intro w8 hw8
              obtain ⟨⟨nd, osq⟩, rfl⟩ := hw8
              have hbq : Below wr.heap.size wr (Go.Sort.grow (redrawn wr nd) osq) := below_regrown _ nd osq
              generalize Go.Sort.grow (redrawn wr nd) osq = w8 at hbq ⊢
              have HG8 := Lib.hid (box_below HG.out hbq)
              have HO8 := Lib.hid (HOr.out.below hbq)
              have HB8 : Hid (Below w.heap.size w w8) := HBr.out.trans (hbq.mono HBr.out.size)
              clear hbq G0 J0 g0 g1 g2 r0
              obtain ⟨g0, g1, g2, -, -, f2⟩ := box3_cells HG8.out
              obtain ⟨b2, off2, _, hrb, -, hrj, r0, -, -⟩ := smp_at (HL.out.below HB8.out) hjl
              cases hrb
              rw [HRJ.out] at hrj
              cases hrj
              simp only [] at r0
              go_wp2_with fail
              go_roundw
              case rel =>
                refine ⟨j + 1, rt, by go_num, by omega, by omega, ?_⟩
                have hs8 := mt_set w8 w1.heap.size 2 (.int .i64 rt)
                refine ⟨?_, .inr ⟨by omega, HNX.out⟩, HO8.out.kept hs8 HNE.out, ?_⟩
                · rw [heap_setCell_same w8 w1.heap.size 2 _ _ _ HG8.out]; rfl
                · exact HB8.out.setCell (p := ⟨w1.heap.size, 2, none⟩) hsz _
              case measure => simp [intOf]; omega
            · have hsd : (sj == sv) = false := by simpa using hse
              have hij2 : i < j := by
                rcases HRN.out with h | ⟨h, -⟩
                · exact absurd (by subst h; have := HSJ.out; rw [HSV.out] at this; cases this; rfl) hse
                · exact h
              go_upto_region 15 with fail
              refine wp_region_quiet_below (by assumption) (by kernel_rfl) ?_
              repeat (go_big_quiet_step (fail))
              refine wpQuiet_nil ?_
              intro w8 hw8
              obtain ⟨⟨nd, osq⟩, rfl⟩ := hw8
              have hbq : Below wr.heap.size wr (Go.Sort.grow (redrawn wr nd) osq) := below_regrown _ nd osq
              generalize Go.Sort.grow (redrawn wr nd) osq = w8 at hbq ⊢
              have HG8 := Lib.hid (box_below HG.out hbq)
              have HO8 := Lib.hid (HOr.out.below hbq)
              have HB8 : Hid (Below w.heap.size w w8) := HBr.out.trans (hbq.mono HBr.out.size)
              clear hbq G0 J0 r0 g0 g1 g2
              obtain ⟨g0, g1, g2, -, -, -⟩ := box3_cells HG8.out
              have hle8 : w.heap.size ≤ w8.heap.size := HB8.out.size
              obtain ⟨OL, hOL⟩ : ∃ O, runsN ss l i = O := ⟨_, rfl⟩
              have hol : OL.length ≤ i := by
                rw [← hOL]
                have hlen := HNL.out
                have hlen2 := HNS.out
                exact (runsN_ok HRR.out HSS.out (by omega) i (by omega)).2.2
              rw [hOL] at HO8
              have HOL := Lib.hid hOL
              have HM1 : Hid (OL.length + 1 ≤ maxLen) := by show _ ≤ _; unfold maxLen; omega
              have HM2 : Hid ((OL.length + 1) * 24 ≤ 140737488355328) := by show _ ≤ _; omega
              clear hOL hol
              go_wp2_with (at_builtin; go_loud (refine wpList_app eltRn rfl (.tmp 94) (.tmp 96) rfl (base := w.heap.size) ov OL rfl (HO8.out.alloc _) _ 1 1 [(⟨sv, st, til⟩ : Rn)] rfl (sl_new (c := Rn.cod) w8 #[.int .i64 sv, .int .i64 st, .int .i64 til] 57 [(⟨sv, st, til⟩ : Rn)] 1 rfl (by unfold maxLen; omega) rfl) HM1.out HM2.out (by simp; omega) ?_); intro v7 w7 ho7 hg7; have HO7 := Lib.hid ho7; have HB7 : Hid (Below w.heap.size w w7) := (HB8.out.alloc HB8.out.size _).trans (Ir.own_below (HO8.out.alloc _) hg7 (by simp; omega)); clear ho7 hg7)
              subst hQ
              go_step3
              have HRE : Hid (runsN ss l j = OL ++ [⟨sv, st, til⟩]) := by
                show _ = _
                rw [← HOL.out]
                rcases HRN.out with h | ⟨-, h⟩
                · exact absurd (by subst h; have := HSJ.out; rw [HSV.out] at this; cases this; rfl) hse
                · exact h
              refine ⟨rfl, ⟨j, v7, ⟨hjn, fun _ r hr => by rw [HRE.out, List.getLast?_concat] at hr; cases hr; rw [show ss.getD j 0 = sj by rw [List.getD_eq_getElem?_getD, HSJ.out]; rfl]; exact hse, by rw [HRE.out]; exact HO7.out, HB7.out⟩, _, _, _, _, _, _, _, _, _, _, _, _, _, _, _, _, _, _, _, _, _, _, _, _, _, _, _, _, _, _, _, _, _, _, _, _, _, _, _, _, _, _, _, _, _, _, _, _, _, _, _, _, _, _, _, _, _, _, _, _, _, _, _, _, _, _, _, _, _, _, _, _, _, _, _, _, _, _, _, _, _, _, _, _, _, _, _, _, _, _, _, _, _, _, _, rfl⟩, by simp [intOf]; omega⟩
          · have hjz : decide ((j : Int) < (n : Int)) = false := decide_eq_false (by omega)
            go_upto_region 15 with fail
            refine wp_region_quiet_below (by assumption) (by kernel_rfl) ?_
            repeat (go_big_quiet_step (fail))
            refine wpQuiet_nil ?_
            intro w8 hw8
            obtain ⟨⟨nd, osq⟩, rfl⟩ := hw8
            have hbq : Below wr.heap.size wr (Go.Sort.grow (redrawn wr nd) osq) := below_regrown _ nd osq
            generalize Go.Sort.grow (redrawn wr nd) osq = w8 at hbq ⊢
            have HG8 := Lib.hid (box_below HG.out hbq)
            have HO8 := Lib.hid (HOr.out.below hbq)
            have HB8 : Hid (Below w.heap.size w w8) := HBr.out.trans (hbq.mono HBr.out.size)
            clear hbq G0 g0 g1 g2
            obtain ⟨g0, g1, g2, -, -, -⟩ := box3_cells HG8.out
            have hle8 : w.heap.size ≤ w8.heap.size := HB8.out.size
            obtain ⟨OL, hOL⟩ : ∃ O, runsN ss l i = O := ⟨_, rfl⟩
            have hol : OL.length ≤ i := by
              rw [← hOL]
              have hlen := HNL.out
              have hlen2 := HNS.out
              exact (runsN_ok HRR.out HSS.out (by omega) i (by omega)).2.2
            rw [hOL] at HO8
            have HOL := Lib.hid hOL
            have HM1 : Hid (OL.length + 1 ≤ maxLen) := by show _ ≤ _; unfold maxLen; omega
            have HM2 : Hid ((OL.length + 1) * 24 ≤ 140737488355328) := by show _ ≤ _; omega
            clear hOL hol
            go_wp2_with (at_builtin; go_loud (refine wpList_app eltRn rfl (.tmp 94) (.tmp 96) rfl (base := w.heap.size) ov OL rfl (HO8.out.alloc _) _ 1 1 [(⟨sv, st, til⟩ : Rn)] rfl (sl_new (c := Rn.cod) w8 #[.int .i64 sv, .int .i64 st, .int .i64 til] 57 [(⟨sv, st, til⟩ : Rn)] 1 rfl (by unfold maxLen; omega) rfl) HM1.out HM2.out (by simp; omega) ?_); intro v7 w7 ho7 hg7; have HO7 := Lib.hid ho7; have HB7 : Hid (Below w.heap.size w w7) := (HB8.out.alloc HB8.out.size _).trans (Ir.own_below (HO8.out.alloc _) hg7 (by simp; omega)); clear ho7 hg7)
            subst hQ
            go_step3
            have HRE : Hid (runsN ss l j = OL ++ [⟨sv, st, til⟩]) := by
              show _ = _
              rw [← HOL.out]
              rcases HRN.out with h | ⟨-, h⟩
              · exact absurd hlt (by omega)
              · exact h
            refine ⟨rfl, ⟨j, v7, ⟨hjn, fun h => absurd h hjl, by rw [HRE.out]; exact HO7.out, HB7.out⟩, _, _, _, _, _, _, _, _, _, _, _, _, _, _, _, _, _, _, _, _, _, _, _, _, _, _, _, _, _, _, _, _, _, _, _, _, _, _, _, _, _, _, _, _, _, _, _, _, _, _, _, _, _, _, _, _, _, _, _, _, _, _, _, _, _, _, _, _, _, _, _, _, _, _, _, _, _, _, _, _, _, _, _, _, _, _, _, _, _, _, _, _, _, _, _, rfl⟩, by simp [intOf]; omega⟩
    · have hin : i = n := by omega
      have hid : decide ((i : Int) < (n : Int)) = false := decide_eq_false (by omega)
      have HIN := Lib.hid hin
      clear hin
      go_wp2_with fail
      subst hQ
      simp only [Exit.jump]
      go_ret2
      have hoo := HO.out
      rw [HIN.out, HNL.out] at hoo
      exact ⟨_, rfl, hoo, HB.out⟩
end Go.Proofs.YtlfbbahihenilaaGreat.Ne
