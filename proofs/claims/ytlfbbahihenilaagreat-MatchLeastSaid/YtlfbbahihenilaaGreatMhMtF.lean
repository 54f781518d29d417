/- Ways: the samples that are kept, the document's word: walked. -/
import Derived.Test.YtlfbbahihenilaaGreatMg13
import Derived.Test.YtlfbbahihenilaaGreatMg00
namespace Go.Proofs.YtlfbbahihenilaaGreat.Ne
open Go.RowKit Go.V Go.Proofs

theorem keepN_none {f : Flt} {l : List Smp} {k : Nat} (h : keepN f l k = []) : keepN f l (k + 1) = keepN f l k ++ [l.getD k default] := by
  have h0 : keepI f l k = [] := List.map_eq_nil_iff.1 h
  unfold keepN
  rw [keepI_none (by rw [h0]; rfl), List.map_append]
  rfl
theorem keepN_some {f : Flt} {l : List Smp} {k : Nat} {p : Smp} (h : (keepN f l k).getLast? = some p) : keepN f l (k + 1) = if okS f p (l.getD k default) then keepN f l k ++ [l.getD k default] else keepN f l k := by
  unfold keepN at h ⊢
  rw [List.getLast?_map] at h
  cases hj : (keepI f l k).getLast? with
  | none => rw [hj] at h; cases h
  | some j =>
    rw [hj] at h
    cases h
    rw [keepI_some hj]
    split
    · rw [List.map_append]; rfl
    · rfl

set_option maxHeartbeats 8000000 in
set_option maxRecDepth 100000 in
theorem rkeep_any (f : Flt) (a : Option Addr) (n cap : Nat) (l : List Smp) (w : World) (hn : n ≤ 2048) (h : Sl Smp.cod w a n cap l) :
    Calls Tryz.prog 22 #[f.val, .slice a n cap] w fun e w' => ∃ v u, e = .returned (.tuple #[v, u, .int .i64 (keepErr f l)]) ∧ V.Own 73 Smp.cod w.heap.size w' v (keptE f l) ∧ Below w.heap.size w w' := by
  obtain ⟨sp, gp⟩ := f
  have HN := Lib.hid h.hlen
  have h2048 : decide ((2048 : Int) < (n : Int)) = false := decide_eq_false (by omega)
  have mixed : Tryz.prog.follows .mixedOrders = true := by kernel_rfl
  obtain ⟨w0, hw0⟩ : ∃ w0, w.alloc (Flt.mk sp gp).box = w0 := ⟨_, rfl⟩
  have HX0 : Hid (w0.heap[w.heap.size]? = some (.cells #[.int .i64 sp, .int .i64 gp] 27 (0, 0))) := by rw [← hw0]; exact box_new w _
  have HB0 : Hid (Below w.heap.size w w0) := by rw [← hw0]; exact (Below.refl _ _).alloc (Nat.le_refl _) _
  have hsz : w.heap.size < w0.heap.size := box_lt HX0.out
  have HS := Lib.hid (h.below HB0.out)
  obtain ⟨x0, x1, -, -⟩ := box2_cells HX0.out
  clear h
  obtain ⟨b1, e1⟩ : ∃ b, mayF ⟨sp, gp⟩ = b := ⟨_, rfl⟩
  have E1 := Lib.hid e1
  obtain ⟨br, er⟩ : ∃ b, rightS l = b := ⟨_, rfl⟩
  have ER := Lib.hid er
  clear e1 er
  cases b1 with
  | false =>
    go_enter Tryz.func22, Tryz.ntmps22
    go_wp2_with (go_at_call 30; go_fit (rfmay_any ⟨sp, gp⟩ _); rintro e w1 ⟨rfl, hb1⟩; rw [E1.out]; have HC1 := Lib.hid hb1; have HB1 := Lib.hid (HB0.out.trans (hb1.mono HB0.out.size)); clear hb1)
    go_ret3
    have hk : keptE ⟨sp, gp⟩ l = [] := if_neg (by rw [E1.out]; simp)
    have he : keepErr ⟨sp, gp⟩ l = 2 := if_neg (by rw [E1.out]; simp)
    rw [hk, he]
    exact ⟨_, _, rfl, Own.nil, HB1.out⟩
  | true =>
    cases br with
    | false =>
      go_enter Tryz.func22, Tryz.ntmps22
      go_wp2_with (first
        | (go_at_call 30; go_fit (rfmay_any ⟨sp, gp⟩ _); rintro e w1 ⟨rfl, hb1⟩; rw [E1.out]; have HC1 := Lib.hid hb1; have HB1 := Lib.hid (HB0.out.trans (hb1.mono HB0.out.size)); clear hb1)
        | (go_at_call 59; go_fit (right06_any a n cap l _ hn (HS.out.below HC1.out)); rintro e w2 ⟨rfl, hb2⟩; rw [ER.out]; have HC2 : Hid (Below w0.heap.size w0 w2) := HC1.out.trans (hb2.mono HC1.out.size); have HB2 := Lib.hid (HB1.out.trans (hb2.mono HB1.out.size)); clear hb2))
      go_ret3
      have hk : keptE ⟨sp, gp⟩ l = [] := if_neg (by rw [ER.out]; simp)
      have he : keepErr ⟨sp, gp⟩ l = 2 := if_neg (by rw [ER.out]; simp)
      rw [hk, he]
      exact ⟨_, _, rfl, Own.nil, HB2.out⟩
    | true =>
      have HKT : Hid (keptE ⟨sp, gp⟩ l = keepN ⟨sp, gp⟩ l n) := by
        show _ = _
        rw [HN.out]
        exact if_pos ⟨E1.out, ER.out⟩
      have HET : Hid (keepErr ⟨sp, gp⟩ l = 0) := if_pos ⟨E1.out, ER.out⟩
      go_enter Tryz.func22, Tryz.ntmps22
      go_wp2_with (first
        | (go_at_call 30; go_fit (rfmay_any ⟨sp, gp⟩ _); rintro e w1 ⟨rfl, hb1⟩; rw [E1.out]; have HC1 := Lib.hid hb1; have HB1 := Lib.hid (HB0.out.trans (hb1.mono HB0.out.size)); clear hb1)
        | (go_at_call 59; go_fit (right06_any a n cap l _ hn (HS.out.below HC1.out)); rintro e w2 ⟨rfl, hb2⟩; rw [ER.out]; have HC2 : Hid (Below w0.heap.size w0 w2) := HC1.out.trans (hb2.mono HC1.out.size); have HB2 := Lib.hid (HB1.out.trans (hb2.mono HB1.out.size)); clear hb2))
      clear hw0 x0 x1
      have HX2 := Lib.hid (box_below HX0.out HC2.out)
      have HS2 := Lib.hid (HS.out.below HC2.out)
      go_loopw [7, 8, 9] (fun kv0 dv0 i wr => ∃ (j : Nat) (kv dv : Value), kv = kv0 ∧ dv = dv0 ∧ i = .int .i64 j ∧ j ≤ n ∧ Hid (V.Own 73 Smp.cod w2.heap.size wr kv (keepN ⟨sp, gp⟩ l j)) ∧ Hid (∃ D : List Int, D.length ≤ j ∧ V.Own 3 icod w2.heap.size wr dv D) ∧ Hid (Below w2.heap.size w2 wr)) (fun _ _ i _ => n - (intOf i).toNat)
      case atStart => exact ⟨0, _, _, rfl, rfl, rfl, by omega, Own.nil, ⟨[], Nat.le_refl _, Own.nil⟩, Below.refl _ _⟩
      case round =>
        obtain ⟨j, kv, dv, rfl, rfl, rfl, hj, ho, hd, hb⟩ := hrel
        by_cases hlt : j < n
        · have hltz : (j : Int) < (n : Int) := by omega
          obtain ⟨b, off, ⟨st, sx, sy⟩, rfl, hbl, hr, c0, c1, c2⟩ := smp_at (HS2.out.below hb.out) hlt
          have hsm := right_may ER.out _ (List.mem_of_getElem? hr)
          have HR := Lib.hid hr
          obtain ⟨D, hdl, hdo⟩ := hd.out
          have hdo := Lib.hid hdo
          have hkln : (keepN ⟨sp, gp⟩ l j).length ≤ j := by unfold keepN; rw [List.length_map]; exact keepI_len _ _ _
          have hksub : ∀ x ∈ keepN ⟨sp, gp⟩ l j, smpB x = true := fun x hx => right_may ER.out x (List.mem_of_mem_take ((keepN_sub ⟨sp, gp⟩ l j (by rw [← HN.out]; exact hj)).subset hx))
          obtain ⟨KL, hKL⟩ : ∃ K : List Smp, keepN ⟨sp, gp⟩ l j = K := ⟨_, rfl⟩
          rw [hKL] at ho hkln hksub
          have HKL := Lib.hid hKL
          have HM1 : Hid (KL.length + 1 ≤ maxLen) := by show _ ≤ _; unfold maxLen; omega
          have HM2 : Hid ((KL.length + 1) * 24 ≤ 140737488355328) := by show _ ≤ _; omega
          have HM3 : Hid (D.length + 1 ≤ maxLen) := by show _ ≤ _; unfold maxLen; omega
          have HM4 : Hid ((D.length + 1) * 8 ≤ 140737488355328) := by show _ ≤ _; omega
          have HKS := Lib.hid hksub
          have hgl : l.getD j default = ⟨st, sx, sy⟩ := by rw [List.getD_eq_getElem?_getD, HR.out]; rfl
          have HGL := Lib.hid hgl
          clear hgl hr hd hKL hksub
          obtain ⟨ka, kc, hkv, hks, -⟩ := ho.out.slice
          have HKK := Lib.hid hks
          clear hks
          by_cases hk0 : KL.length = 0
          · have hkz : decide ((0 : Int) < (KL.length : Int)) = false := decide_eq_false (by omega)
            have hKL0 : KL = [] := List.eq_nil_of_length_eq_zero hk0
            have HK0 := Lib.hid hKL0
            have HO9 := Lib.hid ho.out
            have HD9 := Lib.hid hdo.out
            have hle9 : w2.heap.size ≤ wr.heap.size := hb.out.size
            have HB9 := hb
            subst hkv
            go_wp2_with (at_builtin; go_loud (refine wpList_app eltSmp rfl (.tmp 57) (.tmp 62) rfl (base := w2.heap.size) (.slice ka KL.length kc) KL rfl (HO9.out.alloc _) _ 1 1 [(⟨st, sx, sy⟩ : Smp)] rfl (sl_new (c := Smp.cod) wr #[.int .i64 st, .int .i64 sx, .int .i64 sy] 73 [(⟨st, sx, sy⟩ : Smp)] 1 rfl (by unfold maxLen; omega) rfl) HM1.out HM2.out (by simp; omega) ?_); intro v8 w8 ho8 hg8; have HO8 := Lib.hid ho8; have HD8 := Lib.hid ((HD9.out.alloc _).kept hg8 (own_apart (by decide) HD9.out HO9.out)); have HB8 : Hid (Below w2.heap.size w2 w8) := (HB9.out.alloc HB9.out.size _).trans (Ir.own_below (HO9.out.alloc _) hg8 (by simp; omega)); clear ho8 hg8)
            go_roundw
            case rel =>
              have hkk : keepN ⟨sp, gp⟩ l (j + 1) = keepN ⟨sp, gp⟩ l j ++ [⟨st, sx, sy⟩] := by rw [keepN_none (by rw [HKL.out, HK0.out]), HGL.out]
              refine ⟨j + 1, _, _, rfl, rfl, by go_num, by omega, ?_, ⟨D, by omega, HD8.out⟩, HB8.out⟩
              show V.Own _ _ _ _ _ _
              rw [hkk, HKL.out]
              exact HO8.out
            case measure => simp [intOf]; omega
          · obtain ⟨m, hm⟩ : ∃ m, KL.length = m + 1 := ⟨KL.length - 1, by omega⟩
            have hkz : decide ((0 : Int) < (KL.length : Int)) = true := decide_eq_true (by omega)
            have hwm : IntKind.i64.wrap ((KL.length : Int) - 1) = (m : Int) := by rw [IntKind.wrap_i64]; omega
            have hmz : (m : Int) < (KL.length : Int) := by omega
            obtain ⟨kb, ko, ⟨gt, gx, gy⟩, hka, hkb, hp, d0, d1, d2⟩ := smp_at HKK.out (i := m) (by omega)
            subst hka
            have HLP : Hid ((keepN ⟨sp, gp⟩ l j).getLast? = some ⟨gt, gx, gy⟩) := by
              show _ = _
              rw [HKL.out, List.getLast?_eq_getElem?, show KL.length - 1 = m by omega]
              exact hp
            have hsp := HKS.out _ (List.mem_of_getElem? hp)
            have hba : Below wr.heap.size wr (wr.alloc (.cells #[.int .i64 gt, .int .i64 gx, .int .i64 gy] 73)) := (Below.refl _ _).alloc (Nat.le_refl _) _
            have hX9 := box_below HX2.out (hb.out.trans (hba.mono hb.out.size))
            have hT9 := box_new wr (.cells #[.int .i64 gt, .int .i64 gx, .int .i64 gy] 73)
            obtain ⟨x0, x1, -, -⟩ := box2_cells hX9
            obtain ⟨t0, t1, t2, -, -, -⟩ := box3_cells hT9
            obtain ⟨b5, off5, _, hc5, -, hr5, s0, s1, s2⟩ := smp_at (HS2.out.below (hb.out.trans (hba.mono hb.out.size))) hlt
            cases hc5
            rw [HR.out] at hr5
            cases hr5
            simp only [] at s0 s1 s2
            have X0 := cell_regrown x0
            have X1 := cell_regrown x1
            have T0 := cell_regrown t0
            have T1 := cell_regrown t1
            have T2 := cell_regrown t2
            have S0 := cell_regrown s0
            have S1 := cell_regrown s1
            have S2 := cell_regrown s2
            have hin := smp_in hsm
            have hin' := smp_in hsp
            have hfi := mayF_in E1.out
            simp only [] at hin hin' hfi
            have hws : IntKind.i64.wrap (gt + gp) = gt + gp := by rw [IntKind.wrap_i64]; omega
            obtain ⟨cb, hcb⟩ : ∃ b, canE ⟨sp, gp⟩ ⟨gt, gx, gy⟩ ⟨st, sx, sy⟩ = b := ⟨_, rfl⟩
            have q1 : ∀ nd osq, Calls Tryz.prog 60 #[(Flt.mk sp gp).val, (Smp.mk gt gx gy).val, (Smp.mk st sx sy).val] (Go.Sort.grow (redrawn (wr.alloc (.cells #[.int .i64 gt, .int .i64 gx, .int .i64 gy] 73)) nd) osq) fun e w' => e = .returned (.bool cb) ∧ Below (Go.Sort.grow (redrawn (wr.alloc (.cells #[.int .i64 gt, .int .i64 gx, .int .i64 gy] 73)) nd) osq).heap.size (Go.Sort.grow (redrawn (wr.alloc (.cells #[.int .i64 gt, .int .i64 gx, .int .i64 gy] 73)) nd) osq) w' := fun nd osq => (rcan_any ⟨sp, gp⟩ ⟨gt, gx, gy⟩ ⟨st, sx, sy⟩ _).mono fun e w' ⟨k1, k2⟩ => ⟨by rw [k1, hcb], k2⟩
            have HOK : Hid (keepN ⟨sp, gp⟩ l (j + 1) = if (decide (gp ≤ st - gt) && cb) = true then keepN ⟨sp, gp⟩ l j ++ [⟨st, sx, sy⟩] else keepN ⟨sp, gp⟩ l j) := by
              show _ = _
              rw [keepN_some HLP.out, HGL.out]
              unfold okS
              rw [hcb]
            clear hcb hp hsp hsm hin hin' hfi hX9 hT9 x0 x1 t0 t1 t2 s0 s1 s2 hm
            subst hkv
            by_cases hgap : gt + gp ≤ st
            · have hgd : decide (gt + gp ≤ st) = true := decide_eq_true hgap
              cases cb with
              | false =>
                go_upto_region 15 with fail
                refine wp_region_quiet_below (by assumption) (by kernel_rfl) ?_
                repeat (go_big_quiet_step ((go_at_call 60; exact Calls.regrown_of (q1 _ _))))
                refine wpQuiet_nil ?_
                intro w9 hw9
                obtain ⟨⟨nd, osq⟩, rfl⟩ := hw9
                have hbq : Hid (Below wr.heap.size wr (Go.Sort.grow (redrawn (wr.alloc (.cells #[.int .i64 gt, .int .i64 gx, .int .i64 gy] 73)) nd) osq)) := hba.trans ((below_regrown _ nd osq).mono hba.size)
                clear T0 T1 T2 S0 S1 S2 X0 X1 q1
                generalize Go.Sort.grow (redrawn (wr.alloc (.cells #[.int .i64 gt, .int .i64 gx, .int .i64 gy] 73)) nd) osq = w9 at hbq ⊢
                have HO9 := Lib.hid (ho.out.below hbq.out)
                have HD9 := Lib.hid (hdo.out.below hbq.out)
                have HS9 := Lib.hid (HS2.out.below (hb.out.trans (hbq.out.mono hb.out.size)))
                have HB9 : Hid (Below w2.heap.size w2 w9) := hb.out.trans (hbq.out.mono hb.out.size)
                have hle9 : w2.heap.size ≤ w9.heap.size := HB9.out.size
                clear c0 c1 c2 d0 d1 d2
                go_wp2_with (at_builtin; go_loud (refine wpList_app Ir.eltI rfl (.tmp 64) (.tmp 66) rfl (base := w2.heap.size) dv D rfl (HD9.out.alloc _) _ 1 1 [(j : Int)] rfl (sl_new (c := icod) w9 #[.int .i64 (j : Int)] 3 [(j : Int)] 1 rfl (by unfold maxLen; omega) rfl) HM3.out HM4.out (by simp; omega) ?_); intro v8 w8 ho8 hg8; have HD8 := Lib.hid ho8; have HO8 := Lib.hid ((HO9.out.alloc _).kept hg8 (own_apart (by decide) HO9.out HD9.out)); have HB8 : Hid (Below w2.heap.size w2 w8) := (HB9.out.alloc HB9.out.size _).trans (Ir.own_below (HD9.out.alloc _) hg8 (by simp; omega)); clear ho8 hg8)
                go_roundw
                case rel =>
                  have hkk : keepN ⟨sp, gp⟩ l (j + 1) = keepN ⟨sp, gp⟩ l j := by rw [HOK.out, Bool.and_false]; rfl
                  refine ⟨j + 1, _, _, rfl, rfl, by go_num, by omega, ?_, ⟨D ++ [(j : Int)], by rw [List.length_append]; simp; omega, HD8.out⟩, HB8.out⟩
                  show V.Own _ _ _ _ _ _
                  rw [hkk, HKL.out]
                  exact HO8.out
                case measure => simp [intOf]; omega
              | true =>
                go_upto_region 15 with fail
                refine wp_region_quiet_below (by assumption) (by kernel_rfl) ?_
                repeat (go_big_quiet_step ((go_at_call 60; exact Calls.regrown_of (q1 _ _))))
                refine wpQuiet_nil ?_
                intro w9 hw9
                obtain ⟨⟨nd, osq⟩, rfl⟩ := hw9
                have hbq : Hid (Below wr.heap.size wr (Go.Sort.grow (redrawn (wr.alloc (.cells #[.int .i64 gt, .int .i64 gx, .int .i64 gy] 73)) nd) osq)) := hba.trans ((below_regrown _ nd osq).mono hba.size)
                clear T0 T1 T2 S0 S1 S2 X0 X1 q1
                generalize Go.Sort.grow (redrawn (wr.alloc (.cells #[.int .i64 gt, .int .i64 gx, .int .i64 gy] 73)) nd) osq = w9 at hbq ⊢
                have HO9 := Lib.hid (ho.out.below hbq.out)
                have HD9 := Lib.hid (hdo.out.below hbq.out)
                have HS9 := Lib.hid (HS2.out.below (hb.out.trans (hbq.out.mono hb.out.size)))
                have HB9 : Hid (Below w2.heap.size w2 w9) := hb.out.trans (hbq.out.mono hb.out.size)
                have hle9 : w2.heap.size ≤ w9.heap.size := HB9.out.size
                clear c0 c1 c2 d0 d1 d2
                obtain ⟨b8, off8, _, hc8, hbl8, hr8, c0, c1, c2⟩ := smp_at HS9.out hlt
                cases hc8
                rw [HR.out] at hr8
                cases hr8
                simp only [] at c0 c1 c2
                go_wp2_with (at_builtin; go_loud (refine wpList_app eltSmp rfl (.tmp 57) (.tmp 62) rfl (base := w2.heap.size) (.slice (some ⟨kb, ko, none⟩) KL.length kc) KL rfl (HO9.out.alloc _) _ 1 1 [(⟨st, sx, sy⟩ : Smp)] rfl (sl_new (c := Smp.cod) w9 #[.int .i64 st, .int .i64 sx, .int .i64 sy] 73 [(⟨st, sx, sy⟩ : Smp)] 1 rfl (by unfold maxLen; omega) rfl) HM1.out HM2.out (by simp; omega) ?_); intro v8 w8 ho8 hg8; have HO8 := Lib.hid ho8; have HD8 := Lib.hid ((HD9.out.alloc _).kept hg8 (own_apart (by decide) HD9.out HO9.out)); have HB8 : Hid (Below w2.heap.size w2 w8) := (HB9.out.alloc HB9.out.size _).trans (Ir.own_below (HO9.out.alloc _) hg8 (by simp; omega)); clear ho8 hg8)
                go_roundw
                case rel =>
                  have hkk : keepN ⟨sp, gp⟩ l (j + 1) = keepN ⟨sp, gp⟩ l j ++ [⟨st, sx, sy⟩] := by rw [HOK.out, show decide (gp ≤ st - gt) = true from decide_eq_true (by omega)]; rfl
                  refine ⟨j + 1, _, _, rfl, rfl, by go_num, by omega, ?_, ⟨D, by omega, HD8.out⟩, HB8.out⟩
                  show V.Own _ _ _ _ _ _
                  rw [hkk, HKL.out]
                  exact HO8.out
                case measure => simp [intOf]; omega
            · have hgd : decide (gt + gp ≤ st) = false := decide_eq_false hgap
              go_upto_region 15 with fail
              refine wp_region_quiet_below (by assumption) (by kernel_rfl) ?_
              repeat (go_big_quiet_step ((go_at_call 60; exact Calls.regrown_of (q1 _ _))))
              refine wpQuiet_nil ?_
              intro w9 hw9
              obtain ⟨⟨nd, osq⟩, rfl⟩ := hw9
              have hbq : Hid (Below wr.heap.size wr (Go.Sort.grow (redrawn (wr.alloc (.cells #[.int .i64 gt, .int .i64 gx, .int .i64 gy] 73)) nd) osq)) := hba.trans ((below_regrown _ nd osq).mono hba.size)
              clear T0 T1 T2 S0 S1 S2 X0 X1 q1
              generalize Go.Sort.grow (redrawn (wr.alloc (.cells #[.int .i64 gt, .int .i64 gx, .int .i64 gy] 73)) nd) osq = w9 at hbq ⊢
              have HO9 := Lib.hid (ho.out.below hbq.out)
              have HD9 := Lib.hid (hdo.out.below hbq.out)
              have HS9 := Lib.hid (HS2.out.below (hb.out.trans (hbq.out.mono hb.out.size)))
              have HB9 : Hid (Below w2.heap.size w2 w9) := hb.out.trans (hbq.out.mono hb.out.size)
              have hle9 : w2.heap.size ≤ w9.heap.size := HB9.out.size
              clear c0 c1 c2 d0 d1 d2
              go_wp2_with (at_builtin; go_loud (refine wpList_app Ir.eltI rfl (.tmp 64) (.tmp 66) rfl (base := w2.heap.size) dv D rfl (HD9.out.alloc _) _ 1 1 [(j : Int)] rfl (sl_new (c := icod) w9 #[.int .i64 (j : Int)] 3 [(j : Int)] 1 rfl (by unfold maxLen; omega) rfl) HM3.out HM4.out (by simp; omega) ?_); intro v8 w8 ho8 hg8; have HD8 := Lib.hid ho8; have HO8 := Lib.hid ((HO9.out.alloc _).kept hg8 (own_apart (by decide) HO9.out HD9.out)); have HB8 : Hid (Below w2.heap.size w2 w8) := (HB9.out.alloc HB9.out.size _).trans (Ir.own_below (HD9.out.alloc _) hg8 (by simp; omega)); clear ho8 hg8)
              go_roundw
              case rel =>
                have hkk : keepN ⟨sp, gp⟩ l (j + 1) = keepN ⟨sp, gp⟩ l j := by rw [HOK.out, show decide (gp ≤ st - gt) = false from decide_eq_false (by omega)]; rfl
                refine ⟨j + 1, _, _, rfl, rfl, by go_num, by omega, ?_, ⟨D ++ [(j : Int)], by rw [List.length_append]; simp; omega, HD8.out⟩, HB8.out⟩
                show V.Own _ _ _ _ _ _
                rw [hkk, HKL.out]
                exact HO8.out
              case measure => simp [intOf]; omega
        · have hjn : j = n := by omega
          have hnd : decide ((j : Int) < (n : Int)) = false := decide_eq_false (by omega)
          have HJN := Lib.hid hjn
          clear hd hjn
          go_wp2_with fail
          go_ret3
          rw [HET.out, HKT.out]
          have hoo := ho.out
          rw [HJN.out] at hoo
          exact ⟨_, _, rfl, hoo.lower HB2.out.size, HB2.out.trans (hb.out.mono HB2.out.size)⟩
end Go.Proofs.YtlfbbahihenilaaGreat.Ne
