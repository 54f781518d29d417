/- Frames, taken: walked. -/
/- Frames, taken whole: walked. -/
import Derived.Test.YtbdkhgenkekioaaWiX
import Derived.Test.YtbdkhgenkekioaaWiJ
import Derived.Deep.RegionHeld3
namespace Go.Proofs.Ytbdkhgenkekioaa.Wi
open Go.RowKit Go.V Go.Proofs Go.Sort

theorem takeF_nil : takeF [] = (0, [], 0, 10) := rfl
theorem takeF_mark {m : Int} {b : List Int} (h : m ≠ 199) : takeF (m :: b) = (0, [], 0, 11) := by
  unfold takeF; simp only []; rw [if_pos h]
theorem takeF_one : takeF [199] = (0, [], 0, 10) := rfl
theorem takeF_cons (kd : Int) (b2 : List Int) : takeF (199 :: kd :: b2) = (if (takeV b2).2.2 ≠ 0 then (0, [], 0, (takeV b2).2.2) else
      if 1048576 < (takeV b2).1 then (0, [], 0, 3) else
      if (199 :: kd :: b2).length < 2 + (takeV b2).2.1 + (takeV b2).1 + 4 then (0, [], 0, 10) else
      if ((199 :: kd :: b2).drop (2 + (takeV b2).2.1 + (takeV b2).1)).take 4 ≠ sumB (crcE ((199 :: kd :: b2).take (2 + (takeV b2).2.1 + (takeV b2).1))) then (0, [], 0, 12) else
      (kd, ((199 :: kd :: b2).take (2 + (takeV b2).2.1 + (takeV b2).1)).drop (2 + (takeV b2).2.1), 2 + (takeV b2).2.1 + (takeV b2).1 + 4, 0)) := by
  unfold takeF; simp only []; rw [if_neg (by simp)]
set_option maxHeartbeats 4000000 in
set_option maxRecDepth 100000 in
theorem ftake_any (a : Option Addr) (n cap : Nat) (b : List Int) (w : World) (h : Sl bcod w a n cap b) (hB : Byt b) (hn : n ≤ 1000000000) :
    Calls Try.prog 121 #[.slice a n cap] w fun e w' => ∃ v, e = .returned (.tuple #[.int .u8 (takeF b).1, v, .int .i64 ((takeF b).2.2.1 : Int), .int .i64 (takeF b).2.2.2]) ∧ ((takeF b).2.2.2 ≠ 0 → v = .slice none 0 0) ∧ V.Own 5 bcod w.heap.size w' v (takeF b).2.1 ∧ Below w.heap.size w w' := by
  have HLN : Hid (n = b.length) := h.hlen
  have HS := Lib.hid h
  have HBY := Lib.hid hB
  clear h hB
  go_enter Try.func121, Try.ntmps121
  go_wp2_with fail
  refine scope_jumps 0 (fun a' w' => ∃ (e : Int) (u1 u2 u3 u4 u6 u7 u8 u9 u10 u11 u12 u13 u14 u15 u16 u17 u18 u19 u20 u21 u22 u23 u24 u25 u26 u27 u28 u29 u30 u31 u32 u33 u34 u35 u36 u37 u38 u39 u40 u41 u42 u43 u44 u45 u46 u47 u48 u49 u50 u51 u52 u53 u54 u55 u56 u57 u58 u59 u60 u61 u62 u63 : Value), a' = { tmps := #[.slice a n cap, u1, u2, u3, u4, .int .i64 e, u6, u7, u8, u9, u10, u11, u12, u13, u14, u15, u16, u17, u18, u19, u20, u21, u22, u23, u24, u25, u26, u27, u28, u29, u30, u31, u32, u33, u34, u35, u36, u37, u38, u39, u40, u41, u42, u43, u44, u45, u46, u47, u48, u49, u50, u51, u52, u53, u54, u55, u56, u57, u58, u59, u60, u61, u62, u63], defers := [] } ∧ e ≠ 0 ∧ takeF b = (0, [], 0, e) ∧ Below w.heap.size w w') (fun _ _ => 0) rfl ?_ ?_
  · intro hpass
    have HPS := Lib.hid hpass
    clear hpass
    by_cases h0 : n = 0
    · have hT : takeF b = (0, [], 0, 10) := by
        have : b = [] := List.eq_nil_of_length_eq_zero (by rw [← HLN.out]; exact h0)
        rw [this]; rfl
      have HT := Lib.hid hT
      clear hT
      subst h0
      go_wp2_with fail
      go_step3
      exact ⟨rfl, 10, _, _, _, _, _, _, _, _, _, _, _, _, _, _, _, _, _, _, _, _, _, _, _, _, _, _, _, _, _, _, _, _, _, _, _, _, _, _, _, _, _, _, _, _, _, _, _, _, _, _, _, _, _, _, _, _, _, _, _, _, _, _, rfl, by decide, HT.out, Below.refl _ _⟩
    have hn0 : ((n : Int) == 0) = false := by rw [beq_eq_false_iff_ne]; omega
    have hlt0 : (0 : Int) < (n : Int) := by omega
    obtain ⟨m, b1, rfl⟩ : ∃ m b1, b = m :: b1 := by
      cases b with
      | nil => exact absurd (by rw [HLN.out]; rfl) h0
      | cons m b1 => exact ⟨m, b1, rfl⟩
    obtain ⟨g, off, m', rfl, hgl, hm', hc0⟩ := byte_at HS.out (show 0 < n by omega)
    cases hm'
    replace hc0 : w.cell? ⟨g, off, none⟩ = some (.int .u8 m) := hc0
    by_cases hmk : m = 199
    case neg =>
      have hd : (m != 199) = true := by simpa using hmk
      have HT := Lib.hid (takeF_mark (b := b1) hmk)
      clear hmk
      go_wp2_with fail
      go_step3
      exact ⟨rfl, 11, _, _, _, _, _, _, _, _, _, _, _, _, _, _, _, _, _, _, _, _, _, _, _, _, _, _, _, _, _, _, _, _, _, _, _, _, _, _, _, _, _, _, _, _, _, _, _, _, _, _, _, _, _, _, _, _, _, _, _, _, _, _, rfl, by decide, HT.out, Below.refl _ _⟩
    subst hmk
    cases b1 with
    | nil =>
      have hd : ((n : Int) == 1) = true := by
        have := HLN.out
        rw [beq_iff_eq]; simp at this; omega
      go_wp2_with fail
      go_step3
      exact ⟨rfl, 10, _, _, _, _, _, _, _, _, _, _, _, _, _, _, _, _, _, _, _, _, _, _, _, _, _, _, _, _, _, _, _, _, _, _, _, _, _, _, _, _, _, _, _, _, _, _, _, _, _, _, _, _, _, _, _, _, _, _, _, _, _, _, rfl, by decide, takeF_one, Below.refl _ _⟩
    | cons kd b2 =>
    have hn2 : n = b2.length + 2 := HLN.out
    have hd : ((n : Int) == 1) = false := by rw [beq_eq_false_iff_ne]; omega
    have hle2 : (2 : Int) ≤ (n : Int) := by omega
    obtain ⟨pa, pc, hr1, hs1⟩ := bfrom HS.out (show 2 ≤ n by omega)
    replace hr1 : ∀ W, (Instr.slice 47 (.slice (some ⟨g, off, none⟩) n cap) (some (.int .i64 2)) none none).run Try.prog W = .ok (.slice pa (n - 2) pc) W := hr1
    replace hs1 : Sl bcod w pa (n - 2) pc b2 := hs1
    obtain ⟨k2, hk2⟩ : ∃ k2, n - 2 = k2 := ⟨_, rfl⟩
    rw [hk2] at hr1 hs1
    have hk9 : k2 ≤ 1000000000 := by omega
    have HS1 := Lib.hid hs1
    have HB2 : Hid (Byt b2) := fun x hx => HBY.out x (by simp [hx])
    have HTF := Lib.hid (takeF_cons kd b2)
    obtain ⟨T, hT⟩ : ∃ T, takeV b2 = T := ⟨_, rfl⟩
    obtain ⟨N, K, E⟩ := T
    rw [hT] at HTF
    simp only [] at HTF
    have HT := Lib.hid hT
    have HN2 := Lib.hid hn2
    have HK2 := Lib.hid hk2
    clear hs1 hT hn2 hk2
    by_cases hE : E = 0
    case neg =>
      have hde : (E != 0) = true := by simpa using hE
      have HTE : Hid (takeF (199 :: kd :: b2) = (0, [], 0, E)) := by show _ = _; rw [HTF.out, if_pos hE]
      have HE := Lib.hid hE
      clear hE
      go_wp2_with (go_at_call 129; go_loud (refine (vtake_any pa k2 pc b2 _ HS1.out HB2.out hk9).mono ?_); rintro e w1 ⟨rfl, hb1⟩; rw [HT.out]; have HB1 := Lib.hid hb1; clear hb1)
      go_step3
      exact ⟨rfl, E, _, _, _, _, _, _, _, _, _, _, _, _, _, _, _, _, _, _, _, _, _, _, _, _, _, _, _, _, _, _, _, _, _, _, _, _, _, _, _, _, _, _, _, _, _, _, _, _, _, _, _, _, _, _, _, _, _, _, _, _, _, _, rfl, HE.out, HTE.out, HB1.out⟩
    subst hE
    rw [if_neg (by simp)] at HTF
    by_cases hN : 1048576 < N
    · have hdn : decide ((1048576 : Int) < (N : Int)) = true := decide_eq_true (by omega)
      have HTE : Hid (takeF (199 :: kd :: b2) = (0, [], 0, 3)) := by show _ = _; rw [HTF.out, if_pos hN]
      clear hN
      go_wp2_with (go_at_call 129; go_loud (refine (vtake_any pa k2 pc b2 _ HS1.out HB2.out hk9).mono ?_); rintro e w1 ⟨rfl, hb1⟩; rw [HT.out]; have HB1 := Lib.hid hb1; clear hb1)
      go_step3
      exact ⟨rfl, 3, _, _, _, _, _, _, _, _, _, _, _, _, _, _, _, _, _, _, _, _, _, _, _, _, _, _, _, _, _, _, _, _, _, _, _, _, _, _, _, _, _, _, _, _, _, _, _, _, _, _, _, _, _, _, _, _, _, _, _, _, _, _, rfl, by decide, HTE.out, HB1.out⟩
    rw [if_neg hN] at HTF
    have hdn : decide ((1048576 : Int) < (N : Int)) = false := decide_eq_false (by omega)
    have HKB : Hid (K ≤ b2.length) := (takeV_canon HB2.out HT.out).2.2
    obtain ⟨q, hq⟩ : ∃ q, 2 + K + N = q := ⟨_, rfl⟩
    have hqi : (2 : Int) + (K : Int) + (N : Int) = (q : Int) := by omega
    have hKq : 2 + K ≤ q := by omega
    have hK9 : (K : Int) ≤ 1000000000 := by have := HKB.out; have := HN2.out; omega
    have hq9 : q ≤ 2000000000 := by omega
    rw [hq] at HTF
    by_cases hl : n < q + 4
    · have hdl : decide ((n : Int) < (q : Int) + 4) = true := decide_eq_true (by omega)
      have HTE : Hid (takeF (199 :: kd :: b2) = (0, [], 0, 10)) := by show _ = _; rw [HTF.out, if_pos (by rw [← HLN.out]; exact hl)]
      have HQ := Lib.hid hq
      clear hl hq
      go_wp2_with (go_at_call 129; go_loud (refine (vtake_any pa k2 pc b2 _ HS1.out HB2.out hk9).mono ?_); rintro e w1 ⟨rfl, hb1⟩; rw [HT.out]; have HB1 := Lib.hid hb1; clear hb1)
      go_step3
      exact ⟨rfl, 10, _, _, _, _, _, _, _, _, _, _, _, _, _, _, _, _, _, _, _, _, _, _, _, _, _, _, _, _, _, _, _, _, _, _, _, _, _, _, _, _, _, _, _, _, _, _, _, _, _, _, _, _, _, _, _, _, _, _, _, _, _, _, rfl, by decide, HTE.out, HB1.out⟩
    rw [if_neg (by rw [← HLN.out]; exact hl)] at HTF
    have hdl : decide ((n : Int) < (q : Int) + 4) = false := decide_eq_false (by omega)
    obtain ⟨pb, pcb, hr2, hs2⟩ := bpiece HS.out (show q ≤ q + 4 by omega) (show q + 4 ≤ n by omega)
    obtain ⟨hr3, hs3⟩ := bupto HS.out (show q ≤ n by omega)
    obtain ⟨pe, pce, hr4, hs4⟩ := bpiece HS.out (show 2 + K ≤ q from hKq) (show q ≤ n by omega)
    obtain ⟨B, hBd⟩ : ∃ B, (199 :: kd :: b2 : List Int) = B := ⟨_, rfl⟩
    rw [hBd] at HTF hs2 hs3 hs4 HBY HS HLN ⊢
    rw [show q + 4 - q = 4 by omega] at hr2 hs2
    have e4 : (B.take (q + 4)).drop q = (B.drop q).take 4 := by rw [List.drop_take, show q + 4 - q = 4 by omega]
    rw [e4] at hs2
    have HS2 := Lib.hid hs2
    have HS3 := Lib.hid hs3
    have HS4 := Lib.hid hs4
    obtain ⟨y4, hy4⟩ : ∃ y : Int, ((q + 4 : Nat) : Int) = y := ⟨_, rfl⟩
    obtain ⟨y2, hy2⟩ : ∃ y : Int, ((2 + K : Nat) : Int) = y := ⟨_, rfl⟩
    rw [hy4] at hr2
    rw [hy2] at hr4
    have HBQ : Hid (Byt (B.take q)) := HBY.out.take _
    have HBP : Hid (Byt ((B.drop q).take 4)) := (HBY.out.drop _).take _
    have hq10 : q ≤ 1000000000 := by omega
    have hKN : q - (2 + K) ≤ 1000000000 := by omega
    have HCC : Hid (crcE (B.take q) < 4294967296) := by show _ < _; unfold crcE; omega
    have HQ := Lib.hid hq
    have HBD := Lib.hid hBd
    have HKQ := Lib.hid hKq
    clear hq hBd hs2 hs3 hs4 e4 hl
    go_upto_region 15 with (go_at_call 129; go_loud (refine (vtake_any pa k2 pc b2 _ HS1.out HB2.out hk9).mono ?_); rintro e w1 ⟨rfl, hb1⟩; rw [HT.out]; have HB1 := Lib.hid hb1; clear hb1)
    have hw4 : IntKind.i64.wrap ((q : Int) + 4) = y4 := by rw [← hy4, IntWalk.i64_in _ (by omega)]; omega
    have hw2 : IntKind.i64.wrap (2 + (K : Int)) = y2 := by rw [← hy2, IntWalk.i64_in _ (by omega)]; omega
    go_region_held3 (fun _ => True) (trivial)
      (first
        | (go_at_call 120; go_loud (refine (csum_any (some ⟨g, off, none⟩) q cap (B.take q) w1.drew (HS3.out.below HB1.out.drew) HBQ.out hq10).mono ?_); rintro e w2 ⟨rfl, hb2⟩; have HB2' := Lib.hid (HB1.out.drew.trans (hb2.mono HB1.out.size)); clear hb2)
        | (go_at_call 119; go_loud (refine (cbytes_any (crcE (B.take q)) w2 HCC.out).mono ?_); rintro e w3 ⟨v3, rfl, ho3, hb3⟩; obtain ⟨a3, c3, rfl, hsl3, -⟩ := ho3.slice; have HSL3 := Lib.hid hsl3; have HB3 := Lib.hid (HB2'.out.trans (hb3.mono HB2'.out.size)); clear ho3 hb3 hsl3)
        | (go_at_call 141; go_loud (refine (bequal_any pb 4 pcb ((B.drop q).take 4) a3 _ c3 (sumB (crcE (B.take q))) w3 (HS2.out.below HB3.out) HSL3.out HBP.out (sumB_byt _ HCC.out)).mono ?_); rintro e w4 ⟨rfl, rfl⟩))
    clear hw4
    obtain ⟨bb, hbb⟩ : ∃ bb, decide ((B.drop q).take 4 = sumB (crcE (B.take q))) = bb := ⟨_, rfl⟩
    rw [hbb]
    cases bb with
    | false =>
      have HTE : Hid (takeF B = (0, [], 0, 12)) := by show _ = _; rw [HTF.out, if_pos (of_decide_eq_false hbb)]
      clear hbb
      go_wp2_with fail
      go_step3
      exact ⟨rfl, 12, _, _, _, _, _, _, _, _, _, _, _, _, _, _, _, _, _, _, _, _, _, _, _, _, _, _, _, _, _, _, _, _, _, _, _, _, _, _, _, _, _, _, _, _, _, _, _, _, _, _, _, _, _, _, _, _, _, _, _, _, _, _, rfl, by decide, HTE.out, HB3.out⟩
    | true =>
      have HTE : Hid (takeF B = (kd, List.drop (2 + K) (List.take q B), q + 4, 0)) := by show _ = _; rw [HTF.out, if_neg (fun e => e (of_decide_eq_true hbb))]
      clear hbb
      obtain ⟨g', off', kd', e1, hgl3, hk1, hc1⟩ := byte_at (HS.out.below HB3.out) (show 1 < n by omega)
      cases e1
      have hkd : kd' = kd := by rw [← HBD.out] at hk1; exact (Option.some.inj hk1).symm
      subst hkd
      have hlt1 : (1 : Int) < (n : Int) := by omega
      go_upto_region 17 with fail
      go_region_held3 (fun w' => w'.cell? ⟨g, off + 1, none⟩ = some (.int .u8 kd')) (go_keep)
        ((go_at_call 101; go_loud (refine (bclone_any pe (q - (2 + K)) pce (List.drop (2 + K) (List.take q B)) w4.drew hKN (HS4.out.below HB3.out.drew)).mono ?_); rintro e w5 ⟨v5, rfl, ho5, hb5⟩; have HO5 := Lib.hid ho5; have HB5 := Lib.hid (HB3.out.drew.trans (hb5.mono HB3.out.size)); have hk5 : w5.cell? ⟨g, off + 1, none⟩ = some (.int .u8 kd') := (hb5.cell (p := ⟨g, off + 1, none⟩) hgl3).trans hc1; clear ho5 hb5))
      go_wp2_with fail
      simp only [Exit.jump]
      refine bodyPost_ret (results_tmp4 rfl _ _ _) rfl ?_
      have e9 : ((q + 4 : Nat) : Int) = IntKind.i64.wrap ((q : Int) + 4) := by rw [IntWalk.i64_in _ (by omega)]; omega
      rw [HBD.out, HTE.out]
      refine ⟨v5, ?_, fun h => absurd rfl h, HO5.out.lower HB3.out.size, HB5.out⟩
      show _ = Ending.returned (.tuple #[.int .u8 kd', v5, .int .i64 ((q + 4 : Nat) : Int), .int .i64 0])
      rw [e9]; rfl
  · intro a1 w1 hJ1
    obtain ⟨e, hJ1⟩ := hJ1
    refine Exists.elim hJ1 fun u1 q0 => Exists.elim q0 fun u2 q1 => Exists.elim q1 fun u3 q2 => Exists.elim q2 fun u4 q3 => Exists.elim q3 fun u6 q4 => Exists.elim q4 fun u7 q5 => Exists.elim q5 fun u8 q6 => Exists.elim q6 fun u9 q7 => Exists.elim q7 fun u10 q8 => Exists.elim q8 fun u11 q9 => Exists.elim q9 fun u12 q10 => Exists.elim q10 fun u13 q11 => Exists.elim q11 fun u14 q12 => Exists.elim q12 fun u15 q13 => Exists.elim q13 fun u16 q14 => Exists.elim q14 fun u17 q15 => Exists.elim q15 fun u18 q16 => Exists.elim q16 fun u19 q17 => Exists.elim q17 fun u20 q18 => Exists.elim q18 fun u21 q19 => Exists.elim q19 fun u22 q20 => Exists.elim q20 fun u23 q21 => Exists.elim q21 fun u24 q22 => Exists.elim q22 fun u25 q23 => Exists.elim q23 fun u26 q24 => Exists.elim q24 fun u27 q25 => Exists.elim q25 fun u28 q26 => Exists.elim q26 fun u29 q27 => Exists.elim q27 fun u30 q28 => Exists.elim q28 fun u31 q29 => Exists.elim q29 fun u32 q30 => Exists.elim q30 fun u33 q31 => Exists.elim q31 fun u34 q32 => Exists.elim q32 fun u35 q33 => Exists.elim q33 fun u36 q34 => Exists.elim q34 fun u37 q35 => Exists.elim q35 fun u38 q36 => Exists.elim q36 fun u39 q37 => Exists.elim q37 fun u40 q38 => Exists.elim q38 fun u41 q39 => Exists.elim q39 fun u42 q40 => Exists.elim q40 fun u43 q41 => Exists.elim q41 fun u44 q42 => Exists.elim q42 fun u45 q43 => Exists.elim q43 fun u46 q44 => Exists.elim q44 fun u47 q45 => Exists.elim q45 fun u48 q46 => Exists.elim q46 fun u49 q47 => Exists.elim q47 fun u50 q48 => Exists.elim q48 fun u51 q49 => Exists.elim q49 fun u52 q50 => Exists.elim q50 fun u53 q51 => Exists.elim q51 fun u54 q52 => Exists.elim q52 fun u55 q53 => Exists.elim q53 fun u56 q54 => Exists.elim q54 fun u57 q55 => Exists.elim q55 fun u58 q56 => Exists.elim q56 fun u59 q57 => Exists.elim q57 fun u60 q58 => Exists.elim q58 fun u61 q59 => Exists.elim q59 fun u62 q60 => Exists.elim q60 fun u63 q61 => ?_
    obtain ⟨ha1, he, ht, hb⟩ := q61
    clear hJ1 q0 q1 q2 q3 q4 q5 q6 q7 q8 q9 q10 q11 q12 q13 q14 q15 q16 q17 q18 q19 q20 q21 q22 q23 q24 q25 q26 q27 q28 q29 q30 q31 q32 q33 q34 q35 q36 q37 q38 q39 q40 q41 q42 q43 q44 q45 q46 q47 q48 q49 q50 q51 q52 q53 q54 q55 q56 q57 q58 q59 q60
    subst ha1
    have HT := Lib.hid ht
    have HE := Lib.hid he
    have HB := Lib.hid hb
    clear ht he hb
    go_hide hQ
    go_wp2_with fail
    subst hQ
    simp only [Exit.jump]
    refine bodyPost_ret (results_tmp4 rfl _ _ _) rfl ?_
    refine ⟨_, by rw [HT.out]; rfl, fun _ => rfl, by rw [HT.out]; exact Own.nil, HB.out⟩
end Go.Proofs.Ytbdkhgenkekioaa.Wi

namespace Go.Proofs.Ytbdkhgenkekioaa.Wi
open Go.RowKit Go.V Go.Proofs Go.Sort

theorem takeF_kind {b : List Int} (hb : Byt b) : 0 ≤ (takeF b).1 ∧ (takeF b).1 < 256 := by
  unfold takeF
  split
  · simp
  · next m b1 =>
    split
    · simp
    · split
      · simp
      · next kd b2 =>
        simp only []
        split
        · simp
        split
        · simp
        split
        · simp
        split
        · simp
        · exact hb kd (by simp)

set_option maxHeartbeats 2000000 in
theorem fwhole_any (kd : Int) (a : Option Addr) (n cap : Nat) (b : List Int) (w : World) (h : Sl bcod w a n cap b) (hB : Byt b) (hn : n ≤ 1000000000) :
    Calls Try.prog 80 #[.int .u8 kd, .slice a n cap] w fun e w' => ∃ v, e = .returned (.tuple #[v, .int .i64 (wholeF kd b).2]) ∧ ((wholeF kd b).2 ≠ 0 → v = .slice none 0 0) ∧ V.Own 5 bcod w.heap.size w' v (wholeF kd b).1 ∧ Below w.heap.size w w' := by
  have HLN : Hid (n = b.length) := h.hlen
  have HT := Lib.hid (ftake_any a n cap b w h hB hn)
  have HW : Hid (wholeF kd b = if (takeF b).2.2.2 ≠ 0 then ([], (takeF b).2.2.2) else if (takeF b).1 ≠ kd then ([], 11) else if (takeF b).2.2.1 < b.length then ([], 13) else ((takeF b).2.1, 0)) := rfl
  obtain ⟨T, hTe⟩ : ∃ T, takeF b = T := ⟨_, rfl⟩
  rw [hTe] at HT HW
  obtain ⟨tk, tc, tn, te⟩ := T
  simp only [] at HT HW
  clear h hB hTe
  by_cases h0 : te = 0
  case neg =>
    have hd : (te != 0) = true := by simpa using h0
    have HR : Hid (wholeF kd b = ([], te)) := by show _ = _; rw [HW.out, if_pos h0]
    clear h0
    go_enter Try.func80, Try.ntmps80
    go_wp2_with (go_at_call 121; go_loud (refine HT.out.mono ?_); rintro e w1 ⟨v, rfl, -, -, hb1⟩; have HB1 := Lib.hid hb1; clear hb1)
    go_ret2
    rw [HR.out]
    exact ⟨_, rfl, fun _ => rfl, Own.nil, HB1.out⟩
  subst h0
  rw [if_neg (by simp)] at HW
  by_cases hk : tk = kd
  case neg =>
    have hd : (tk != kd) = true := by simpa using hk
    have HR : Hid (wholeF kd b = ([], 11)) := by show _ = _; rw [HW.out, if_pos hk]
    clear hk
    go_enter Try.func80, Try.ntmps80
    go_wp2_with (go_at_call 121; go_loud (refine HT.out.mono ?_); rintro e w1 ⟨v, rfl, -, -, hb1⟩; have HB1 := Lib.hid hb1; clear hb1)
    go_ret2
    rw [HR.out]
    exact ⟨_, rfl, fun _ => rfl, Own.nil, HB1.out⟩
  subst hk
  rw [if_neg (by simp)] at HW
  by_cases hl : tn < b.length
  · have hd : decide (tn < n) = true := decide_eq_true (by have := HLN.out; omega)
    have HR : Hid (wholeF tk b = ([], 13)) := by show _ = _; rw [HW.out, if_pos hl]
    clear hl
    go_enter Try.func80, Try.ntmps80
    go_wp2_with (go_at_call 121; go_loud (refine HT.out.mono ?_); rintro e w1 ⟨v, rfl, -, -, hb1⟩; have HB1 := Lib.hid hb1; clear hb1)
    go_ret2
    rw [HR.out]
    exact ⟨_, rfl, fun _ => rfl, Own.nil, HB1.out⟩
  · have hd : decide (tn < n) = false := decide_eq_false (by have := HLN.out; omega)
    have HR : Hid (wholeF tk b = (tc, 0)) := by show _ = _; rw [HW.out, if_neg hl]
    clear hl
    go_enter Try.func80, Try.ntmps80
    go_wp2_with (go_at_call 121; go_loud (refine HT.out.mono ?_); rintro e w1 ⟨v, rfl, -, ho1, hb1⟩; have HB1 := Lib.hid hb1; have HO1 := Lib.hid ho1; clear hb1 ho1)
    go_ret2
    rw [HR.out]
    exact ⟨v, rfl, fun q => absurd rfl q, HO1.out, HB1.out⟩
end Go.Proofs.Ytbdkhgenkekioaa.Wi
