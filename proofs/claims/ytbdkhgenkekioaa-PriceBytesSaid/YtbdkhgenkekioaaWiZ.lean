/- Frames, taken: the document's, walked. -/
import Derived.Test.YtbdkhgenkekioaaWiY
import Derived.Test.YtbdkhgenkekioaaWiD
import Derived.Test.YtbdkhgenkekioaaWiE
namespace Go.Proofs.Ytbdkhgenkekioaa.Wi
open Go.RowKit Go.V Go.Proofs Go.Sort

theorem sl_none (w : World) : Sl bcod w none 0 0 [] := ⟨rfl, Nat.le_refl _, by unfold maxLen; omega, fun _ => ⟨rfl, rfl⟩, fun d hd => nomatch hd⟩

set_option maxHeartbeats 4000000 in
set_option maxRecDepth 100000 in
theorem rtakef_any (a : Option Addr) (n cap : Nat) (b : List Int) (w : World) (h : Sl bcod w a n cap b) (hB : Byt b) (hn : n ≤ 1000000000) :
    Calls Try.prog 124 #[.slice a n cap] w fun e w' => ∃ va vn vc, e = .returned (.tuple #[.int .u8 (takeF b).1, .slice va vn vc, .int .i64 ((takeF b).2.2.1 : Int), .int .i64 (takeF b).2.2.2]) ∧ ((takeF b).2.2.2 ≠ 0 → va = none ∧ vn = 0 ∧ vc = 0) ∧ Sl bcod w' va vn vc (takeF b).2.1 ∧ Below w.heap.size w w' := by
  have HLN : Hid (n = b.length) := h.hlen
  have HS := Lib.hid h
  have HBY := Lib.hid hB
  clear h hB
  by_cases h0 : n = 0
  · have hT : takeF b = (0, [], 0, 10) := by
      have : b = [] := List.eq_nil_of_length_eq_zero (by rw [← HLN.out]; exact h0)
      rw [this]; rfl
    have HT := Lib.hid hT
    clear hT
    subst h0
    go_enter Try.func124, Try.ntmps124
    go_wp2_with fail
    refine bodyPost_ret (results_tmp4 rfl _ _ _) rfl ?_
    rw [HT.out]
    exact ⟨none, 0, 0, rfl, fun _ => ⟨rfl, rfl, rfl⟩, sl_none _, Below.refl _ _⟩
  have hn0 : ((n : Int) == 0) = false := by rw [beq_eq_false_iff_ne]; omega
  have hlt0 : (0 : Int) < (n : Int) := by omega
  obtain ⟨m, b1, rfl⟩ : ∃ m b1, b = m :: b1 := by
    cases b with
    | nil => exact absurd (by rw [HLN.out]; rfl) h0
    | cons m b1 => exact ⟨m, b1, rfl⟩
  obtain ⟨g, off, m', rfl, hgl, hm', hc0⟩ := byte_at HS.out (show 0 < n by omega)
  cases hm'
  replace hc0 : w.cell? ⟨g, off, none⟩ = some (.int .u8 m) := hc0
  by_cases hmk : m = 199
  case neg =>
    have hd : (m != 199) = true := by simpa using hmk
    have HT := Lib.hid (takeF_mark (b := b1) hmk)
    clear hmk
    go_enter Try.func124, Try.ntmps124
    go_wp2_with fail
    refine bodyPost_ret (results_tmp4 rfl _ _ _) rfl ?_
    rw [HT.out]
    exact ⟨none, 0, 0, rfl, fun _ => ⟨rfl, rfl, rfl⟩, sl_none _, Below.refl _ _⟩
  subst hmk
  cases b1 with
  | nil =>
    have hd : decide ((n : Int) < 2) = true := decide_eq_true (by
      have := HLN.out
      simp at this; omega)
    go_enter Try.func124, Try.ntmps124
    go_wp2_with fail
    refine bodyPost_ret (results_tmp4 rfl _ _ _) rfl ?_
    rw [takeF_one]
    exact ⟨none, 0, 0, rfl, fun _ => ⟨rfl, rfl, rfl⟩, sl_none _, Below.refl _ _⟩
  | cons kd b2 =>
  have hn2 : n = b2.length + 2 := HLN.out
  have hd : decide ((n : Int) < 2) = false := decide_eq_false (by omega)
  have hle2 : (2 : Int) ≤ (n : Int) := by omega
  obtain ⟨pa, pc, hr1, hs1⟩ := bfrom HS.out (show 2 ≤ n by omega)
  replace hr1 : ∀ W, (Instr.slice 47 (.slice (some ⟨g, off, none⟩) n cap) (some (.int .i64 2)) none none).run Try.prog W = .ok (.slice pa (n - 2) pc) W := hr1
  replace hs1 : Sl bcod w pa (n - 2) pc b2 := hs1
  obtain ⟨k2, hk2⟩ : ∃ k2, n - 2 = k2 := ⟨_, rfl⟩
  rw [hk2] at hr1 hs1
  have hk9 : k2 ≤ 1000000000 := by omega
  have HS1 := Lib.hid hs1
  have HB2 : Hid (Byt b2) := fun x hx => HBY.out x (by simp [hx])
  have HTF := Lib.hid (takeF_cons kd b2)
  obtain ⟨T, hT⟩ : ∃ T, takeV b2 = T := ⟨_, rfl⟩
  obtain ⟨N, K, E⟩ := T
  rw [hT] at HTF
  simp only [] at HTF
  have HT := Lib.hid hT
  have HN2 := Lib.hid hn2
  have HK2 := Lib.hid hk2
  clear hs1 hT hn2 hk2
  by_cases hE : E = 0
  case neg =>
    have hde : (E != 0) = true := by simpa using hE
    have HTE : Hid (takeF (199 :: kd :: b2) = (0, [], 0, E)) := by show _ = _; rw [HTF.out, if_pos hE]
    have HE := Lib.hid hE
    clear hE
    go_enter Try.func124, Try.ntmps124
    go_wp2_with (go_at_call 130; go_loud (refine (rtake_any pa k2 pc b2 _ HS1.out HB2.out hk9).mono ?_); rintro e w1 ⟨rfl, hb1⟩; rw [HT.out]; have HB1 := Lib.hid hb1; clear hb1)
    refine bodyPost_ret (results_tmp4 rfl _ _ _) rfl ?_
    rw [HTE.out]
    exact ⟨none, 0, 0, rfl, fun _ => ⟨rfl, rfl, rfl⟩, sl_none _, HB1.out⟩
  subst hE
  rw [if_neg (by simp)] at HTF
  by_cases hN : 1048576 < N
  · have hdn : decide ((1048576 : Int) < (N : Int)) = true := decide_eq_true (by omega)
    have HTE : Hid (takeF (199 :: kd :: b2) = (0, [], 0, 3)) := by show _ = _; rw [HTF.out, if_pos hN]
    clear hN
    go_enter Try.func124, Try.ntmps124
    go_wp2_with (go_at_call 130; go_loud (refine (rtake_any pa k2 pc b2 _ HS1.out HB2.out hk9).mono ?_); rintro e w1 ⟨rfl, hb1⟩; rw [HT.out]; have HB1 := Lib.hid hb1; clear hb1)
    refine bodyPost_ret (results_tmp4 rfl _ _ _) rfl ?_
    rw [HTE.out]
    exact ⟨none, 0, 0, rfl, fun _ => ⟨rfl, rfl, rfl⟩, sl_none _, HB1.out⟩
  rw [if_neg hN] at HTF
  have hdn : decide ((1048576 : Int) < (N : Int)) = false := decide_eq_false (by omega)
  have HKB : Hid (K ≤ b2.length) := (takeV_canon HB2.out HT.out).2.2
  obtain ⟨q, hq⟩ : ∃ q, 2 + K + N = q := ⟨_, rfl⟩
  have hqi : (2 : Int) + (K : Int) + (N : Int) = (q : Int) := by omega
  have hKq : 2 + K ≤ q := by omega
  have hK9 : (K : Int) ≤ 1000000000 := by have := HKB.out; have := HN2.out; omega
  have hq9 : q ≤ 2000000000 := by omega
  rw [hq] at HTF
  by_cases hl : n < q + 4
  · have hdl : decide ((n : Int) < (q : Int) + 4) = true := decide_eq_true (by omega)
    have HTE : Hid (takeF (199 :: kd :: b2) = (0, [], 0, 10)) := by show _ = _; rw [HTF.out, if_pos (by rw [← HLN.out]; exact hl)]
    have HQ := Lib.hid hq
    clear hl hq
    go_enter Try.func124, Try.ntmps124
    go_wp2_with (go_at_call 130; go_loud (refine (rtake_any pa k2 pc b2 _ HS1.out HB2.out hk9).mono ?_); rintro e w1 ⟨rfl, hb1⟩; rw [HT.out]; have HB1 := Lib.hid hb1; clear hb1)
    refine bodyPost_ret (results_tmp4 rfl _ _ _) rfl ?_
    rw [HTE.out]
    exact ⟨none, 0, 0, rfl, fun _ => ⟨rfl, rfl, rfl⟩, sl_none _, HB1.out⟩
  rw [if_neg (by rw [← HLN.out]; exact hl)] at HTF
  have hdl : decide ((n : Int) < (q : Int) + 4) = false := decide_eq_false (by omega)
  have hle4 : (q : Int) + 4 ≤ (n : Int) := by omega
  obtain ⟨hr3, hs3⟩ := bupto HS.out (show q + 4 ≤ n by omega)
  obtain ⟨pe, pce, hr4, hs4⟩ := bpiece HS.out (show 2 + K ≤ q from hKq) (show q ≤ n by omega)
  have HFS := Lib.hid (frame_same (kd := kd) HB2.out HT.out (by have := HN2.out; omega))
  rw [hq] at HFS
  obtain ⟨B, hBd⟩ : ∃ B, (199 :: kd :: b2 : List Int) = B := ⟨_, rfl⟩
  rw [hBd] at HTF hs3 hs4 HBY HS HLN HFS ⊢
  have HS3 := Lib.hid hs3
  have HS4 := Lib.hid hs4
  rw [show ((q + 4 : Nat) : Int) = (q : Int) + 4 by omega] at hr3
  rw [show ((2 + K : Nat) : Int) = 2 + (K : Int) by omega] at hr4
  have HBP : Hid (Byt ((B.take q).drop (2 + K))) := (HBY.out.take _).drop _
  have hKN : q - (2 + K) ≤ 1048576 := by omega
  have HKD : Hid (0 ≤ kd ∧ kd < 256) := HBY.out kd (by rw [← hBd]; simp)
  have HQ := Lib.hid hq
  have HBD := Lib.hid hBd
  have HKQ := Lib.hid hKq
  clear hq hBd hs3 hs4 hl
  obtain ⟨g', off', kd', e1, -, hk1, hc1⟩ := byte_at HS.out (show 1 < n by omega)
  cases e1
  have hkd : kd' = kd := by rw [← HBD.out] at hk1; exact (Option.some.inj hk1).symm
  subst hkd
  have hlt1 : (1 : Int) < (n : Int) := by omega
  have hpi : (2 : Int) + (K : Int) ≤ (q : Int) := by omega
  go_enter Try.func124, Try.ntmps124
  go_upto_region 16 with (go_at_call 130; go_loud (refine (rtake_any pa k2 pc b2 _ HS1.out HB2.out hk9).mono ?_); rintro e w1 ⟨rfl, hb1⟩; rw [HT.out]; have HB1 := Lib.hid hb1; clear hb1)
  have hk1 : w1.cell? ⟨g, off + 1, none⟩ = some (.int .u8 kd') := (HB1.out.cell (p := ⟨g, off + 1, none⟩) hgl).trans hc1
  have hg1 : g < w1.heap.size := Nat.lt_of_lt_of_le hgl HB1.out.size
  obtain ⟨bb, hbb⟩ : ∃ bb, decide (frameE kd' (List.drop (2 + K) (List.take q B)) = B.take (q + 4)) = bb := ⟨_, rfl⟩
  have HBB := Lib.hid hbb
  clear hbb
  go_region_held3 (fun w' => w'.cell? ⟨g, off + 1, none⟩ = some (.int .u8 kd')) (go_keep)
    (first
      | (go_at_call 81; go_loud (refine (rframe_any kd' HKD.out pe (q - (2 + K)) pce (List.drop (2 + K) (List.take q B)) w1.drew (HS4.out.below HB1.out.drew) HBP.out hKN).mono ?_); rintro e w2 ⟨v2, rfl, ho2, hb2⟩; obtain ⟨a2, c2, rfl, hsl2, -⟩ := ho2.slice; have HSL2 := Lib.hid hsl2; have HB2' := Lib.hid (HB1.out.drew.trans (hb2.mono HB1.out.size)); have hk2 : w2.cell? ⟨g, off + 1, none⟩ = some (.int .u8 kd') := (hb2.cell (p := ⟨g, off + 1, none⟩) hg1).trans hk1; clear ho2 hb2 hsl2)
      | (go_at_call 22; go_loud (refine (bsame_any a2 _ c2 (frameE kd' (List.drop (2 + K) (List.take q B))) _ _ _ (B.take (q + 4)) w2 HSL2.out (HS3.out.below HB2'.out)).mono ?_); rintro e w3 ⟨rfl, hb3⟩; rw [HBB.out]; have HB3 := Lib.hid (HB2'.out.trans (hb3.mono HB2'.out.size)); have hk3 : w3.cell? ⟨g, off + 1, none⟩ = some (.int .u8 kd') := (hb3.cell (p := ⟨g, off + 1, none⟩) (Nat.lt_of_lt_of_le hgl HB2'.out.size)).trans hk2; clear hb3))
  cases bb with
  | false =>
    have HTE : Hid (takeF B = (0, [], 0, 12)) := by show _ = _; rw [HTF.out, if_pos (fun e => of_decide_eq_false HBB.out (HFS.out.2 e))]
    go_wp2_with fail
    refine bodyPost_ret (results_tmp4 rfl _ _ _) rfl ?_
    rw [HTE.out]
    exact ⟨none, 0, 0, rfl, fun _ => ⟨rfl, rfl, rfl⟩, sl_none _, HB3.out⟩
  | true =>
    have HTE : Hid (takeF B = (kd', List.drop (2 + K) (List.take q B), q + 4, 0)) := by show _ = _; rw [HTF.out, if_neg (fun e => e (HFS.out.1 (of_decide_eq_true HBB.out)))]
    go_wp2_with fail
    refine bodyPost_ret (results_tmp4 rfl _ _ _) rfl ?_
    rw [HTE.out]
    exact ⟨pe, q - (2 + K), pce, rfl, fun h => absurd rfl h, HS4.out.below HB3.out, HB3.out⟩
set_option maxHeartbeats 2000000 in
theorem rwhole_any (kd : Int) (a : Option Addr) (n cap : Nat) (b : List Int) (w : World) (h : Sl bcod w a n cap b) (hB : Byt b) (hn : n ≤ 1000000000) :
    Calls Try.prog 82 #[.int .u8 kd, .slice a n cap] w fun e w' => ∃ va vn vc, e = .returned (.tuple #[.slice va vn vc, .int .i64 (wholeF kd b).2]) ∧ ((wholeF kd b).2 ≠ 0 → va = none ∧ vn = 0 ∧ vc = 0) ∧ Sl bcod w' va vn vc (wholeF kd b).1 ∧ Below w.heap.size w w' := by
  have HLN : Hid (n = b.length) := h.hlen
  have HT := Lib.hid (rtakef_any a n cap b w h hB hn)
  have HW : Hid (wholeF kd b = if (takeF b).2.2.2 ≠ 0 then ([], (takeF b).2.2.2) else if (takeF b).1 ≠ kd then ([], 11) else if (takeF b).2.2.1 < b.length then ([], 13) else ((takeF b).2.1, 0)) := rfl
  obtain ⟨T, hTe⟩ : ∃ T, takeF b = T := ⟨_, rfl⟩
  rw [hTe] at HT HW
  obtain ⟨tk, tc, tn, te⟩ := T
  simp only [] at HT HW
  clear h hB hTe
  by_cases h0 : te = 0
  case neg =>
    have hd : (te != 0) = true := by simpa using h0
    have HR : Hid (wholeF kd b = ([], te)) := by show _ = _; rw [HW.out, if_pos h0]
    clear h0
    go_enter Try.func82, Try.ntmps82
    go_wp2_with (go_at_call 124; go_loud (refine HT.out.mono ?_); rintro e w1 ⟨va, vn, vc, rfl, -, -, hb1⟩; have HB1 := Lib.hid hb1; clear hb1)
    go_ret2
    rw [HR.out]
    exact ⟨none, 0, 0, rfl, fun _ => ⟨rfl, rfl, rfl⟩, sl_none _, HB1.out⟩
  subst h0
  rw [if_neg (by simp)] at HW
  by_cases hk : tk = kd
  case neg =>
    have hd : (tk != kd) = true := by simpa using hk
    have HR : Hid (wholeF kd b = ([], 11)) := by show _ = _; rw [HW.out, if_pos hk]
    clear hk
    go_enter Try.func82, Try.ntmps82
    go_wp2_with (go_at_call 124; go_loud (refine HT.out.mono ?_); rintro e w1 ⟨va, vn, vc, rfl, -, -, hb1⟩; have HB1 := Lib.hid hb1; clear hb1)
    go_ret2
    rw [HR.out]
    exact ⟨none, 0, 0, rfl, fun _ => ⟨rfl, rfl, rfl⟩, sl_none _, HB1.out⟩
  subst hk
  rw [if_neg (by simp)] at HW
  by_cases hl : tn < b.length
  · have hd : decide (tn < n) = true := decide_eq_true (by have := HLN.out; omega)
    have HR : Hid (wholeF tk b = ([], 13)) := by show _ = _; rw [HW.out, if_pos hl]
    clear hl
    go_enter Try.func82, Try.ntmps82
    go_wp2_with (go_at_call 124; go_loud (refine HT.out.mono ?_); rintro e w1 ⟨va, vn, vc, rfl, -, -, hb1⟩; have HB1 := Lib.hid hb1; clear hb1)
    go_ret2
    rw [HR.out]
    exact ⟨none, 0, 0, rfl, fun _ => ⟨rfl, rfl, rfl⟩, sl_none _, HB1.out⟩
  · have hd : decide (tn < n) = false := decide_eq_false (by have := HLN.out; omega)
    have HR : Hid (wholeF tk b = (tc, 0)) := by show _ = _; rw [HW.out, if_neg hl]
    clear hl
    go_enter Try.func82, Try.ntmps82
    go_wp2_with (go_at_call 124; go_loud (refine HT.out.mono ?_); rintro e w1 ⟨va, vn, vc, rfl, -, ho1, hb1⟩; have HB1 := Lib.hid hb1; have HO1 := Lib.hid ho1; clear hb1 ho1)
    go_ret2
    rw [HR.out]
    exact ⟨va, vn, vc, rfl, fun q => absurd rfl q, HO1.out, HB1.out⟩
end Go.Proofs.Ytbdkhgenkekioaa.Wi
