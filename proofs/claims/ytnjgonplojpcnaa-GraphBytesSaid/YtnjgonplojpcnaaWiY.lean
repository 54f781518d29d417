/- Frames, taken whole: walked. -/
import Derived.Test.YtnjgonplojpcnaaWiW
namespace Go.Proofs.Ytnjgonplojpcnaa.Wi
open Go.RowKit Go.V Go.Proofs Go.Sort

theorem takeF_kind {b : List Int} (hb : Byt b) : 0 ≤ (takeF b).1 ∧ (takeF b).1 < 256 := by
  unfold takeF
  split
  · simp
  · next m b1 =>
    split
    · simp
    · split
      · simp
      · next kd b2 =>
        simp only []
        split
        · simp
        split
        · simp
        split
        · simp
        split
        · simp
        · exact hb kd (by simp)

set_option maxHeartbeats 2000000 in
theorem fwhole_any (kd : Int) (a : Option Addr) (n cap : Nat) (b : List Int) (w : World) (h : Sl bcod w a n cap b) (hB : Byt b) (hn : n ≤ 1000000000) :
    Calls Try.prog 55 #[.int .u8 kd, .slice a n cap] w fun e w' => ∃ v, e = .returned (.tuple #[v, .int .i64 (wholeF kd b).2]) ∧ ((wholeF kd b).2 ≠ 0 → v = .slice none 0 0) ∧ V.Own 5 bcod w.heap.size w' v (wholeF kd b).1 ∧ Below w.heap.size w w' := by
  have HLN : Hid (n = b.length) := h.hlen
  have HT := Lib.hid (ftake_any a n cap b w h hB hn)
  have HW : Hid (wholeF kd b = if (takeF b).2.2.2 ≠ 0 then ([], (takeF b).2.2.2) else if (takeF b).1 ≠ kd then ([], 11) else if (takeF b).2.2.1 < b.length then ([], 13) else ((takeF b).2.1, 0)) := rfl
  obtain ⟨T, hTe⟩ : ∃ T, takeF b = T := ⟨_, rfl⟩
  rw [hTe] at HT HW
  obtain ⟨tk, tc, tn, te⟩ := T
  simp only [] at HT HW
  clear h hB hTe
  by_cases h0 : te = 0
  case neg =>
    have hd : (te != 0) = true := by simpa using h0
    have HR : Hid (wholeF kd b = ([], te)) := by show _ = _; rw [HW.out, if_pos h0]
    clear h0
    go_enter Try.func55, Try.ntmps55
    go_wp2_with (go_at_call 78; go_loud (refine HT.out.mono ?_); rintro e w1 ⟨v, rfl, -, -, hb1⟩; have HB1 := Lib.hid hb1; clear hb1)
    go_ret2
    rw [HR.out]
    exact ⟨_, rfl, fun _ => rfl, Own.nil, HB1.out⟩
  subst h0
  rw [if_neg (by simp)] at HW
  by_cases hk : tk = kd
  case neg =>
    have hd : (tk != kd) = true := by simpa using hk
    have HR : Hid (wholeF kd b = ([], 11)) := by show _ = _; rw [HW.out, if_pos hk]
    clear hk
    go_enter Try.func55, Try.ntmps55
    go_wp2_with (go_at_call 78; go_loud (refine HT.out.mono ?_); rintro e w1 ⟨v, rfl, -, -, hb1⟩; have HB1 := Lib.hid hb1; clear hb1)
    go_ret2
    rw [HR.out]
    exact ⟨_, rfl, fun _ => rfl, Own.nil, HB1.out⟩
  subst hk
  rw [if_neg (by simp)] at HW
  by_cases hl : tn < b.length
  · have hd : decide (tn < n) = true := decide_eq_true (by have := HLN.out; omega)
    have HR : Hid (wholeF tk b = ([], 13)) := by show _ = _; rw [HW.out, if_pos hl]
    clear hl
    go_enter Try.func55, Try.ntmps55
    go_wp2_with (go_at_call 78; go_loud (refine HT.out.mono ?_); rintro e w1 ⟨v, rfl, -, -, hb1⟩; have HB1 := Lib.hid hb1; clear hb1)
    go_ret2
    rw [HR.out]
    exact ⟨_, rfl, fun _ => rfl, Own.nil, HB1.out⟩
  · have hd : decide (tn < n) = false := decide_eq_false (by have := HLN.out; omega)
    have HR : Hid (wholeF tk b = (tc, 0)) := by show _ = _; rw [HW.out, if_neg hl]
    clear hl
    go_enter Try.func55, Try.ntmps55
    go_wp2_with (go_at_call 78; go_loud (refine HT.out.mono ?_); rintro e w1 ⟨v, rfl, -, ho1, hb1⟩; have HB1 := Lib.hid hb1; have HO1 := Lib.hid ho1; clear hb1 ho1)
    go_ret2
    rw [HR.out]
    exact ⟨v, rfl, fun q => absurd rfl q, HO1.out, HB1.out⟩
end Go.Proofs.Ytnjgonplojpcnaa.Wi
