/- ref14.Same: walked. -/
import Derived.Test.YtehflakmellooaaBx
import Derived.BigQuiet
import Derived.Deep.QuietTactic
namespace Go.Proofs.Ytehflakmellooaa.Ne
open Go.RowKit Go.V Go.Proofs

set_option maxHeartbeats 1000000 in
theorem isame_any (a1 : Option Addr) (n1 cap1 : Nat) (xs : List Int) (a2 : Option Addr) (n2 cap2 : Nat) (ys : List Int) (w : World) (h1 : Sl icod w a1 n1 cap1 xs) (h2 : Sl icod w a2 n2 cap2 ys) :
    Calls Try.prog 10 #[.slice a1 n1 cap1, .slice a2 n2 cap2] w fun e w' => e = .returned (.bool (decide (xs = ys))) ∧ Below w.heap.size w w' := by
  have hN := Lib.hid h1.hlen
  have hM := Lib.hid h2.hlen
  have hm : n1 ≤ 9223372036854775807 := by have := h1.hcap; have := h1.hmax; unfold maxLen at this; omega
  by_cases hlen : n1 = n2
  · subst hlen
    go_enter Try.func10, Try.ntmps10
    go_wp2
    go_loopw [5] (fun i wr => ∃ (k : Nat), k ≤ n1 ∧ i = .int .i64 k ∧ Hid (xs.take k = ys.take k) ∧ Below w.heap.size w wr) (fun i _ => n1 - (intOf i).toNat)
    case atStart => exact ⟨0, by omega, rfl, by show _ = _; rw [List.take_zero, List.take_zero], Below.refl _ _⟩
    case round =>
      obtain ⟨k, hk, rfl, he, hb⟩ := hrel
      by_cases hlt : k < n1
      · obtain ⟨b, off, r, rfl, -, hr, c0⟩ := int_at (h1.below hb) hlt
        obtain ⟨b', off', r', rfl, -, hr', c0'⟩ := int_at (h2.below hb) hlt
        have HR := Lib.hid hr
        have HR' := Lib.hid hr'
        have HB := Lib.hid hb
        have hltz : (k : Int) < n1 := by omega
        clear hr hr' hb
        by_cases heq : r = r'
        · subst heq
          go_wp2_with fail
          go_quiet (fail)
          go_wp2_with fail
          go_roundw
          case rel => exact ⟨k + 1, by omega, by go_num, by show _ = _; rw [take_at HR.out, take_at HR'.out, he.out], below_drewN HB.out _⟩
          case measure => simp [intOf]; omega
        · have hq : (r != r') = true := by simpa using heq
          have hq2 : (r == r') = false := by simpa using heq
          have HE := Lib.hid heq
          clear heq
          go_wp2_with fail
          go_quiet (fail)
          go_wp2_with fail
          go_ret
          exact ⟨ret_bool (by
            symm; rw [decide_eq_false_iff_not]
            intro h; apply HE.out
            have a1 := HR.out; have a2 := HR'.out
            rw [h, a2] at a1; exact (Option.some.inj a1).symm), below_drewN HB.out _⟩
      · have hk' : k = n1 := by omega
        have HK := Lib.hid hk'; clear hk'
        go_wp2
        go_ret
        exact ⟨ret_bool (by
          have e := he.out
          rw [HK.out, List.take_of_length_le (by rw [← hN.out]; omega), List.take_of_length_le (by rw [← hM.out]; omega)] at e
          simp [e]), hb⟩
  · have hl : (((n1 : Int)) != (n2 : Int)) = true := by simp; omega
    have HL := Lib.hid hlen
    clear hlen
    go_enter Try.func10, Try.ntmps10
    go_wp2
    go_ret
    exact ⟨ret_bool (by
      have := HL.out
      symm; rw [decide_eq_false_iff_not]
      intro h; apply this; rw [hN.out, hM.out, h]), Below.refl _ _⟩
end Go.Proofs.Ytehflakmellooaa.Ne
