/- Shares: a by b, by c: walked. -/
import Derived.Test.YtjejpaladjfegaaApA
import Derived.IntWalk
import Derived.Laws.BitsLemmas
namespace Go.Proofs.Ytjejpaladjfegaa.Ap
open Go.RowKit Go.V Go.Proofs Go.Sort Go.Shelf
open Go.Proofs.Ytjejpaladjfegaa.Ne (icod int_at box_new box_cell)

theorem wraps63 (n : Int) (h₀ : 0 ≤ n) (h₁ : n < 2 ^ 63) : IntKind.i64.wrap n = n := by rw [IntKind.wrap_i64]; omega
theorem low18 (a : Int) (h0 : 0 ≤ a) (h1 : a ≤ 34359738368) : bits .and .i64 a 262143 = a % 262144 := by
  have h := bits_mask .i64 63 (by decide) wraps63 18 (by decide) a h0 (by omega)
  have e : ((2 : Int) ^ 18 - 1) = 262143 := by decide
  have e2 : ((2 : Int) ^ 18) = 262144 := by decide
  rwa [e, e2] at h
theorem low1 (a : Int) (h0 : 0 ≤ a) (h1 : a ≤ 34359738368) : bits .and .i64 a 1 = a % 2 := by
  have h := bits_mask .i64 63 (by decide) wraps63 1 (by decide) a h0 (by omega)
  have e : ((2 : Int) ^ 1 - 1) = 1 := by decide
  have e2 : ((2 : Int) ^ 1) = 2 := by decide
  rwa [e, e2] at h

set_option maxHeartbeats 1000000 in
theorem times_any (a b c : Int) (w : World) (ha : 0 ≤ a ∧ a ≤ 34359738368) (hb : 0 ≤ b ∧ b ≤ 4294967296) (hbc : b ≤ c) (hc : 0 < c ∧ c ≤ 274877906944) :
    Calls Try.prog 123 #[.int .i64 a, .int .i64 b, .int .i64 c] w fun e w' => e = .returned (.tuple #[.int .i64 (tmsQ a b c), .int .u64 (tmsR a b c)]) ∧ ∃ n, w' = w.drewN n := by
  have hlo := low18 a ha.1 ha.2
  obtain ⟨L, hL⟩ : ∃ L, a % 262144 = L := ⟨_, rfl⟩
  have HLO := Lib.hid hL
  rw [hL] at hlo
  have hL2 : 0 ≤ L ∧ L < 262144 := by omega
  obtain ⟨H, hH⟩ : ∃ H, a / 262144 = H := ⟨_, rfl⟩
  have HH := Lib.hid hH
  have hH2 : 0 ≤ H ∧ H ≤ 131072 := by omega
  obtain ⟨M, hM⟩ : ∃ M, H * b = M := ⟨_, rfl⟩
  have hM2 : 0 ≤ M ∧ M ≤ 562949953421312 := by
    rw [← hM]
    have h1 := Int.mul_nonneg hH2.1 hb.1
    have h2 : H * b ≤ 131072 * b := Int.mul_le_mul_of_nonneg_right hH2.2 hb.1
    omega
  have HM := Lib.hid hM
  clear hL
  obtain ⟨a0, a1⟩ := ha
  obtain ⟨b0, b1⟩ := hb
  obtain ⟨c0, c1⟩ := hc
  obtain ⟨m0, m1⟩ := hM2
  go_enter Try.func123, Try.ntmps123
  go_wp2
  go_region
  go_wp2
  have HQ0 : Hid (tmsQ (a / 2 ^ 18) b c = M / c ∧ tmsR (a / 2 ^ 18) b c = M % c) := by
    have e : (2 : Int) ^ 18 = 262144 := by decide
    constructor
    · show tmsQ _ _ _ = _; unfold tmsQ; rw [e, HH.out, HM.out]
    · show tmsR _ _ _ = _; unfold tmsR; rw [e, HH.out, HM.out]
  clear hH hM hlo
  go_loop [10, 11, 12] (fun q r i => ∃ z : Int, i = .int .i64 z ∧ -1 ≤ z ∧ z ≤ 17 ∧ ∃ q1 r1 : Int, q = .int .i64 q1 ∧ r = .int .i64 r1 ∧ Hid (q1 = tmsQ (a / 2 ^ (z + 1).toNat) b c ∧ r1 = tmsR (a / 2 ^ (z + 1).toNat) b c)) (fun _ _ i => (intOf i + 1).toNat)
  case atStart => exact ⟨17, rfl, by omega, by omega, _, _, rfl, rfl, HQ0.out.1.symm, HQ0.out.2.symm⟩
  case round =>
    obtain ⟨z, rfl, z0, z1, q, r, rfl, rfl, HQR⟩ := hrel
    by_cases hz : 0 ≤ z
    · obtain ⟨k, rfl⟩ : ∃ k : Nat, z = k := ⟨z.toNat, by omega⟩
      have hk : k ≤ 17 := by omega
      have HA : 0 ≤ a / 2 ^ (k + 1) ∧ a / 2 ^ (k + 1) ≤ 34359738368 := by
        have hp : (0 : Int) < 2 ^ (k + 1) := Int.pow_pos (by omega)
        exact ⟨Int.ediv_nonneg a0 (by omega), by have := Int.ediv_le_self (b := 2 ^ (k + 1)) a0; omega⟩
      obtain ⟨q0, q1, r0, r1⟩ := tms_in HA.1 b0 hbc c0
      have e1 : ((k : Int) + 1).toNat = k + 1 := by omega
      have hQR := HQR.out
      rw [e1] at hQR
      rw [← hQR.1] at q0 q1
      rw [← hQR.2] at r0 r1
      have hst := tms_step (b := b) k a0 c0
      rw [← hQR.1, ← hQR.2] at hst
      clear HQR hQR e1
      have hlow := low_bit a k (by omega)
      rw [HLO.out] at hlow
      obtain ⟨d, hd⟩ : ∃ d, L / 2 ^ k = d := ⟨_, rfl⟩
      have hd2 : 0 ≤ d ∧ d ≤ 262144 := by
        rw [← hd]
        exact ⟨Int.ediv_nonneg hL2.1 (Int.pow_nonneg (by omega)), by have := Int.ediv_le_self (b := 2 ^ k) hL2.1; omega⟩
      have hl1 := low1 d hd2.1 (by omega)
      rw [hd] at hlow
      rw [← hlow] at hst
      have HD := Lib.hid hd
      have hq9 : q ≤ 34359738368 := by omega
      have e3 : ((k : Int) - 1 + 1).toNat = k := by omega
      have HE3 := Lib.hid e3
      have hcase : d % 2 = 1 ∨ d % 2 = 0 := by omega
      clear hlow HA e3
      rcases hcase with hd1 | hd1
      · rw [hd1] at hst hl1
        obtain ⟨t, ht⟩ : ∃ t, (r * 2 + b) / c = t := ⟨_, rfl⟩
        have ht2 : 0 ≤ t ∧ t ≤ 2 := by
          rw [← ht]
          exact ⟨Int.ediv_nonneg (by omega) (by omega), by have := Int.ediv_lt_of_lt_mul (a := r * 2 + b) (b := 3) c0 (by omega); omega⟩
        have HST : Hid (tmsQ (a / 2 ^ k) b c = q * 2 + t ∧ tmsR (a / 2 ^ k) b c = (r * 2 + b) % c) := by
          rw [show 2 * r + 1 * b = r * 2 + b by omega] at hst
          refine ⟨?_, hst.2⟩
          rw [hst.1, ht]; omega
        clear hst hd1
        go_wp2
        go_round
        case rel => exact ⟨(k : Int) - 1, rfl, by omega, by omega, _, _, rfl, rfl, by rw [HE3.out]; exact ⟨HST.out.1.symm, HST.out.2.symm⟩⟩
        case measure => simp [intOf] <;> omega
      · rw [hd1] at hst hl1
        obtain ⟨t, ht⟩ : ∃ t, (r * 2) / c = t := ⟨_, rfl⟩
        have ht2 : 0 ≤ t ∧ t ≤ 2 := by
          rw [← ht]
          exact ⟨Int.ediv_nonneg (by omega) (by omega), by have := Int.ediv_lt_of_lt_mul (a := r * 2) (b := 3) c0 (by omega); omega⟩
        have HST : Hid (tmsQ (a / 2 ^ k) b c = q * 2 + t ∧ tmsR (a / 2 ^ k) b c = (r * 2) % c) := by
          rw [show 2 * r + 0 * b = r * 2 by omega] at hst
          refine ⟨?_, hst.2⟩
          rw [hst.1, ht]; omega
        clear hst hd1
        go_wp2
        go_round
        case rel => exact ⟨(k : Int) - 1, rfl, by omega, by omega, _, _, rfl, rfl, by rw [HE3.out]; exact ⟨HST.out.1.symm, HST.out.2.symm⟩⟩
        case measure => simp [intOf] <;> omega
    · have hz1 : z = -1 := by omega
      subst hz1
      have HR : Hid (q = tmsQ a b c ∧ r = tmsR a b c) := by
        have := HQR.out
        have e : ((-1 : Int) + 1).toNat = 0 := rfl
        rw [e, Int.pow_zero, Int.ediv_one] at this
        exact this
      have hr := tms_in a0 b0 hbc c0
      rw [← HR.out.1, ← HR.out.2] at hr
      obtain ⟨-, -, r0, r1⟩ := hr
      clear HQR
      go_wp2
      go_ret2
      exact ⟨(show Ending.returned (.tuple #[.int .i64 q, .int .u64 r]) = _ by rw [HR.out.1, HR.out.2]), 1, rfl⟩
end Go.Proofs.Ytjejpaladjfegaa.Ap
