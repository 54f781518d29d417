/- Shares: the document's a by b, by c: walked. -/
import Derived.Test.YtjejpaladjfegaaApB
namespace Go.Proofs.Ytjejpaladjfegaa.Ap
open Go.RowKit Go.V Go.Proofs Go.Sort Go.Shelf
open Go.Proofs.Ytjejpaladjfegaa.Ne (icod int_at box_new box_cell)

theorem digits_at (a : Int) (b c : Int) (ha : 0 ≤ a ∧ a ≤ 34359738368) (hc : 0 < c) (k : Nat) (hk : k < 4) : ∃ d, (#[Value.int .i64 (a / 68719476736), .int .i64 (a / 16777216 % 4096), .int .i64 (a / 4096 % 4096), .int .i64 (a % 4096)] : Array Value)[k]? = some (.int .i64 d) ∧ 0 ≤ d ∧ d < 4096 ∧
    tmsQ (a / 4096 ^ (3 - k)) b c = 4096 * tmsQ (a / 4096 ^ (4 - k)) b c + (4096 * tmsR (a / 4096 ^ (4 - k)) b c + d * b) / c ∧ tmsR (a / 4096 ^ (3 - k)) b c = (4096 * tmsR (a / 4096 ^ (4 - k)) b c + d * b) % c := by
  have p3 : (4096 : Int) ^ 3 = 68719476736 := by decide
  have p2 : (4096 : Int) ^ 2 = 16777216 := by decide
  have p1 : (4096 : Int) ^ 1 = 4096 := by decide
  have h := tms_step4 (a := a) (b := b) (c := c) (3 - k) ha.1 hc
  rw [show 3 - k + 1 = 4 - k by omega] at h
  have hcase : k = 0 ∨ k = 1 ∨ k = 2 ∨ k = 3 := by omega
  rcases hcase with rfl | rfl | rfl | rfl
  · refine ⟨_, rfl, by omega, by omega, ?_⟩
    have e : a / 4096 ^ (3 - 0) % 4096 = a / 68719476736 := by show a / 4096 ^ 3 % 4096 = _; rw [p3]; omega
    rw [e] at h; exact h
  · refine ⟨_, rfl, by omega, by omega, ?_⟩
    have e : a / 4096 ^ (3 - 1) % 4096 = a / 16777216 % 4096 := by show a / 4096 ^ 2 % 4096 = _; rw [p2]
    rw [e] at h; exact h
  · refine ⟨_, rfl, by omega, by omega, ?_⟩
    have e : a / 4096 ^ (3 - 2) % 4096 = a / 4096 % 4096 := by show a / 4096 ^ 1 % 4096 = _; rw [p1]
    rw [e] at h; exact h
  · refine ⟨_, rfl, by omega, by omega, ?_⟩
    have e : a / 4096 ^ (3 - 3) % 4096 = a % 4096 := by show a / 4096 ^ 0 % 4096 = _; rw [Int.pow_zero, Int.ediv_one]
    rw [e] at h; exact h

set_option maxHeartbeats 1000000 in
theorem rtimes_any (a b c : Int) (w : World) (ha : 0 ≤ a ∧ a ≤ 34359738368) (hb : 0 ≤ b ∧ b ≤ 4294967296) (hbc : b ≤ c) (hc : 0 < c ∧ c ≤ 274877906944) :
    Calls Try.prog 128 #[.int .i64 a, .int .i64 b, .int .i64 c] w fun e w' => e = .returned (.tuple #[.int .i64 (tmsQ a b c), .int .i64 (tmsR a b c)]) ∧ Below w.heap.size w w' := by
  have HB := Lib.hid (box_new w (.cells #[.int .i64 (a / 68719476736), .int .i64 (a / 16777216 % 4096), .int .i64 (a / 4096 % 4096), .int .i64 (a % 4096)] 3))
  have HBel : Hid (Below w.heap.size w (w.alloc (.cells #[.int .i64 (a / 68719476736), .int .i64 (a / 16777216 % 4096), .int .i64 (a / 4096 % 4096), .int .i64 (a % 4096)] 3))) := (Below.refl _ _).alloc (Nat.le_refl _) _
  have HA := Lib.hid ha
  obtain ⟨a0, a1⟩ := ha
  obtain ⟨b0, b1⟩ := hb
  obtain ⟨c0, c1⟩ := hc
  go_enter Try.func128, Try.ntmps128
  go_wp2
  obtain ⟨W, hW⟩ : ∃ W, w.alloc (.cells #[.int .i64 (a / 68719476736), .int .i64 (a / 16777216 % 4096), .int .i64 (a / 4096 % 4096), .int .i64 (a % 4096)] 3) = W := ⟨_, rfl⟩
  rw [hW] at HB HBel ⊢
  clear hW
  have hbl := Ne.box_lt HB.out
  go_loop [9, 10, 11] (fun q r i => ∃ k : Nat, i = .int .i64 k ∧ k ≤ 4 ∧ ∃ q1 r1 : Int, q = .int .i64 q1 ∧ r = .int .i64 r1 ∧ Hid (q1 = tmsQ (a / 4096 ^ (4 - k)) b c ∧ r1 = tmsR (a / 4096 ^ (4 - k)) b c)) (fun _ _ i => 4 - (intOf i).toNat)
  case atStart =>
    have e : a / 4096 ^ (4 - 0) = 0 := by
      have : (4096 : Int) ^ (4 - 0) = 281474976710656 := by decide
      rw [this]; omega
    refine ⟨0, rfl, by omega, 0, 0, rfl, rfl, ?_⟩
    constructor
    · rw [e]; unfold tmsQ; simp
    · rw [e]; unfold tmsR; simp
  case round =>
    obtain ⟨k, rfl, hk, q, r, rfl, rfl, HQR⟩ := hrel
    by_cases hlt : k < 4
    · obtain ⟨d, hd, d0, d1, hst⟩ := digits_at a b c HA.out c0 k hlt
      have hcell : W.cell? ⟨w.heap.size, k, none⟩ = some (.int .i64 d) := by rw [(box_cell HB.out k).1]; exact hd
      have hA : 0 ≤ a / 4096 ^ (4 - k) ∧ a / 4096 ^ (4 - k) ≤ 34359738368 := by
        have hp : (0 : Int) < 4096 ^ (4 - k) := Int.pow_pos (by omega)
        exact ⟨Int.ediv_nonneg a0 (by omega), by have := Int.ediv_le_self (b := 4096 ^ (4 - k)) a0; omega⟩
      obtain ⟨q0, q1, r0, r1⟩ := tms_in hA.1 b0 hbc c0
      rw [← HQR.out.1] at q0 q1
      rw [← HQR.out.2] at r0 r1
      rw [← HQR.out.1, ← HQR.out.2] at hst
      obtain ⟨m, hm⟩ : ∃ m, d * b = m := ⟨_, rfl⟩
      have hm2 : 0 ≤ m ∧ m ≤ 17592186044416 := by
        rw [← hm]
        have h1 := Int.mul_nonneg d0 b0
        have h2 : d * b ≤ 4096 * b := Int.mul_le_mul_of_nonneg_right (by omega) b0
        omega
      rw [hm] at hst
      obtain ⟨t, ht⟩ : ∃ t, (r * 4096 + m) / c = t := ⟨_, rfl⟩
      have ht2 : 0 ≤ t ∧ t ≤ 8192 := by
        rw [← ht]
        have hmc : m ≤ 4096 * c := by
          rw [← hm]
          have h1 : d * b ≤ 4096 * b := Int.mul_le_mul_of_nonneg_right (by omega) b0
          omega
        exact ⟨Int.ediv_nonneg (by omega) (by omega), by have := Int.ediv_lt_of_lt_mul (a := r * 4096 + m) (b := 8192) c0 (by omega); omega⟩
      have HST : Hid (tmsQ (a / 4096 ^ (3 - k)) b c = q * 4096 + t ∧ tmsR (a / 4096 ^ (3 - k)) b c = (r * 4096 + m) % c) := by
        rw [show 4096 * r + m = r * 4096 + m by omega] at hst
        refine ⟨?_, hst.2⟩
        rw [hst.1, ht]; omega
      have hq9 : q ≤ 34359738368 := by omega
      obtain ⟨m0, m1⟩ := hm2
      obtain ⟨t0, t1⟩ := ht2
      clear hst hA HQR hd
      go_wp2
      go_round
      case rel => exact ⟨k + 1, by go_num, by omega, _, _, rfl, rfl, by rw [show 4 - (k + 1) = 3 - k by omega]; exact ⟨HST.out.1.symm, HST.out.2.symm⟩⟩
      case measure => simp [intOf] <;> omega
    · have hk4 : k = 4 := by omega
      subst hk4
      have HR : Hid (q = tmsQ a b c ∧ r = tmsR a b c) := by
        have := HQR.out
        rw [Nat.sub_self, Int.pow_zero, Int.ediv_one] at this
        exact this
      clear HQR
      go_wp2
      go_ret2
      exact ⟨(show Ending.returned (.tuple #[.int .i64 q, .int .i64 r]) = _ by rw [HR.out.1, HR.out.2]), HBel.out⟩
end Go.Proofs.Ytjejpaladjfegaa.Ap
