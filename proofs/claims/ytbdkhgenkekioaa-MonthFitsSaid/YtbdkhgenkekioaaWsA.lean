/- Signed numbers and single bytes, put: both packages', walked. -/
import Derived.Test.YtbdkhgenkekioaaWiJ
import Derived.Laws.BitsAllLaws
namespace Go.Proofs.Ytbdkhgenkekioaa.Wi
open Go.RowKit Go.V Go.Proofs Go.Sort
open Go.Proofs.Ytbdkhgenkekioaa.Ne (box_alloc box_new box_cell box_below box_lt)

/-! ### Turns -/
theorem takeGo_lt : ∀ (l : List Int) (i a n k : Nat), Byt l → i ≤ 9 → a < 128 ^ i → takeGo l i a = (n, k, 0) → n < 18446744073709551616
  | [], i, a, n, k, _, _, _, h => by simp [takeGo] at h
  | c :: l, i, a, n, k, hb, hi, ha, h => by
    have hc := hb c (by simp)
    unfold takeGo at h
    split at h
    · simp at h
    next h0 =>
    split at h
    · next h1 =>
      refine takeGo_lt l (i + 1) _ n k (fun x hx => hb x (by simp [hx])) ?_ (dig_lt ha) h
      rcases Nat.lt_or_ge i 9 with h9 | h9
      · omega
      · exact absurd ⟨by omega, by omega⟩ h0
    · split at h
      · simp at h
      · have e : (a + c.toNat % 128 * 128 ^ i, i + 1, (0 : Int)) = (n, k, 0) := h
        simp only [Prod.mk.injEq] at e
        obtain ⟨p, q⟩ := dig_b (m := a) (c := c.toNat) ha hi (fun h9 => by
          rcases Int.lt_or_le 1 c with h5 | h5
          · exact absurd ⟨h9, h5⟩ h0
          · omega)
        have p2 : (2 : Nat) ^ 64 = 18446744073709551616 := by decide
        rw [← e.1]
        by_cases h9 : i = 9
        · subst h9
          have h5 : c.toNat ≤ 1 := by
            rcases Int.lt_or_le 1 c with h5 | h5
            · exact absurd ⟨rfl, h5⟩ h0
            · omega
          have h6 : c.toNat % 128 * 128 ^ 9 ≤ 1 * 128 ^ 9 := Nat.mul_le_mul_right _ (by omega)
          have h7 : (128 : Nat) ^ 9 = 9223372036854775808 := by decide
          omega
        · have h6 := dig_lt (c := c.toNat) ha
          have h7 : (128 : Nat) ^ (i + 1) ≤ 128 ^ 9 := Nat.pow_le_pow_right (by decide) (by omega)
          have h8 : (128 : Nat) ^ 9 = 9223372036854775808 := by decide
          omega
theorem takeV_lt {b : List Int} {n k : Nat} (hb : Byt b) (h : takeV b = (n, k, 0)) : n < 18446744073709551616 := takeGo_lt b 0 0 n k hb (by omega) (by simp) h
theorem takeV_lt0 {b : List Int} (hb : Byt b) : (takeV b).1 < 18446744073709551616 := by
  obtain ⟨t, ht⟩ : ∃ t, takeV b = t := ⟨_, rfl⟩
  obtain ⟨n, k, e⟩ := t
  rw [ht]
  rcases takeGo_err b 0 0 n k e ht with h | ⟨h, -⟩
  · subst h; exact takeV_lt hb ht
  · show n < _; omega
theorem xor0_u64 (a : Nat) (h : a < 18446744073709551616) : Go.bits BinOp.xor IntKind.u64 (a : Int) 0 = (a : Int) := by
  show IntKind.u64.wrap ((BitVec.ofInt 64 (a : Int) ^^^ BitVec.ofInt 64 0).toNat : Int) = _
  have e : BitVec.ofInt 64 (0 : Int) = 0#64 := by decide
  rw [e, BitVec.xor_zero, BitVec.toNat_ofInt, wraps_u64n]
  simp
  omega
theorem xor1_u64 (a : Nat) (h : a < 18446744073709551616) : Go.bits BinOp.xor IntKind.u64 (a : Int) 18446744073709551615 = ((18446744073709551615 - a : Nat) : Int) := by
  show IntKind.u64.wrap ((BitVec.ofInt 64 (a : Int) ^^^ BitVec.ofInt 64 18446744073709551615).toNat : Int) = _
  have e : BitVec.ofInt 64 (18446744073709551615 : Int) = BitVec.allOnes 64 := by decide
  have e2 : (BitVec.ofInt 64 (a : Int)).toNat = a := by rw [BitVec.toNat_ofInt]; simp; omega
  rw [e, BitVec.xor_allOnes, BitVec.toNat_not, e2, wraps_u64n]
  omega
theorem xor0_i64 (a : Nat) (h : a < 9223372036854775808) : Go.bits BinOp.xor IntKind.i64 (a : Int) 0 = (a : Int) := by
  show IntKind.i64.wrap ((BitVec.ofInt 64 (a : Int) ^^^ BitVec.ofInt 64 0).toNat : Int) = _
  have e : BitVec.ofInt 64 (0 : Int) = 0#64 := by decide
  rw [e, BitVec.xor_zero, BitVec.toNat_ofInt]
  simp only [IntKind.wrap_i64]
  omega
theorem xor1_i64 (a : Nat) (h : a < 9223372036854775808) : Go.bits BinOp.xor IntKind.i64 (a : Int) (-1) = -(a : Int) - 1 := by
  show IntKind.i64.wrap ((BitVec.ofInt 64 (a : Int) ^^^ BitVec.ofInt 64 (-1)).toNat : Int) = _
  have e : BitVec.ofInt 64 (-1 : Int) = BitVec.allOnes 64 := by decide
  have e2 : (BitVec.ofInt 64 (a : Int)).toNat = a := by rw [BitVec.toNat_ofInt]; simp; omega
  rw [e, BitVec.xor_allOnes, BitVec.toNat_not, e2]
  simp only [IntKind.wrap_i64]
  omega

theorem turnV_val (n : Int) : (turnV n : Int) = if 0 ≤ n then 2 * n else -2 * n - 1 := by
  unfold turnV
  by_cases h : 0 ≤ n
  · rw [if_pos h, if_pos h]; omega
  · rw [if_neg h, if_neg h]; omega
set_option maxHeartbeats 1000000 in
theorem vturn_any (n : Int) (w : World) (h0 : -4611686018427387904 ≤ n) (h1 : n ≤ 4611686018427387904) : Calls Try.prog 100 #[.int .i64 n] w fun e w' => e = .returned (.int .u64 (turnV n : Int)) ∧ w = w' := by
  rw [turnV_val]
  by_cases hn : 0 ≤ n
  · rw [if_pos hn]
    have hx : Go.bits BinOp.xor IntKind.u64 (2 * n) 0 = 2 * n := by
      have := xor0_u64 (2 * n).toNat (by omega)
      rwa [Int.toNat_of_nonneg (by omega)] at this
    have c1 : IntKind.u64.wrap n = n := by rw [wraps_u64n]; omega
    have c2 : IntKind.u64.wrap (n * 2) = 2 * n := by rw [wraps_u64n]; omega
    have c3 : n / 9223372036854775808 = 0 := by omega
    go_enter Try.func100, Try.ntmps100
    go_wp2
    go_ret
    exact ⟨rfl, rfl⟩
  · rw [if_neg hn]
    have hx : Go.bits BinOp.xor IntKind.u64 (2 * n + 18446744073709551616) 18446744073709551615 = -2 * n - 1 := by
      have := xor1_u64 (2 * n + 18446744073709551616).toNat (by omega)
      rw [Int.toNat_of_nonneg (by omega)] at this
      rw [this]; omega
    have c1 : IntKind.u64.wrap n = n + 18446744073709551616 := by rw [wraps_u64n]; omega
    have c2 : IntKind.u64.wrap ((n + 18446744073709551616) * 2) = 2 * n + 18446744073709551616 := by rw [wraps_u64n]; omega
    have c3 : n / 9223372036854775808 = -1 := by omega
    have c4 : IntKind.u64.wrap (-1) = 18446744073709551615 := by decide
    go_enter Try.func100, Try.ntmps100
    go_wp2
    go_ret
    exact ⟨rfl, rfl⟩

theorem backV_val (n : Nat) : backV n = if n % 2 = 0 then (n : Int) / 2 else -((n : Int) / 2) - 1 := by
  unfold backV
  split
  · rfl
  · push_cast; rfl
set_option maxHeartbeats 1000000 in
theorem vback_any (n : Nat) (w : World) (h1 : n < 18446744073709551616) : Calls Try.prog 107 #[.int .u64 (n : Int)] w fun e w' => e = .returned (.int .i64 (backV n)) ∧ w = w' := by
  rw [backV_val]
  have hand : Go.bits BinOp.and IntKind.u64 (n : Int) 1 = ((n % 2 : Nat) : Int) := by
    have := (bits_nat .u64 64 (by decide) (fun n h0 h1 => by rw [wraps_u64n]; omega) n 1 (by omega) (by decide)).1
    rw [Nat.and_one_is_mod] at this
    exact_mod_cast this
  have ed : ((n / 2 : Nat) : Int) = (n : Int) / 2 := by omega
  have c2 : IntKind.u64.wrap ((n : Int) / 2) = (n : Int) / 2 := by rw [wraps_u64n]; omega
  have c3 : IntKind.i64.wrap ((n : Int) / 2) = (n : Int) / 2 := by simp only [IntKind.wrap_i64]; omega
  by_cases hn : n % 2 = 0
  · rw [if_pos hn]
    rw [hn] at hand
    have hx := xor0_i64 (n / 2) (by omega)
    rw [ed] at hx
    clear ed
    go_enter Try.func107, Try.ntmps107
    go_wp2
    go_ret
    exact ⟨rfl, rfl⟩
  · rw [if_neg hn]
    have hn1 : n % 2 = 1 := by omega
    rw [hn1] at hand
    have hx := xor1_i64 (n / 2) (by omega)
    rw [ed] at hx
    clear ed
    go_enter Try.func107, Try.ntmps107
    go_wp2
    go_ret
    exact ⟨rfl, rfl⟩
set_option maxHeartbeats 1000000 in
theorem rvturn_any (n : Int) (w : World) (h0 : -4611686018427387904 ≤ n) (h1 : n ≤ 4611686018427387904) : Calls Try.prog 103 #[.int .i64 n] w fun e w' => e = .returned (.int .u64 (turnV n : Int)) ∧ w = w' := by
  rw [turnV_val]
  by_cases hn : 0 ≤ n
  · rw [if_pos hn]
    have c1 : IntKind.u64.wrap n = n := by rw [wraps_u64n]; omega
    have c2 : IntKind.u64.wrap (2 * n) = 2 * n := by rw [wraps_u64n]; omega
    go_enter Try.func103, Try.ntmps103
    go_wp2
    go_ret
    exact ⟨rfl, rfl⟩
  · rw [if_neg hn]
    have c0 : IntKind.i64.wrap (n + 1) = n + 1 := by simp only [IntKind.wrap_i64]; omega
    have c1 : IntKind.i64.wrap (-(n + 1)) = -(n + 1) := by simp only [IntKind.wrap_i64]; omega
    have c2 : IntKind.u64.wrap (-(n + 1)) = -(n + 1) := by rw [wraps_u64n]; omega
    have c3 : IntKind.u64.wrap (2 * -(n + 1)) = 2 * -(n + 1) := by rw [wraps_u64n]; omega
    have c4 : IntKind.u64.wrap (2 * -(n + 1) + 1) = -2 * n - 1 := by rw [wraps_u64n]; omega
    go_enter Try.func103, Try.ntmps103
    go_wp2
    go_ret
    exact ⟨rfl, rfl⟩
theorem turnV_lt {k : Int} (h0 : -4611686018427387904 ≤ k) (h1 : k ≤ 4611686018427387904) : turnV k < 18446744073709551616 := by
  have := turnV_val k
  split at this <;> omega
set_option maxHeartbeats 1000000 in
theorem wsgn_any (g B : Nat) (xs : List Int) (k : Int) (w : World) (h : Wr w g B xs) (hB : B ≤ w.heap.size) (h0 : -4611686018427387904 ≤ k) (h1 : k ≤ 4611686018427387904) (hm : xs.length ≤ 900000000) :
    Calls Try.prog 56 #[.pointer (some ⟨g, 0, none⟩), .int .i64 k] w fun e w' => (∃ u, e = .returned u) ∧ Wr w' g B (xs ++ putV (turnV k)) ∧ WrTo g B w w' := by
  have hn64 := turnV_lt h0 h1
  have HT0 := Lib.hid (fun W => vturn_any k W h0 h1)
  obtain ⟨n, hn⟩ : ∃ n, turnV k = n := ⟨_, rfl⟩
  rw [hn] at hn64 HT0 ⊢
  have HPL : Hid (xs.length + (putV n).length ≤ 1000000000) := by
    have := putV_10 n hn64
    show _ ≤ _
    omega
  clear hn
  go_enter Try.func56, Try.ntmps56
  go_wp2_with (first
    | (go_at_call 100; refine (HT0.out _).mono ?_; rintro e w0 ⟨rfl, rfl⟩)
    | (go_at_call 99; go_loud (refine (vput_any n _ hn64).mono ?_); rintro e w1 ⟨v, rfl, ho, hb⟩; obtain ⟨a1, c1, rfl, hsl, -⟩ := ho.slice; have HSL := Lib.hid hsl; have HB1 := Lib.hid hb; clear ho hb hsl)
    | (go_at_call 98; go_loud (refine (wput_any g B xs a1 _ c1 (putV n) w1 (h.below HB1.out) (by have := HB1.out.size; omega) HSL.out HPL.out).mono ?_); rintro e w2 ⟨⟨u, rfl⟩, hw, ht⟩; have HW := Lib.hid hw; have HT := Lib.hid ht; clear hw ht))
  refine bodyPost_end (results_none rfl _ _ _) rfl ?_
  exact ⟨⟨_, rfl⟩, HW.out, (WrTo.of_below HB1.out).trans HT.out⟩
set_option maxHeartbeats 1000000 in
theorem wbyte_any (g B : Nat) (xs : List Int) (k : Int) (w : World) (h : Wr w g B xs) (hB : B ≤ w.heap.size) (hm : xs.length ≤ 900000000) :
    Calls Try.prog 57 #[.pointer (some ⟨g, 0, none⟩), .int .u8 k] w fun e w' => (∃ u, e = .returned u) ∧ Wr w' g B (xs ++ [k]) ∧ WrTo g B w w' := by
  have HB0 : Hid (Below w.heap.size w (w.alloc (.cells #[.int .u8 k] 5))) := (Below.refl _ _).alloc (Nat.le_refl _) _
  have HS0 : Hid (Sl bcod (w.alloc (.cells #[.int .u8 k] 5)) (some ⟨w.heap.size, 0, none⟩) 1 1 [k]) := sl_new (c := bcod) w #[.int .u8 k] 5 [k] 1 rfl (by unfold maxLen; omega) rfl
  go_enter Try.func57, Try.ntmps57
  go_wp2_with (go_at_call 98; go_loud (refine (wput_any g B xs (some ⟨w.heap.size, 0, none⟩) 1 1 [k] _ (h.below HB0.out) (by have := HB0.out.size; omega) HS0.out (by omega)).mono ?_); rintro e w2 ⟨⟨u, rfl⟩, hw, ht⟩; have HW := Lib.hid hw; have HT := Lib.hid ht; clear hw ht)
  refine bodyPost_end (results_none rfl _ _ _) rfl ?_
  exact ⟨⟨_, rfl⟩, HW.out, (WrTo.of_below HB0.out).trans HT.out⟩
set_option maxHeartbeats 1000000 in
theorem r3sgn_any (k : Int) (w : World) (h0 : -4611686018427387904 ≤ k) (h1 : k ≤ 4611686018427387904) :
    Calls Try.prog 60 #[.int .i64 k] w fun e w' => ∃ v, e = .returned v ∧ V.Own 5 bcod w.heap.size w' v (putV (turnV k)) ∧ Below w.heap.size w w' := by
  have hn64 := turnV_lt h0 h1
  have HT0 := Lib.hid (fun W => rvturn_any k W h0 h1)
  obtain ⟨n, hn⟩ : ∃ n, turnV k = n := ⟨_, rfl⟩
  rw [hn] at hn64 HT0 ⊢
  clear hn
  go_enter Try.func60, Try.ntmps60
  go_wp2_with (first
    | (go_at_call 103; refine (HT0.out _).mono ?_; rintro e w0 ⟨rfl, rfl⟩)
    | (go_at_call 102; go_loud (refine (rput_any n _ hn64).mono ?_); rintro e w1 ⟨v, rfl, ho, hb⟩; have HO1 := Lib.hid ho; have HB1 := Lib.hid hb; clear ho hb))
  go_ret
  exact ⟨_, rfl, HO1.out, HB1.out⟩
end Go.Proofs.Ytbdkhgenkekioaa.Wi
