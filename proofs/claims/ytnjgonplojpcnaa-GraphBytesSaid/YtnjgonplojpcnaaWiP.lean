/- Numbers as bytes, and checksums: plain laws. -/
import Derived.Lib.Hide
namespace Go.Proofs.Ytnjgonplojpcnaa.Wi
/-! ### Numbers as bytes -/
/-- A number's bytes. -/
def putV (n : Nat) : List Int := if h : n < 128 then [(n : Int)] else ((n % 128 + 128 : Nat) : Int) :: putV (n / 128)
termination_by n
decreasing_by omega
theorem putV_small {n : Nat} (h : n < 128) : putV n = [(n : Int)] := by rw [putV, dif_pos h]
theorem putV_big {n : Nat} (h : ¬ n < 128) : putV n = ((n % 128 + 128 : Nat) : Int) :: putV (n / 128) := by rw [putV, dif_neg h]
theorem putV_len : ∀ (k n : Nat), n < 128 ^ k → 0 < k → (putV n).length ≤ k
  | k + 1, n, h, _ => by
    by_cases hs : n < 128
    · rw [putV_small hs]; simp
    · rw [putV_big hs]
      have : 0 < k := by
        rcases Nat.eq_zero_or_pos k with e | e
        · subst e; omega
        · exact e
      have := putV_len k (n / 128) (by rw [Nat.pow_succ] at h; omega) this
      simpa using this
theorem putV_pos (n : Nat) : 0 < (putV n).length := by
  by_cases hs : n < 128
  · rw [putV_small hs]; simp
  · rw [putV_big hs]; simp
theorem putV_byte : ∀ (k n : Nat), n < 128 ^ k → ∀ x ∈ putV n, 0 ≤ x ∧ x < 256
  | 0, n, h, x, hx => by
    have : n = 0 := by simpa using h
    subst this
    rw [putV_small (by omega)] at hx
    simp at hx; omega
  | k + 1, n, h, x, hx => by
    by_cases hs : n < 128
    · rw [putV_small hs] at hx
      simp at hx; omega
    · rw [putV_big hs] at hx
      rcases List.mem_cons.1 hx with e | e
      · omega
      · exact putV_byte k (n / 128) (by rw [Nat.pow_succ] at h; omega) x e

/-- The number that bytes begin with, from the i-th byte on: (number, how many bytes, error). -/
def takeGo : List Int → Nat → Nat → Nat × Nat × Int
  | [], _, _ => (0, 0, 10)
  | c :: l, i, n => if i = 9 ∧ 1 < c then (0, 0, 11) else if 127 < c then takeGo l (i + 1) (n + (c.toNat % 128) * 128 ^ i) else if c = 0 ∧ 0 < i then (0, 0, 11) else (n + (c.toNat % 128) * 128 ^ i, i + 1, 0)
def takeV (b : List Int) : Nat × Nat × Int := takeGo b 0 0
theorem takeGo_put : ∀ (k n i a : Nat) (t : List Int), n < 128 ^ k → i + k ≤ 9 ∨ (i + k = 10 ∧ n < 2 * 128 ^ (9 - i)) → (i = 0 ∨ 0 < n) → takeGo (putV n ++ t) i a = (a + n * 128 ^ i, i + (putV n).length, 0)
  | 0, n, i, a, t, h, hk, h0 => by
    have : n = 0 := by simpa using h
    subst this
    have hi : i = 0 := by omega
    subst hi
    rw [putV_small (by omega)]
    simp [takeGo]
  | k + 1, n, i, a, t, h, hk, h0 => by
    by_cases hs : n < 128
    · rw [putV_small hs]
      show takeGo ((n : Int) :: t) i a = _
      unfold takeGo
      have h9 : ¬ (i = 9 ∧ 1 < (n : Int)) := by
        rintro ⟨rfl, h1⟩
        rcases hk with hk | ⟨hk, hn⟩
        · omega
        · simp at hn; omega
      rw [if_neg h9, if_neg (by omega), if_neg (by omega)]
      have : (n : Int).toNat % 128 = n := by omega
      rw [this]; simp
    · rw [putV_big hs]
      show takeGo (((n % 128 + 128 : Nat) : Int) :: (putV (n / 128) ++ t)) i a = _
      unfold takeGo
      have h9 : ¬ (i = 9 ∧ 1 < ((n % 128 + 128 : Nat) : Int)) := by
        rintro ⟨rfl, h1⟩
        rcases hk with hk | ⟨hk, hn⟩
        · omega
        · simp at hn; omega
      rw [if_neg h9, if_pos (by omega)]
      have e1 : ((n % 128 + 128 : Nat) : Int).toNat % 128 = n % 128 := by omega
      rw [e1, takeGo_put k (n / 128) (i + 1) _ t (by rw [Nat.pow_succ] at h; omega) ?_ (.inr (by omega))]
      · have e2 : a + n % 128 * 128 ^ i + n / 128 * 128 ^ (i + 1) = a + n * 128 ^ i := by
          rw [Nat.pow_succ, ← Nat.mul_assoc, Nat.mul_comm _ 128, ← Nat.mul_assoc, Nat.add_assoc, ← Nat.add_mul]
          congr 2; omega
        rw [e2]
        simp only [List.length_cons]
        congr 2; omega
      · rcases hk with hk | ⟨hk, hn⟩
        · exact .inl (by omega)
        · rcases Nat.lt_or_ge i 9 with hi | hi
          · refine .inr ⟨by omega, ?_⟩
            have : 9 - i = (9 - (i + 1)) + 1 := by omega
            rw [this, Nat.pow_succ] at hn
            omega
          · have : 9 - i = 0 := by omega
            rw [this] at hn; simp at hn; omega
/-- What is put is taken. -/
theorem takeV_put (n : Nat) (t : List Int) (h : n < 18446744073709551616) : takeV (putV n ++ t) = (n, (putV n).length, 0) := by
  have := takeGo_put 10 n 0 0 t (by have : (18446744073709551616 : Nat) ≤ 128 ^ 10 := by decide
                                    omega) (.inr ⟨rfl, by have : 2 * 128 ^ (9 - 0) = 18446744073709551616 := by decide
                                                          omega⟩) (.inl rfl)
  unfold takeV; rw [this]; simp

/-! ### The checksum -/
def polyN : Nat := 3988292384
def step1 (c : Nat) : Nat := if c % 2 = 1 then c / 2 ^^^ polyN else c / 2
theorem xor_half (a b : Nat) : (a ^^^ b) / 2 = a / 2 ^^^ b / 2 := by
  apply Nat.eq_of_testBit_eq
  intro i
  simp [Nat.testBit_div_two, Nat.testBit_xor]
theorem xor_par (a b : Nat) : (a ^^^ b) % 2 = (a + b) % 2 := by
  have h : (a ^^^ b) % 2 ^ 1 = a % 2 ^ 1 ^^^ b % 2 ^ 1 := Nat.xor_mod_two_pow
  rw [show (2 : Nat) ^ 1 = 2 from rfl] at h
  rw [h]
  have ha := Nat.mod_two_eq_zero_or_one a
  have hb := Nat.mod_two_eq_zero_or_one b
  rcases ha with ha | ha <;> rcases hb with hb | hb <;> rw [ha, hb] <;> simp <;> omega
theorem step1_xor (a b : Nat) : step1 (a ^^^ b) = step1 a ^^^ step1 b := by
  unfold step1
  rw [xor_par, xor_half]
  have ha := Nat.mod_two_eq_zero_or_one a
  have hb := Nat.mod_two_eq_zero_or_one b
  rcases ha with ha | ha <;> rcases hb with hb | hb
  · rw [if_neg (by omega), if_neg (by omega), if_neg (by omega)]
  · rw [if_pos (by omega), if_neg (by omega), if_pos (by omega), Nat.xor_assoc]
  · rw [if_pos (by omega), if_pos (by omega), if_neg (by omega), Nat.xor_assoc, Nat.xor_comm (b / 2), ← Nat.xor_assoc]
  · rw [if_neg (by omega), if_pos (by omega), if_pos (by omega)]
    rw [Nat.xor_assoc, ← Nat.xor_assoc polyN, Nat.xor_comm polyN, Nat.xor_assoc, Nat.xor_self, Nat.xor_zero]
def step4 (c : Nat) : Nat := step1 (step1 (step1 (step1 c)))
def step8 (c : Nat) : Nat := step4 (step4 c)
theorem step4_xor (a b : Nat) : step4 (a ^^^ b) = step4 a ^^^ step4 b := by
  unfold step4; simp only [step1_xor]
theorem step1_even (a : Nat) : step1 (2 * a) = a := by
  unfold step1; rw [if_neg (by omega)]; omega
theorem step4_low (a : Nat) : step4 (16 * a) = a := by
  unfold step4
  rw [show 16 * a = 2 * (2 * (2 * (2 * a))) by omega]
  simp only [step1_even]
theorem split16 (c : Nat) : c = 16 * (c / 16) ^^^ c % 16 := by
  have h : 16 * (c / 16) ^^^ c % 16 = 16 * (c / 16) + c % 16 := by
    have := Nat.two_pow_add_eq_or_of_lt (i := 4) (b := c % 16) (by omega) (c / 16)
    apply Nat.eq_of_testBit_eq
    intro i
    rw [show (16 : Nat) = 2 ^ 4 from rfl] at *
    rw [this, Nat.testBit_xor, Nat.testBit_or]
    rw [Nat.testBit_two_pow_mul]
    by_cases hi : 4 ≤ i
    · have : (c % 2 ^ 4).testBit i = false := Nat.testBit_lt_two_pow (Nat.lt_of_lt_of_le (Nat.mod_lt _ (by decide)) (Nat.pow_le_pow_right (by decide) hi))
      rw [this]; simp
    · simp [hi]
  rw [h]; omega
/-- Four bits at once, by what they do. -/
theorem step4_table (c : Nat) : c / 16 ^^^ step4 (c % 16) = step4 c := by
  conv => rhs; rw [split16 c, step4_xor, step4_low]
/-- One byte more. -/
def crcB (r x : Nat) : Nat := step8 (r ^^^ x)
def crcR : List Int → Nat → Nat
  | [], r => r
  | x :: l, r => crcR l (crcB r x.toNat)
def crcE (b : List Int) : Nat := 4294967295 - crcR b 4294967295
/-- Bit by bit. -/
def bit1 (rx : Nat × Nat) : Nat × Nat := (if rx.1 % 2 ≠ rx.2 % 2 then rx.1 / 2 ^^^ polyN else rx.1 / 2, rx.2 / 2)
theorem bit1_step (r x : Nat) : (bit1 (r, x)).1 ^^^ (bit1 (r, x)).2 = step1 (r ^^^ x) := by
  unfold bit1 step1
  rw [xor_half, xor_par]
  simp only []
  have ha := Nat.mod_two_eq_zero_or_one r
  have hb := Nat.mod_two_eq_zero_or_one x
  by_cases h : r % 2 = x % 2
  · rw [if_neg (by omega), if_neg (by omega)]
  · rw [if_pos (by omega), if_pos (by omega)]
    rw [Nat.xor_assoc, Nat.xor_comm polyN, ← Nat.xor_assoc]
def bits (n : Nat) (rx : Nat × Nat) : Nat × Nat := match n with | 0 => rx | n + 1 => bits n (bit1 rx)
theorem bits8 (r x : Nat) (h : x < 256) : (bits 8 (r, x)).1 = crcB r x := by
  have e : ∀ n (rx : Nat × Nat), (bits n rx).2 = rx.2 / 2 ^ n := by
    intro n
    induction n with
    | zero => intro rx; show rx.2 = _; simp
    | succ n ih =>
      intro rx
      show (bits n (bit1 rx)).2 = _
      rw [ih]
      show rx.2 / 2 / 2 ^ n = _
      rw [Nat.div_div_eq_div_mul, Nat.pow_succ, Nat.mul_comm]
  have s : ∀ (rx : Nat × Nat), (bit1 rx).1 ^^^ (bit1 rx).2 = step1 (rx.1 ^^^ rx.2) := fun rx => bit1_step rx.1 rx.2
  have h2 : (bits 8 (r, x)).2 = 0 := by rw [e]; show x / 256 = 0; omega
  have h3 : (bits 8 (r, x)).1 ^^^ (bits 8 (r, x)).2 = crcB r x := by
    show (bit1 (bit1 (bit1 (bit1 (bit1 (bit1 (bit1 (bit1 (r, x))))))))).1 ^^^ (bit1 (bit1 (bit1 (bit1 (bit1 (bit1 (bit1 (bit1 (r, x))))))))).2 = _
    simp only [s]; rfl
  rw [h2, Nat.xor_zero] at h3
  exact h3
theorem polyN_lt : polyN < 4294967296 := by decide
theorem xor_lt32 {a b : Nat} (ha : a < 4294967296) (hb : b < 4294967296) : a ^^^ b < 4294967296 := Nat.xor_lt_two_pow (n := 32) ha hb
theorem step1_lt {c : Nat} (h : c < 4294967296) : step1 c < 4294967296 := by
  unfold step1; split
  · exact xor_lt32 (by omega) polyN_lt
  · omega
theorem step4_lt {c : Nat} (h : c < 4294967296) : step4 c < 4294967296 := step1_lt (step1_lt (step1_lt (step1_lt h)))
theorem crcB_lt {r x : Nat} (h : r < 4294967296) (hx : x < 256) : crcB r x < 4294967296 := step4_lt (step4_lt (xor_lt32 h (by omega)))
theorem crcR_snoc : ∀ (l : List Int) (x : Int) (r : Nat), crcR (l ++ [x]) r = crcB (crcR l r) x.toNat
  | [], _, _ => rfl
  | y :: l, x, r => crcR_snoc l x (crcB r y.toNat)
theorem crcR_lt : ∀ (l : List Int) (r : Nat), (∀ x ∈ l, 0 ≤ x ∧ x < 256) → r < 4294967296 → crcR l r < 4294967296
  | [], _, _, h => h
  | x :: l, r, hl, h => crcR_lt l _ (fun y hy => hl y (by simp [hy])) (crcB_lt h (by have := hl x (by simp); omega))
/-- A checksum's bytes. -/
def sumB (n : Nat) : List Int := [((n % 256 : Nat) : Int), ((n / 256 % 256 : Nat) : Int), ((n / 65536 % 256 : Nat) : Int), ((n / 16777216 % 256 : Nat) : Int)]
end Go.Proofs.Ytnjgonplojpcnaa.Wi
