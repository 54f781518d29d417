/- Numbers as bytes, and checksums: plain laws. -/
/- Frames and fields: plain laws. -/
import Derived.Lib.Hide
namespace Go.Proofs.Ytbdkhgenkekioaa.Wi
/-! ### Numbers as bytes -/
/-- A number's bytes. -/
def putV (n : Nat) : List Int := if h : n < 128 then [(n : Int)] else ((n % 128 + 128 : Nat) : Int) :: putV (n / 128)
termination_by n
decreasing_by omega
theorem putV_small {n : Nat} (h : n < 128) : putV n = [(n : Int)] := by rw [putV, dif_pos h]
theorem putV_big {n : Nat} (h : ¬ n < 128) : putV n = ((n % 128 + 128 : Nat) : Int) :: putV (n / 128) := by rw [putV, dif_neg h]
theorem putV_len : ∀ (k n : Nat), n < 128 ^ k → 0 < k → (putV n).length ≤ k
  | k + 1, n, h, _ => by
    by_cases hs : n < 128
    · rw [putV_small hs]; simp
    · rw [putV_big hs]
      have : 0 < k := by
        rcases Nat.eq_zero_or_pos k with e | e
        · subst e; omega
        · exact e
      have := putV_len k (n / 128) (by rw [Nat.pow_succ] at h; omega) this
      simpa using this
theorem putV_pos (n : Nat) : 0 < (putV n).length := by
  by_cases hs : n < 128
  · rw [putV_small hs]; simp
  · rw [putV_big hs]; simp
theorem putV_byte : ∀ (k n : Nat), n < 128 ^ k → ∀ x ∈ putV n, 0 ≤ x ∧ x < 256
  | 0, n, h, x, hx => by
    have : n = 0 := by simpa using h
    subst this
    rw [putV_small (by omega)] at hx
    simp at hx; omega
  | k + 1, n, h, x, hx => by
    by_cases hs : n < 128
    · rw [putV_small hs] at hx
      simp at hx; omega
    · rw [putV_big hs] at hx
      rcases List.mem_cons.1 hx with e | e
      · omega
      · exact putV_byte k (n / 128) (by rw [Nat.pow_succ] at h; omega) x e

/-- The number that bytes begin with, from the i-th byte on: (number, how many bytes, error). -/
def takeGo : List Int → Nat → Nat → Nat × Nat × Int
  | [], _, _ => (0, 0, 10)
  | c :: l, i, n => if i = 9 ∧ 1 < c then (0, 0, 11) else if 127 < c then takeGo l (i + 1) (n + (c.toNat % 128) * 128 ^ i) else if c = 0 ∧ 0 < i then (0, 0, 11) else (n + (c.toNat % 128) * 128 ^ i, i + 1, 0)
def takeV (b : List Int) : Nat × Nat × Int := takeGo b 0 0
theorem takeGo_put : ∀ (k n i a : Nat) (t : List Int), n < 128 ^ k → i + k ≤ 9 ∨ (i + k = 10 ∧ n < 2 * 128 ^ (9 - i)) → (i = 0 ∨ 0 < n) → takeGo (putV n ++ t) i a = (a + n * 128 ^ i, i + (putV n).length, 0)
  | 0, n, i, a, t, h, hk, h0 => by
    have : n = 0 := by simpa using h
    subst this
    have hi : i = 0 := by omega
    subst hi
    rw [putV_small (by omega)]
    simp [takeGo]
  | k + 1, n, i, a, t, h, hk, h0 => by
    by_cases hs : n < 128
    · rw [putV_small hs]
      show takeGo ((n : Int) :: t) i a = _
      unfold takeGo
      have h9 : ¬ (i = 9 ∧ 1 < (n : Int)) := by
        rintro ⟨rfl, h1⟩
        rcases hk with hk | ⟨hk, hn⟩
        · omega
        · simp at hn; omega
      rw [if_neg h9, if_neg (by omega), if_neg (by omega)]
      have : (n : Int).toNat % 128 = n := by omega
      rw [this]; simp
    · rw [putV_big hs]
      show takeGo (((n % 128 + 128 : Nat) : Int) :: (putV (n / 128) ++ t)) i a = _
      unfold takeGo
      have h9 : ¬ (i = 9 ∧ 1 < ((n % 128 + 128 : Nat) : Int)) := by
        rintro ⟨rfl, h1⟩
        rcases hk with hk | ⟨hk, hn⟩
        · omega
        · simp at hn; omega
      rw [if_neg h9, if_pos (by omega)]
      have e1 : ((n % 128 + 128 : Nat) : Int).toNat % 128 = n % 128 := by omega
      rw [e1, takeGo_put k (n / 128) (i + 1) _ t (by rw [Nat.pow_succ] at h; omega) ?_ (.inr (by omega))]
      · have e2 : a + n % 128 * 128 ^ i + n / 128 * 128 ^ (i + 1) = a + n * 128 ^ i := by
          rw [Nat.pow_succ, ← Nat.mul_assoc, Nat.mul_comm _ 128, ← Nat.mul_assoc, Nat.add_assoc, ← Nat.add_mul]
          congr 2; omega
        rw [e2]
        simp only [List.length_cons]
        congr 2; omega
      · rcases hk with hk | ⟨hk, hn⟩
        · exact .inl (by omega)
        · rcases Nat.lt_or_ge i 9 with hi | hi
          · refine .inr ⟨by omega, ?_⟩
            have : 9 - i = (9 - (i + 1)) + 1 := by omega
            rw [this, Nat.pow_succ] at hn
            omega
          · have : 9 - i = 0 := by omega
            rw [this] at hn; simp at hn; omega
/-- What is put is taken. -/
theorem takeV_put (n : Nat) (t : List Int) (h : n < 18446744073709551616) : takeV (putV n ++ t) = (n, (putV n).length, 0) := by
  have := takeGo_put 10 n 0 0 t (by have : (18446744073709551616 : Nat) ≤ 128 ^ 10 := by decide
                                    omega) (.inr ⟨rfl, by have : 2 * 128 ^ (9 - 0) = 18446744073709551616 := by decide
                                                          omega⟩) (.inl rfl)
  unfold takeV; rw [this]; simp

/-! ### The checksum -/
def polyN : Nat := 3988292384
def step1 (c : Nat) : Nat := if c % 2 = 1 then c / 2 ^^^ polyN else c / 2
theorem xor_half (a b : Nat) : (a ^^^ b) / 2 = a / 2 ^^^ b / 2 := by
  apply Nat.eq_of_testBit_eq
  intro i
  simp [Nat.testBit_div_two, Nat.testBit_xor]
theorem xor_par (a b : Nat) : (a ^^^ b) % 2 = (a + b) % 2 := by
  have h : (a ^^^ b) % 2 ^ 1 = a % 2 ^ 1 ^^^ b % 2 ^ 1 := Nat.xor_mod_two_pow
  rw [show (2 : Nat) ^ 1 = 2 from rfl] at h
  rw [h]
  have ha := Nat.mod_two_eq_zero_or_one a
  have hb := Nat.mod_two_eq_zero_or_one b
  rcases ha with ha | ha <;> rcases hb with hb | hb <;> rw [ha, hb] <;> simp <;> omega
theorem step1_xor (a b : Nat) : step1 (a ^^^ b) = step1 a ^^^ step1 b := by
  unfold step1
  rw [xor_par, xor_half]
  have ha := Nat.mod_two_eq_zero_or_one a
  have hb := Nat.mod_two_eq_zero_or_one b
  rcases ha with ha | ha <;> rcases hb with hb | hb
  · rw [if_neg (by omega), if_neg (by omega), if_neg (by omega)]
  · rw [if_pos (by omega), if_neg (by omega), if_pos (by omega), Nat.xor_assoc]
  · rw [if_pos (by omega), if_pos (by omega), if_neg (by omega), Nat.xor_assoc, Nat.xor_comm (b / 2), ← Nat.xor_assoc]
  · rw [if_neg (by omega), if_pos (by omega), if_pos (by omega)]
    rw [Nat.xor_assoc, ← Nat.xor_assoc polyN, Nat.xor_comm polyN, Nat.xor_assoc, Nat.xor_self, Nat.xor_zero]
def step4 (c : Nat) : Nat := step1 (step1 (step1 (step1 c)))
def step8 (c : Nat) : Nat := step4 (step4 c)
theorem step4_xor (a b : Nat) : step4 (a ^^^ b) = step4 a ^^^ step4 b := by
  unfold step4; simp only [step1_xor]
theorem step1_even (a : Nat) : step1 (2 * a) = a := by
  unfold step1; rw [if_neg (by omega)]; omega
theorem step4_low (a : Nat) : step4 (16 * a) = a := by
  unfold step4
  rw [show 16 * a = 2 * (2 * (2 * (2 * a))) by omega]
  simp only [step1_even]
theorem split16 (c : Nat) : c = 16 * (c / 16) ^^^ c % 16 := by
  have h : 16 * (c / 16) ^^^ c % 16 = 16 * (c / 16) + c % 16 := by
    have := Nat.two_pow_add_eq_or_of_lt (i := 4) (b := c % 16) (by omega) (c / 16)
    apply Nat.eq_of_testBit_eq
    intro i
    rw [show (16 : Nat) = 2 ^ 4 from rfl] at *
    rw [this, Nat.testBit_xor, Nat.testBit_or]
    rw [Nat.testBit_two_pow_mul]
    by_cases hi : 4 ≤ i
    · have : (c % 2 ^ 4).testBit i = false := Nat.testBit_lt_two_pow (Nat.lt_of_lt_of_le (Nat.mod_lt _ (by decide)) (Nat.pow_le_pow_right (by decide) hi))
      rw [this]; simp
    · simp [hi]
  rw [h]; omega
/-- Four bits at once, by what they do. -/
theorem step4_table (c : Nat) : c / 16 ^^^ step4 (c % 16) = step4 c := by
  conv => rhs; rw [split16 c, step4_xor, step4_low]
/-- One byte more. -/
def crcB (r x : Nat) : Nat := step8 (r ^^^ x)
def crcR : List Int → Nat → Nat
  | [], r => r
  | x :: l, r => crcR l (crcB r x.toNat)
def crcE (b : List Int) : Nat := 4294967295 - crcR b 4294967295
/-- Bit by bit. -/
def bit1 (rx : Nat × Nat) : Nat × Nat := (if rx.1 % 2 ≠ rx.2 % 2 then rx.1 / 2 ^^^ polyN else rx.1 / 2, rx.2 / 2)
theorem bit1_step (r x : Nat) : (bit1 (r, x)).1 ^^^ (bit1 (r, x)).2 = step1 (r ^^^ x) := by
  unfold bit1 step1
  rw [xor_half, xor_par]
  simp only []
  have ha := Nat.mod_two_eq_zero_or_one r
  have hb := Nat.mod_two_eq_zero_or_one x
  by_cases h : r % 2 = x % 2
  · rw [if_neg (by omega), if_neg (by omega)]
  · rw [if_pos (by omega), if_pos (by omega)]
    rw [Nat.xor_assoc, Nat.xor_comm polyN, ← Nat.xor_assoc]
def bits (n : Nat) (rx : Nat × Nat) : Nat × Nat := match n with | 0 => rx | n + 1 => bits n (bit1 rx)
theorem bits8 (r x : Nat) (h : x < 256) : (bits 8 (r, x)).1 = crcB r x := by
  have e : ∀ n (rx : Nat × Nat), (bits n rx).2 = rx.2 / 2 ^ n := by
    intro n
    induction n with
    | zero => intro rx; show rx.2 = _; simp
    | succ n ih =>
      intro rx
      show (bits n (bit1 rx)).2 = _
      rw [ih]
      show rx.2 / 2 / 2 ^ n = _
      rw [Nat.div_div_eq_div_mul, Nat.pow_succ, Nat.mul_comm]
  have s : ∀ (rx : Nat × Nat), (bit1 rx).1 ^^^ (bit1 rx).2 = step1 (rx.1 ^^^ rx.2) := fun rx => bit1_step rx.1 rx.2
  have h2 : (bits 8 (r, x)).2 = 0 := by rw [e]; show x / 256 = 0; omega
  have h3 : (bits 8 (r, x)).1 ^^^ (bits 8 (r, x)).2 = crcB r x := by
    show (bit1 (bit1 (bit1 (bit1 (bit1 (bit1 (bit1 (bit1 (r, x))))))))).1 ^^^ (bit1 (bit1 (bit1 (bit1 (bit1 (bit1 (bit1 (bit1 (r, x))))))))).2 = _
    simp only [s]; rfl
  rw [h2, Nat.xor_zero] at h3
  exact h3
theorem polyN_lt : polyN < 4294967296 := by decide
theorem xor_lt32 {a b : Nat} (ha : a < 4294967296) (hb : b < 4294967296) : a ^^^ b < 4294967296 := Nat.xor_lt_two_pow (n := 32) ha hb
theorem step1_lt {c : Nat} (h : c < 4294967296) : step1 c < 4294967296 := by
  unfold step1; split
  · exact xor_lt32 (by omega) polyN_lt
  · omega
theorem step4_lt {c : Nat} (h : c < 4294967296) : step4 c < 4294967296 := step1_lt (step1_lt (step1_lt (step1_lt h)))
theorem crcB_lt {r x : Nat} (h : r < 4294967296) (hx : x < 256) : crcB r x < 4294967296 := step4_lt (step4_lt (xor_lt32 h (by omega)))
theorem crcR_snoc : ∀ (l : List Int) (x : Int) (r : Nat), crcR (l ++ [x]) r = crcB (crcR l r) x.toNat
  | [], _, _ => rfl
  | y :: l, x, r => crcR_snoc l x (crcB r y.toNat)
theorem crcR_lt : ∀ (l : List Int) (r : Nat), (∀ x ∈ l, 0 ≤ x ∧ x < 256) → r < 4294967296 → crcR l r < 4294967296
  | [], _, _, h => h
  | x :: l, r, hl, h => crcR_lt l _ (fun y hy => hl y (by simp [hy])) (crcB_lt h (by have := hl x (by simp); omega))
/-- A checksum's bytes. -/
def sumB (n : Nat) : List Int := [((n % 256 : Nat) : Int), ((n / 256 % 256 : Nat) : Int), ((n / 65536 % 256 : Nat) : Int), ((n / 16777216 % 256 : Nat) : Int)]
end Go.Proofs.Ytbdkhgenkekioaa.Wi

namespace Go.Proofs.Ytbdkhgenkekioaa.Wi

def Byt (b : List Int) : Prop := ∀ x ∈ b, 0 ≤ x ∧ x < 256
theorem Byt.drop {b : List Int} (h : Byt b) (k : Nat) : Byt (b.drop k) := fun x hx => h x (List.mem_of_mem_drop hx)
theorem Byt.take {b : List Int} (h : Byt b) (k : Nat) : Byt (b.take k) := fun x hx => h x (List.mem_of_mem_take hx)
theorem Byt.app {a b : List Int} (h : Byt a) (g : Byt b) : Byt (a ++ b) := fun x hx => by
  rcases List.mem_append.1 hx with e | e
  · exact h x e
  · exact g x e
theorem takeGo_canon : ∀ (l : List Int) (i a n k : Nat), Byt l → takeGo l i a = (n, k, 0) → ∃ m, n = a + m * 128 ^ i ∧ l.take (putV m).length = putV m ∧ k = i + (putV m).length ∧ (0 < i → 0 < m) ∧ (putV m).length ≤ l.length
  | [], i, a, n, k, _, h => by simp [takeGo] at h
  | c :: l, i, a, n, k, hb, h => by
    have hc := hb c (by simp)
    unfold takeGo at h
    split at h
    · simp at h
    split at h
    · next h1 h2 =>
      obtain ⟨m, e1, e2, e3, e4, e5⟩ := takeGo_canon l (i + 1) _ n k (fun x hx => hb x (by simp [hx])) h
      have hm := e4 (by omega)
      have hbig : ¬ (c.toNat % 128 + 128 * m) < 128 := by omega
      have p : putV (c.toNat % 128 + 128 * m) = c :: putV m := by
        rw [putV_big hbig]
        congr 1
        · omega
        · congr 1; omega
      refine ⟨c.toNat % 128 + 128 * m, ?_, ?_, ?_, fun _ => by omega, ?_⟩
      · rw [e1, Nat.pow_succ, Nat.add_mul, Nat.add_assoc]
        congr 2
        rw [Nat.mul_comm (128 ^ i), ← Nat.mul_assoc, Nat.mul_comm m]
      · rw [p]; simp [e2]
      · rw [p, e3]; simp; omega
      · rw [p]; simp; exact e5
    · next h1 h2 =>
      split at h
      · simp at h
      · next h3 =>
        have p : putV c.toNat = [c] := by
          rw [putV_small (by omega)]; congr 1; omega
        have e : (a + c.toNat % 128 * 128 ^ i, i + 1, (0 : Int)) = (n, k, 0) := h
        simp only [Prod.mk.injEq] at e
        refine ⟨c.toNat, ?_, by rw [p]; simp, by rw [p]; simp; omega, fun hi => by omega, by rw [p]; simp⟩
        have : c.toNat % 128 = c.toNat := by omega
        rw [this] at e; exact e.1.symm
theorem takeV_canon {b : List Int} {n k : Nat} (hb : Byt b) (h : takeV b = (n, k, 0)) : b.take k = putV n ∧ k = (putV n).length ∧ k ≤ b.length := by
  obtain ⟨m, e1, e2, e3, -, e5⟩ := takeGo_canon b 0 0 n k hb h
  have : n = m := by rw [e1]; simp
  subst this
  have : k = (putV n).length := by rw [e3]; simp
  rw [this]
  exact ⟨e2, rfl, e5⟩
theorem takeGo_err : ∀ (l : List Int) (i a n k : Nat) (e : Int), takeGo l i a = (n, k, e) → e = 0 ∨ (n = 0 ∧ k = 0 ∧ (e = 10 ∨ e = 11))
  | [], i, a, n, k, e, h => by simp [takeGo] at h; omega
  | c :: l, i, a, n, k, e, h => by
    unfold takeGo at h
    split at h
    · simp at h; omega
    split at h
    · exact takeGo_err l _ _ n k e h
    split at h
    · simp at h; omega
    · simp at h; omega

/-! ### Frames -/
def frameH (kind : Int) (c : List Int) : List Int := 199 :: kind :: putV c.length ++ c
def frameE (kind : Int) (c : List Int) : List Int := frameH kind c ++ sumB (crcE (frameH kind c))
/-- The frame that bytes begin with: its kind, its content, how many bytes, the error. -/
def takeF (b : List Int) : Int × List Int × Nat × Int :=
  match b with
  | [] => (0, [], 0, 10)
  | m :: b1 =>
    if m ≠ 199 then (0, [], 0, 11) else
    match b1 with
    | [] => (0, [], 0, 10)
    | kd :: b2 =>
      let t := takeV b2
      if t.2.2 ≠ 0 then (0, [], 0, t.2.2) else
      if 1048576 < t.1 then (0, [], 0, 3) else
      if b.length < 2 + t.2.1 + t.1 + 4 then (0, [], 0, 10) else
      if (b.drop (2 + t.2.1 + t.1)).take 4 ≠ sumB (crcE (b.take (2 + t.2.1 + t.1))) then (0, [], 0, 12) else
      (kd, (b.take (2 + t.2.1 + t.1)).drop (2 + t.2.1), 2 + t.2.1 + t.1 + 4, 0)
def wholeF (kind : Int) (b : List Int) : List Int × Int :=
  let t := takeF b
  if t.2.2.2 ≠ 0 then ([], t.2.2.2) else if t.1 ≠ kind then ([], 11) else if t.2.2.1 < b.length then ([], 13) else (t.2.1, 0)
/-- The whole frame put again is the bytes just if the sums are the same. -/
theorem frame_same {kd : Int} {b2 : List Int} {n k : Nat} (hb : Byt b2) (ht : takeV b2 = (n, k, 0)) (hl : 2 + k + n + 4 ≤ b2.length + 2) :
    frameE kd (((199 :: kd :: b2).take (2 + k + n)).drop (2 + k)) = (199 :: kd :: b2).take (2 + k + n + 4) ↔ ((199 :: kd :: b2).drop (2 + k + n)).take 4 = sumB (crcE ((199 :: kd :: b2).take (2 + k + n))) := by
  obtain ⟨h1, h2, h3⟩ := takeV_canon hb ht
  have e1 : (((199 :: kd :: b2).take (2 + k + n)).drop (2 + k)) = (b2.drop k).take n := by
    rw [show 2 + k + n = (k + n) + 2 by omega, show 2 + k = k + 2 by omega, List.take_succ_cons, List.take_succ_cons, List.drop_succ_cons, List.drop_succ_cons, List.drop_take]
    congr 1; omega
  have e2 : ((b2.drop k).take n).length = n := by simp; omega
  have e3 : frameH kd ((b2.drop k).take n) = (199 :: kd :: b2).take (2 + k + n) := by
    unfold frameH
    rw [e2, ← h1, show 2 + k + n = (k + n) + 2 by omega, List.take_succ_cons, List.take_succ_cons, List.take_add]
    simp
  have e4 : (199 :: kd :: b2).take (2 + k + n + 4) = (199 :: kd :: b2).take (2 + k + n) ++ ((199 :: kd :: b2).drop (2 + k + n)).take 4 := List.take_add
  unfold frameE
  rw [e1, e3, e4, List.append_right_inj]
  exact eq_comm
/-- What is put is taken whole. -/
theorem whole_put (kind : Int) (c : List Int) (h : c.length ≤ 1048576) : wholeF kind (frameE kind c) = (c, 0) := by
  have e0 : frameE kind c = 199 :: kind :: (putV c.length ++ (c ++ sumB (crcE (frameH kind c)))) := by unfold frameE frameH; simp
  have ht := takeV_put c.length (c ++ sumB (crcE (frameH kind c))) (by omega)
  have hs : (sumB (crcE (frameH kind c))).length = 4 := rfl
  have hl : (frameE kind c).length = 2 + (putV c.length).length + c.length + 4 := by rw [e0]; simp [hs]; omega
  have hh : (frameH kind c).length = 2 + (putV c.length).length + c.length := by unfold frameH; simp; omega
  have e1 : (frameE kind c).take (2 + (putV c.length).length + c.length) = frameH kind c := by
    unfold frameE; rw [← hh, List.take_left]
  have e2 : (frameE kind c).drop (2 + (putV c.length).length + c.length) = sumB (crcE (frameH kind c)) := by
    unfold frameE; rw [← hh, List.drop_left]
  have e3 : (frameH kind c).drop (2 + (putV c.length).length) = c := by
    unfold frameH
    have : 2 + (putV c.length).length = (199 :: kind :: putV c.length).length := by simp; omega
    rw [this, List.drop_left]
  have key : takeF (frameE kind c) = (kind, c, 2 + (putV c.length).length + c.length + 4, 0) := by
    unfold takeF
    rw [e0]
    simp only []
    rw [if_neg (by simp), ht]
    simp only []
    rw [if_neg (by simp), if_neg (by omega), ← e0, hl, if_neg (by omega), e1, e2, if_neg (by rw [List.take_of_length_le (by rw [hs]; omega)]; simp), e3]
  unfold wholeF
  rw [key]
  simp only []
  rw [if_neg (by simp), if_neg (by simp), if_neg (by rw [hl]; omega)]

/-! ### Fields -/
/-- A number that is read: it, how far, what was wrong first. -/
def rdN (b : List Int) (most : Int) (at_ : Nat) (bad : Int) : Int × Nat × Int :=
  if bad ≠ 0 then (0, at_, bad) else
  let t := takeV (b.drop at_)
  if t.2.2 ≠ 0 then (0, at_, t.2.2) else
  if (t.1 : Int) ≤ most ∧ t.1 ≤ 4611686018427387904 then (t.1, at_ + t.2.1, 0) else (0, at_, 3)
def turnV (n : Int) : Nat := if 0 ≤ n then 2 * n.toNat else 2 * (-(n + 1)).toNat + 1
def backV (n : Nat) : Int := if n % 2 = 0 then n / 2 else -(n / 2 : Nat) - 1
def rdS (b : List Int) (most : Int) (at_ : Nat) (bad : Int) : Int × Nat × Int :=
  if bad ≠ 0 then (0, at_, bad) else
  let t := takeV (b.drop at_)
  if t.2.2 ≠ 0 then (0, at_, t.2.2) else
  if (t.1 / 2 + t.1 % 2 : Nat) ≤ most ∧ t.1 / 2 + t.1 % 2 ≤ 4611686018427387904 then (backV t.1, at_ + t.2.1, 0) else (0, at_, 3)
def rdB (b : List Int) (at_ : Nat) (bad : Int) : Int × Nat × Int :=
  if bad ≠ 0 then (0, at_, bad) else if b.length ≤ at_ then (0, at_, 10) else (b.getD at_ 0, at_ + 1, 0)
def rdX (b : List Int) (most : Int) (at_ : Nat) (bad : Int) : List Int × Nat × Int :=
  let t := rdN b most at_ bad
  if t.2.2 ≠ 0 then ([], t.2.1, t.2.2) else
  if (b.length : Int) - t.2.1 < t.1 then ([], t.2.1, 10) else ((b.drop t.2.1).take t.1.toNat, t.2.1 + t.1.toNat, 0)
def doneE (b : List Int) (at_ : Nat) (bad : Int) : Int := if bad = 0 ∧ at_ < b.length then 13 else bad
theorem takeV_len {b : List Int} {n k : Nat} (hb : Byt b) (h : takeV b = (n, k, 0)) : k ≤ b.length := (takeV_canon hb h).2.2
theorem rdN_at {b : List Int} {most : Int} {at_ : Nat} {bad : Int} (hb : Byt b) (h : at_ ≤ b.length) : (rdN b most at_ bad).2.1 ≤ b.length := by
  unfold rdN
  split
  · exact h
  simp only []
  split
  · exact h
  next h0 =>
  have h0 : (takeV (b.drop at_)).2.2 = 0 := by simpa using h0
  split
  · have := takeV_len (b := b.drop at_) (n := (takeV (b.drop at_)).1) (k := (takeV (b.drop at_)).2.1) (hb.drop _) (by rw [← h0])
    simp at this
    show at_ + _ ≤ _; omega
  · exact h
theorem backV_turn (n : Int) : backV (turnV n) = n := by
  unfold backV turnV
  split
  · rw [if_pos (by omega)]; omega
  · rw [if_neg (by omega)]; omega
theorem rdN_put {b : List Int} {most : Int} {at_ : Nat} {n : Nat} {t : List Int} (hb : b.drop at_ = putV n ++ t) (hn : (n : Int) ≤ most) (h2 : n ≤ 4611686018427387904) : rdN b most at_ 0 = ((n : Int), at_ + (putV n).length, 0) := by
  unfold rdN
  rw [if_neg (by simp), hb, takeV_put n t (by omega)]
  simp only []
  rw [if_neg (by simp), if_pos ⟨hn, h2⟩]

/-! ### Lists of fields -/
/-- Where a reader is, and what was wrong first. -/
abbrev Rs := Nat × Int
def rdMany {α : Type} (f : Rs → α × Rs) : Nat → Rs → List α × Rs
  | 0, s => ([], s)
  | k + 1, s => ((f s).1 :: (rdMany f k (f s).2).1, (rdMany f k (f s).2).2)
theorem rdMany_len {α : Type} (f : Rs → α × Rs) : ∀ (k : Nat) (s : Rs), (rdMany f k s).1.length = k
  | 0, _ => rfl
  | k + 1, s => by unfold rdMany; simp [rdMany_len f k]
theorem drop_app {α : Type} {c x t : List α} {a : Nat} (h : c.drop a = x ++ t) : c.drop (a + x.length) = t := by rw [← List.drop_drop, h, List.drop_left]
theorem rdMany_put {α : Type} (c : List Int) (f : Rs → α × Rs) (enc : α → List Int) (ok : α → Prop) (hf : ∀ (x : α) (at_ : Nat) (t : List Int), ok x → c.drop at_ = enc x ++ t → f (at_, 0) = (x, at_ + (enc x).length, 0)) :
    ∀ (xs : List α) (at_ : Nat) (t : List Int), (∀ x ∈ xs, ok x) → c.drop at_ = xs.flatMap enc ++ t → rdMany f xs.length (at_, 0) = (xs, at_ + (xs.flatMap enc).length, 0)
  | [], at_, t, _, _ => by simp [rdMany]
  | x :: xs, at_, t, hok, h => by
    rw [List.flatMap_cons, List.append_assoc] at h
    have h1 := hf x at_ _ (hok x (by simp)) h
    have h2 : c.drop (at_ + (enc x).length) = xs.flatMap enc ++ t := by rw [← List.drop_drop, h, List.drop_left]
    have ih := rdMany_put c f enc ok hf xs _ t (fun y hy => hok y (by simp [hy])) h2
    show ((f (at_, 0)).1 :: (rdMany f xs.length (f (at_, 0)).2).1, (rdMany f xs.length (f (at_, 0)).2).2) = _
    rw [h1, ih, List.flatMap_cons, List.length_append, Nat.add_assoc]
theorem rdN_step {c : List Int} {most : Int} {at_ : Nat} {n : Int} {t : List Int} (hb : c.drop at_ = putV n.toNat ++ t) (h0 : 0 ≤ n) (hn : n ≤ most) (h2 : n ≤ 4611686018427387904) :
    rdN c most at_ 0 = (n, at_ + (putV n.toNat).length, 0) ∧ c.drop (at_ + (putV n.toNat).length) = t := by
  have h := rdN_put (most := most) hb (by omega) (by omega)
  rw [h]
  refine ⟨by congr 1; omega, ?_⟩
  rw [← List.drop_drop, hb, List.drop_left]
theorem rdMany_snoc {α : Type} (f : Rs → α × Rs) : ∀ (k : Nat) (s : Nat × Int), rdMany f (k + 1) s = ((rdMany f k s).1 ++ [(f (rdMany f k s).2).1], (f (rdMany f k s).2).2)
  | 0, s => rfl
  | k + 1, s => by
    have ih := rdMany_snoc f k (f s).2
    show ((f s).1 :: (rdMany f (k + 1) (f s).2).1, (rdMany f (k + 1) (f s).2).2) = _
    rw [ih]; rfl
theorem rdN_most (c : List Int) (most : Int) (s : Nat) (e : Int) (h : 0 ≤ most) : ∃ K : Nat, (rdN c most s e).1 = (K : Int) ∧ (K : Int) ≤ most := by
  unfold rdN
  split
  · exact ⟨0, rfl, by simpa using h⟩
  simp only []
  split
  · exact ⟨0, rfl, by simpa using h⟩
  split
  · next hh => exact ⟨_, rfl, hh.1⟩
  · exact ⟨0, rfl, by simpa using h⟩

theorem wholeF_sub (kd : Int) {b : List Int} (hb : Byt b) : Byt (wholeF kd b).1 ∧ (wholeF kd b).1.length ≤ b.length := by
  have nl : Byt ([] : List Int) ∧ ([] : List Int).length ≤ b.length := ⟨fun x hx => (nomatch hx), Nat.zero_le _⟩
  have ht : Byt (takeF b).2.1 ∧ (takeF b).2.1.length ≤ b.length := by
    unfold takeF
    split
    · exact nl
    · next m b1 =>
      split
      · exact nl
      · split
        · exact nl
        · next kd b2 =>
          simp only []
          split
          · exact nl
          split
          · exact nl
          split
          · exact nl
          split
          · exact nl
          · exact ⟨(hb.take _).drop _, by simp only [List.length_drop, List.length_take]; omega⟩
  unfold wholeF
  simp only []
  split
  · exact nl
  split
  · exact nl
  split
  · exact nl
  · exact ht
end Go.Proofs.Ytbdkhgenkekioaa.Wi
