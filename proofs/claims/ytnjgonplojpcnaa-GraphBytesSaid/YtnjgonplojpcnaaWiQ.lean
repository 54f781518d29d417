/- Frames and fields: plain laws. -/
import Derived.Test.YtnjgonplojpcnaaWiP
namespace Go.Proofs.Ytnjgonplojpcnaa.Wi

def Byt (b : List Int) : Prop := ∀ x ∈ b, 0 ≤ x ∧ x < 256
theorem Byt.drop {b : List Int} (h : Byt b) (k : Nat) : Byt (b.drop k) := fun x hx => h x (List.mem_of_mem_drop hx)
theorem Byt.take {b : List Int} (h : Byt b) (k : Nat) : Byt (b.take k) := fun x hx => h x (List.mem_of_mem_take hx)
theorem Byt.app {a b : List Int} (h : Byt a) (g : Byt b) : Byt (a ++ b) := fun x hx => by
  rcases List.mem_append.1 hx with e | e
  · exact h x e
  · exact g x e
theorem takeGo_canon : ∀ (l : List Int) (i a n k : Nat), Byt l → takeGo l i a = (n, k, 0) → ∃ m, n = a + m * 128 ^ i ∧ l.take (putV m).length = putV m ∧ k = i + (putV m).length ∧ (0 < i → 0 < m) ∧ (putV m).length ≤ l.length
  | [], i, a, n, k, _, h => by simp [takeGo] at h
  | c :: l, i, a, n, k, hb, h => by
    have hc := hb c (by simp)
    unfold takeGo at h
    split at h
    · simp at h
    split at h
    · next h1 h2 =>
      obtain ⟨m, e1, e2, e3, e4, e5⟩ := takeGo_canon l (i + 1) _ n k (fun x hx => hb x (by simp [hx])) h
      have hm := e4 (by omega)
      have hbig : ¬ (c.toNat % 128 + 128 * m) < 128 := by omega
      have p : putV (c.toNat % 128 + 128 * m) = c :: putV m := by
        rw [putV_big hbig]
        congr 1
        · omega
        · congr 1; omega
      refine ⟨c.toNat % 128 + 128 * m, ?_, ?_, ?_, fun _ => by omega, ?_⟩
      · rw [e1, Nat.pow_succ, Nat.add_mul, Nat.add_assoc]
        congr 2
        rw [Nat.mul_comm (128 ^ i), ← Nat.mul_assoc, Nat.mul_comm m]
      · rw [p]; simp [e2]
      · rw [p, e3]; simp; omega
      · rw [p]; simp; exact e5
    · next h1 h2 =>
      split at h
      · simp at h
      · next h3 =>
        have p : putV c.toNat = [c] := by
          rw [putV_small (by omega)]; congr 1; omega
        have e : (a + c.toNat % 128 * 128 ^ i, i + 1, (0 : Int)) = (n, k, 0) := h
        simp only [Prod.mk.injEq] at e
        refine ⟨c.toNat, ?_, by rw [p]; simp, by rw [p]; simp; omega, fun hi => by omega, by rw [p]; simp⟩
        have : c.toNat % 128 = c.toNat := by omega
        rw [this] at e; exact e.1.symm
theorem takeV_canon {b : List Int} {n k : Nat} (hb : Byt b) (h : takeV b = (n, k, 0)) : b.take k = putV n ∧ k = (putV n).length ∧ k ≤ b.length := by
  obtain ⟨m, e1, e2, e3, -, e5⟩ := takeGo_canon b 0 0 n k hb h
  have : n = m := by rw [e1]; simp
  subst this
  have : k = (putV n).length := by rw [e3]; simp
  rw [this]
  exact ⟨e2, rfl, e5⟩
theorem takeGo_err : ∀ (l : List Int) (i a n k : Nat) (e : Int), takeGo l i a = (n, k, e) → e = 0 ∨ (n = 0 ∧ k = 0 ∧ (e = 10 ∨ e = 11))
  | [], i, a, n, k, e, h => by simp [takeGo] at h; omega
  | c :: l, i, a, n, k, e, h => by
    unfold takeGo at h
    split at h
    · simp at h; omega
    split at h
    · exact takeGo_err l _ _ n k e h
    split at h
    · simp at h; omega
    · simp at h; omega

/-! ### Frames -/
def frameH (kind : Int) (c : List Int) : List Int := 199 :: kind :: putV c.length ++ c
def frameE (kind : Int) (c : List Int) : List Int := frameH kind c ++ sumB (crcE (frameH kind c))
/-- The frame that bytes begin with: its kind, its content, how many bytes, the error. -/
def takeF (b : List Int) : Int × List Int × Nat × Int :=
  match b with
  | [] => (0, [], 0, 10)
  | m :: b1 =>
    if m ≠ 199 then (0, [], 0, 11) else
    match b1 with
    | [] => (0, [], 0, 10)
    | kd :: b2 =>
      let t := takeV b2
      if t.2.2 ≠ 0 then (0, [], 0, t.2.2) else
      if 1048576 < t.1 then (0, [], 0, 3) else
      if b.length < 2 + t.2.1 + t.1 + 4 then (0, [], 0, 10) else
      if (b.drop (2 + t.2.1 + t.1)).take 4 ≠ sumB (crcE (b.take (2 + t.2.1 + t.1))) then (0, [], 0, 12) else
      (kd, (b.take (2 + t.2.1 + t.1)).drop (2 + t.2.1), 2 + t.2.1 + t.1 + 4, 0)
def wholeF (kind : Int) (b : List Int) : List Int × Int :=
  let t := takeF b
  if t.2.2.2 ≠ 0 then ([], t.2.2.2) else if t.1 ≠ kind then ([], 11) else if t.2.2.1 < b.length then ([], 13) else (t.2.1, 0)
/-- The whole frame put again is the bytes just if the sums are the same. -/
theorem frame_same {kd : Int} {b2 : List Int} {n k : Nat} (hb : Byt b2) (ht : takeV b2 = (n, k, 0)) (hl : 2 + k + n + 4 ≤ b2.length + 2) :
    frameE kd (((199 :: kd :: b2).take (2 + k + n)).drop (2 + k)) = (199 :: kd :: b2).take (2 + k + n + 4) ↔ ((199 :: kd :: b2).drop (2 + k + n)).take 4 = sumB (crcE ((199 :: kd :: b2).take (2 + k + n))) := by
  obtain ⟨h1, h2, h3⟩ := takeV_canon hb ht
  have e1 : (((199 :: kd :: b2).take (2 + k + n)).drop (2 + k)) = (b2.drop k).take n := by
    rw [show 2 + k + n = (k + n) + 2 by omega, show 2 + k = k + 2 by omega, List.take_succ_cons, List.take_succ_cons, List.drop_succ_cons, List.drop_succ_cons, List.drop_take]
    congr 1; omega
  have e2 : ((b2.drop k).take n).length = n := by simp; omega
  have e3 : frameH kd ((b2.drop k).take n) = (199 :: kd :: b2).take (2 + k + n) := by
    unfold frameH
    rw [e2, ← h1, show 2 + k + n = (k + n) + 2 by omega, List.take_succ_cons, List.take_succ_cons, List.take_add]
    simp
  have e4 : (199 :: kd :: b2).take (2 + k + n + 4) = (199 :: kd :: b2).take (2 + k + n) ++ ((199 :: kd :: b2).drop (2 + k + n)).take 4 := List.take_add
  unfold frameE
  rw [e1, e3, e4, List.append_right_inj]
  exact eq_comm
/-- What is put is taken whole. -/
theorem whole_put (kind : Int) (c : List Int) (h : c.length ≤ 1048576) : wholeF kind (frameE kind c) = (c, 0) := by
  have e0 : frameE kind c = 199 :: kind :: (putV c.length ++ (c ++ sumB (crcE (frameH kind c)))) := by unfold frameE frameH; simp
  have ht := takeV_put c.length (c ++ sumB (crcE (frameH kind c))) (by omega)
  have hs : (sumB (crcE (frameH kind c))).length = 4 := rfl
  have hl : (frameE kind c).length = 2 + (putV c.length).length + c.length + 4 := by rw [e0]; simp [hs]; omega
  have hh : (frameH kind c).length = 2 + (putV c.length).length + c.length := by unfold frameH; simp; omega
  have e1 : (frameE kind c).take (2 + (putV c.length).length + c.length) = frameH kind c := by
    unfold frameE; rw [← hh, List.take_left]
  have e2 : (frameE kind c).drop (2 + (putV c.length).length + c.length) = sumB (crcE (frameH kind c)) := by
    unfold frameE; rw [← hh, List.drop_left]
  have e3 : (frameH kind c).drop (2 + (putV c.length).length) = c := by
    unfold frameH
    have : 2 + (putV c.length).length = (199 :: kind :: putV c.length).length := by simp; omega
    rw [this, List.drop_left]
  have key : takeF (frameE kind c) = (kind, c, 2 + (putV c.length).length + c.length + 4, 0) := by
    unfold takeF
    rw [e0]
    simp only []
    rw [if_neg (by simp), ht]
    simp only []
    rw [if_neg (by simp), if_neg (by omega), ← e0, hl, if_neg (by omega), e1, e2, if_neg (by rw [List.take_of_length_le (by rw [hs]; omega)]; simp), e3]
  unfold wholeF
  rw [key]
  simp only []
  rw [if_neg (by simp), if_neg (by simp), if_neg (by rw [hl]; omega)]

/-! ### Fields -/
/-- A number that is read: it, how far, what was wrong first. -/
def rdN (b : List Int) (most : Int) (at_ : Nat) (bad : Int) : Int × Nat × Int :=
  if bad ≠ 0 then (0, at_, bad) else
  let t := takeV (b.drop at_)
  if t.2.2 ≠ 0 then (0, at_, t.2.2) else
  if (t.1 : Int) ≤ most ∧ t.1 ≤ 4611686018427387904 then (t.1, at_ + t.2.1, 0) else (0, at_, 3)
def turnV (n : Int) : Nat := if 0 ≤ n then 2 * n.toNat else 2 * (-(n + 1)).toNat + 1
def backV (n : Nat) : Int := if n % 2 = 0 then n / 2 else -(n / 2 : Nat) - 1
def rdS (b : List Int) (most : Int) (at_ : Nat) (bad : Int) : Int × Nat × Int :=
  if bad ≠ 0 then (0, at_, bad) else
  let t := takeV (b.drop at_)
  if t.2.2 ≠ 0 then (0, at_, t.2.2) else
  if (t.1 / 2 + t.1 % 2 : Nat) ≤ most ∧ t.1 / 2 + t.1 % 2 ≤ 4611686018427387904 then (backV t.1, at_ + t.2.1, 0) else (0, at_, 3)
def rdB (b : List Int) (at_ : Nat) (bad : Int) : Int × Nat × Int :=
  if bad ≠ 0 then (0, at_, bad) else if b.length ≤ at_ then (0, at_, 10) else (b.getD at_ 0, at_ + 1, 0)
def rdX (b : List Int) (most : Int) (at_ : Nat) (bad : Int) : List Int × Nat × Int :=
  let t := rdN b most at_ bad
  if t.2.2 ≠ 0 then ([], t.2.1, t.2.2) else
  if (b.length : Int) - t.2.1 < t.1 then ([], t.2.1, 10) else ((b.drop t.2.1).take t.1.toNat, t.2.1 + t.1.toNat, 0)
def doneE (b : List Int) (at_ : Nat) (bad : Int) : Int := if bad = 0 ∧ at_ < b.length then 13 else bad
theorem takeV_len {b : List Int} {n k : Nat} (hb : Byt b) (h : takeV b = (n, k, 0)) : k ≤ b.length := (takeV_canon hb h).2.2
theorem rdN_at {b : List Int} {most : Int} {at_ : Nat} {bad : Int} (hb : Byt b) (h : at_ ≤ b.length) : (rdN b most at_ bad).2.1 ≤ b.length := by
  unfold rdN
  split
  · exact h
  simp only []
  split
  · exact h
  next h0 =>
  have h0 : (takeV (b.drop at_)).2.2 = 0 := by simpa using h0
  split
  · have := takeV_len (b := b.drop at_) (n := (takeV (b.drop at_)).1) (k := (takeV (b.drop at_)).2.1) (hb.drop _) (by rw [← h0])
    simp at this
    show at_ + _ ≤ _; omega
  · exact h
theorem backV_turn (n : Int) : backV (turnV n) = n := by
  unfold backV turnV
  split
  · rw [if_pos (by omega)]; omega
  · rw [if_neg (by omega)]; omega
theorem rdN_put {b : List Int} {most : Int} {at_ : Nat} {n : Nat} {t : List Int} (hb : b.drop at_ = putV n ++ t) (hn : (n : Int) ≤ most) (h2 : n ≤ 4611686018427387904) : rdN b most at_ 0 = ((n : Int), at_ + (putV n).length, 0) := by
  unfold rdN
  rw [if_neg (by simp), hb, takeV_put n t (by omega)]
  simp only []
  rw [if_neg (by simp), if_pos ⟨hn, h2⟩]
end Go.Proofs.Ytnjgonplojpcnaa.Wi
