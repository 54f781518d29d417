/- Shares: how parties lie, and which one comes first: walked. -/
import Derived.Test.YtjejpaladjfegaaApP
import Derived.Test.YtjejpaladjfegaaNeC
import Derived.Test.YtjejpaladjfegaaSwk
namespace Go.Proofs.Ytjejpaladjfegaa.Ap
open Go.RowKit Go.V Go.Proofs Go.Sort Go.Shelf
open Go.Proofs.Ytjejpaladjfegaa.Ne (cmpI cmpI_any or_any box_alloc box_new box3_cells)

def penc (r : Pty) : List Value := [.int .i64 r.place, .int .i64 r.share, .int .u64 r.rest]
def pcod : Cod Pty := ⟨3, penc, fun _ => rfl, by simp [penc, Value.oneCell']⟩
abbrev pval (r : Pty) : Value := .agg #[.int .i64 r.place, .int .i64 r.share, .int .u64 r.rest]
def cmpP (x y : Pty) : Int := if cmpI y.rest x.rest = 0 then cmpI x.place y.place else cmpI y.rest x.rest

set_option maxHeartbeats 400000 in
theorem cmpU_any (x y : Int) (w : World) :
    Calls Try.prog 126 #[.int .u64 x, .int .u64 y] w fun e w' => e = .returned (.int .i64 (cmpI x y)) ∧ w = w' := by
  by_cases h1 : x < y
  · go_enter Try.func126, Try.ntmps126
    go_wp2
    go_ret
    exact ⟨ret_int (by unfold cmpI; (repeat' split) <;> omega), rfl⟩
  · by_cases h2 : y < x
    all_goals
      go_enter Try.func126, Try.ntmps126
      go_wp2
      go_ret
      exact ⟨ret_int (by unfold cmpI; (repeat' split) <;> omega), rfl⟩

set_option maxHeartbeats 1000000 in
set_option maxRecDepth 100000 in
theorem first_any (x y : Pty) (w : World) :
    Calls Try.prog 124 #[pval x, pval y] w fun e w' => e = .returned (.int .i64 (cmpP x y)) ∧ ∃ q os, w' = grow (w.drewN q) os := by
  obtain ⟨c1, hc1⟩ : ∃ c, cmpI y.rest x.rest = c := ⟨_, rfl⟩
  obtain ⟨c2, hc2⟩ : ∃ c, cmpI x.place y.place = c := ⟨_, rfl⟩
  obtain ⟨r, hr⟩ : ∃ r, (if c1 = 0 then c2 else c1) = r := ⟨_, rfl⟩
  have HA : Hid (r = cmpP x y) := by
    show _ = _
    rw [← hr, ← hc1, ← hc2]; rfl
  have HC : Hid (cmpI y.rest x.rest = c1 ∧ cmpI x.place y.place = c2 ∧ (if c1 = 0 then c2 else c1) = r) := ⟨hc1, hc2, hr⟩
  clear hc1 hc2 hr
  have mixed : Try.prog.follows .mixedOrders = true := by kernel_rfl
  unfold pval
  go_enter Try.func124, Try.ntmps124
  go_wp2_with fail
  have HX0 := Lib.hid (box_alloc (o := .cells #[.int .i64 y.place, .int .i64 y.share, .int .u64 y.rest] 202) (box_new w (.cells #[.int .i64 x.place, .int .i64 x.share, .int .u64 x.rest] 202)))
  have HY0 := Lib.hid (box_new (w.alloc (.cells #[.int .i64 x.place, .int .i64 x.share, .int .u64 x.rest] 202)) (.cells #[.int .i64 y.place, .int .i64 y.share, .int .u64 y.rest] 202))
  have hz : w.heap.size + 1 < ((w.alloc (.cells #[.int .i64 x.place, .int .i64 x.share, .int .u64 x.rest] 202)).alloc (.cells #[.int .i64 y.place, .int .i64 y.share, .int .u64 y.rest] 202)).heap.size := by simp
  obtain ⟨W, hW⟩ : ∃ W, (w.alloc (.cells #[.int .i64 x.place, .int .i64 x.share, .int .u64 x.rest] 202)).alloc (.cells #[.int .i64 y.place, .int .i64 y.share, .int .u64 y.rest] 202) = W := ⟨_, rfl⟩
  rw [World.size_alloc] at HY0
  rw [hW] at HX0 HY0 hz ⊢
  have HW : Hid (∀ o, (W.drew).alloc o = grow (w.drewN 1) #[.cells #[.int .i64 x.place, .int .i64 x.share, .int .u64 x.rest] 202, .cells #[.int .i64 y.place, .int .i64 y.share, .int .u64 y.rest] 202, o]) := by
    intro o
    rw [← hW, alloc_eq_grow, alloc_eq_grow, alloc_eq_grow, grow_grow]
    show grow (grow (w.drewN 1) _) _ = _
    rw [grow_grow]; rfl
  clear hW
  obtain ⟨u0, u1, u2, -, -, -⟩ := box3_cells HX0.out
  obtain ⟨v0, v1, v2, -, -, -⟩ := box3_cells HY0.out
  have hd : ∀ a, W.drew.cell? a = W.cell? a := fun a => rfl
  go_still_tail 10, (by kernel_rfl)
  still_call ((cmpU_any _ _ _).mono fun _ _ hh => ⟨hh.1, hh.2.symm⟩)
  repeat still_step
  still_call ((cmpI_any _ _ _).mono fun _ _ hh => ⟨hh.1, hh.2.symm⟩)
  repeat still_step
  refine wpStill_nil ?_
  change wpList _ _ _ _ _ W.drew
  rw [HC.out.1, HC.out.2.1]
  clear hd u0 u1 u2 v0 v1 v2
  generalize W.drew = w2 at HW ⊢
  go_wp2_with (go_at_call 125; refine (or_any c1 c2 _ _ (by simp [go_sem]) (by simp [go_sem])).mono ?_; rintro e w1 ⟨rfl, rfl⟩; rw [HC.out.2.2])
  go_ret
  exact ⟨ret_int HA.out, 1, _, HW.out _⟩

/-! ### times -/
def tmsQ (a b c : Int) : Int := a * b / c
def tmsR (a b c : Int) : Int := a * b % c
theorem tms_in {A b c : Int} (hA : 0 ≤ A) (hb : 0 ≤ b) (hbc : b ≤ c) (hc : 0 < c) : 0 ≤ tmsQ A b c ∧ tmsQ A b c ≤ A ∧ 0 ≤ tmsR A b c ∧ tmsR A b c < c := by
  have h0 : 0 ≤ A * b := Int.mul_nonneg hA hb
  have h1 : A * b ≤ A * c := Int.mul_le_mul_of_nonneg_left hbc hA
  refine ⟨Int.ediv_nonneg h0 (by omega), ?_, Int.emod_nonneg _ (by omega), Int.emod_lt_of_pos _ hc⟩
  exact Int.ediv_le_of_le_mul hc h1
theorem tms_step {a b c : Int} (k : Nat) (ha : 0 ≤ a) (hc : 0 < c) : tmsQ (a / 2 ^ k) b c = 2 * tmsQ (a / 2 ^ (k + 1)) b c + (2 * tmsR (a / 2 ^ (k + 1)) b c + a / 2 ^ k % 2 * b) / c ∧ tmsR (a / 2 ^ k) b c = (2 * tmsR (a / 2 ^ (k + 1)) b c + a / 2 ^ k % 2 * b) % c := by
  have h := digit 2 (a / 2 ^ (k + 1)) (a / 2 ^ k % 2) b c hc
  rw [← half a k ha] at h
  exact h
theorem tms_step4 {a b c : Int} (k : Nat) (_ha : 0 ≤ a) (hc : 0 < c) : tmsQ (a / 4096 ^ k) b c = 4096 * tmsQ (a / 4096 ^ (k + 1)) b c + (4096 * tmsR (a / 4096 ^ (k + 1)) b c + a / 4096 ^ k % 4096 * b) / c ∧ tmsR (a / 4096 ^ k) b c = (4096 * tmsR (a / 4096 ^ (k + 1)) b c + a / 4096 ^ k % 4096 * b) % c := by
  have h := digit 4096 (a / 4096 ^ (k + 1)) (a / 4096 ^ k % 4096) b c hc
  have e : a / 4096 ^ k = 4096 * (a / 4096 ^ (k + 1)) + a / 4096 ^ k % 4096 := by
    have : (4096 : Int) ^ (k + 1) = 4096 ^ k * 4096 := by rw [Int.pow_succ]
    rw [this, ← Int.ediv_ediv_of_nonneg (Int.pow_nonneg (by omega))]
    omega
  rw [← e] at h
  exact h
end Go.Proofs.Ytjejpaladjfegaa.Ap
