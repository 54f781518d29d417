/- Stops: how they lie; which may be. -/
import Derived.Test.YtknbpnkonhniiaaBx
namespace Go.Proofs.Ytknbpnkonhniiaa.Ne
open Go.RowKit Go.V Go.Proofs

structure Stp where
  x : Int
  y : Int
deriving DecidableEq, Inhabited
def Stp.enc (r : Stp) : List Value := [.int .i64 r.x, .int .i64 r.y]
def Stp.cod : Cod Stp := ⟨2, Stp.enc, fun _ => rfl, by simp [Stp.enc, Value.oneCell']⟩
abbrev Stp.val (r : Stp) : Value := .agg #[.int .i64 r.x, .int .i64 r.y]
def Stp.ok (r : Stp) : Prop := (Lit.int .i64 r.x).wf = true ∧ (Lit.int .i64 r.y).wf = true
theorem stp_at {w : World} {a : Option Addr} {n cap : Nat} {l : List Stp} (h : Sl Stp.cod w a n cap l) {i : Nat} (hi : i < n) :
   ∃ b off r, a = some ⟨b, off, none⟩ ∧ b < w.heap.size ∧ l[i]? = some r ∧ w.cell? ⟨b, off + i * 2, none⟩ = some (.int .i64 r.x) ∧ w.cell? ⟨b, off + i * 2 + 1, none⟩ = some (.int .i64 r.y) := by
  obtain ⟨b, off, rfl, hb, r, hr, hc⟩ := h.some hi
  exact ⟨b, off, r, rfl, hb, hr, hc 0 _ rfl, hc 1 _ rfl⟩
def stpB (s : Stp) : Bool := decide (0 ≤ s.x ∧ s.x < 67108864 ∧ 0 ≤ s.y ∧ s.y < 67108864)
def mayB (x y : Int) : Bool := decide (0 ≤ x ∧ x < 67108864 ∧ 0 ≤ y ∧ y < 67108864)

set_option maxHeartbeats 400000 in
theorem may_any (x y : Int) (w : World) :
    Calls Try.prog 25 #[.int .i64 x, .int .i64 y] w fun e w' => e = .returned (.bool (mayB x y)) ∧ w = w' := by
  by_cases h1 : 0 ≤ x
  · by_cases h2 : x < 67108864
    · by_cases h3 : 0 ≤ y
      all_goals
        go_enter Try.func25, Try.ntmps25
        go_wp2
        go_ret
        exact ⟨ret_bool (by unfold mayB; rw [Bool.eq_iff_iff]; simp [*] <;> omega), rfl⟩
    · go_enter Try.func25, Try.ntmps25
      go_wp2
      go_ret
      exact ⟨ret_bool (by unfold mayB; rw [Bool.eq_iff_iff]; simp [*] <;> omega), rfl⟩
  · go_enter Try.func25, Try.ntmps25
    go_wp2
    go_ret
    exact ⟨ret_bool (by unfold mayB; rw [Bool.eq_iff_iff]; simp <;> omega), rfl⟩
set_option maxHeartbeats 400000 in
theorem rmay_any (x y : Int) (w : World) :
    Calls Try.prog 23 #[.int .i64 x, .int .i64 y] w fun e w' => e = .returned (.bool (mayB x y)) ∧ w = w' := by
  by_cases h1 : 0 ≤ x
  · by_cases h2 : x < 67108864
    · by_cases h3 : 0 ≤ y
      all_goals
        go_enter Try.func23, Try.ntmps23
        go_wp2
        go_ret
        exact ⟨ret_bool (by unfold mayB; rw [Bool.eq_iff_iff]; simp [*] <;> omega), rfl⟩
    · go_enter Try.func23, Try.ntmps23
      go_wp2
      go_ret
      exact ⟨ret_bool (by unfold mayB; rw [Bool.eq_iff_iff]; simp [*] <;> omega), rfl⟩
  · go_enter Try.func23, Try.ntmps23
    go_wp2
    go_ret
    exact ⟨ret_bool (by unfold mayB; rw [Bool.eq_iff_iff]; simp <;> omega), rfl⟩
end Go.Proofs.Ytknbpnkonhniiaa.Ne
