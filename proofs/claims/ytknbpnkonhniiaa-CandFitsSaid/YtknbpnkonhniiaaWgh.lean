/- A weighing; which there may be: walked. -/
import Derived.Test.YtknbpnkonhniiaaNeA
namespace Go.Proofs.Ytknbpnkonhniiaa.Ne
open Go.RowKit Go.V Go.Proofs

theorem box4w_cells {w : World} {g : Nat} {e : TypeId} {u0 u1 u2 u3 : Value} (h : w.heap[g]? = some (.cells #[u0, u1, u2, u3] e (0, 0))) : w.cell? ⟨g, 0, none⟩ = some u0 ∧ w.cell? ⟨g, 1, none⟩ = some u1 ∧ w.cell? ⟨g, 2, none⟩ = some u2 ∧ w.cell? ⟨g, 3, none⟩ = some u3 :=
  ⟨(box_cell h 0).1, (box_cell h 1).1, (box_cell h 2).1, (box_cell h 3).1⟩
structure Wgh where
  reach : Int
  most : Int
  factor : Int
  change : Int
abbrev Wgh.val (x : Wgh) : Value := .agg #[.int .i64 x.reach, .int .i64 x.most, .int .i64 x.factor, .int .i64 x.change]
abbrev Wgh.box (x : Wgh) : Obj := .cells #[.int .i64 x.reach, .int .i64 x.most, .int .i64 x.factor, .int .i64 x.change] 27
def mayW (x : Wgh) : Bool := wB x.reach 0 1048576 && wB x.most 1 16 && wB x.factor 0 1024 && wB x.change 0 1048576
theorem mayW_in {x : Wgh} (h : mayW x = true) : (0 ≤ x.factor ∧ x.factor ≤ 1024) ∧ 0 ≤ x.change ∧ x.change ≤ 1048576 := by
  unfold mayW at h
  simp only [Bool.and_eq_true] at h
  exact ⟨of_decide_eq_true h.1.2, of_decide_eq_true h.2⟩

set_option maxHeartbeats 400000 in
theorem cwithin_any (n lo hi : Int) (w : World) :
    Calls Try.prog 21 #[.int .i64 n, .int .i64 lo, .int .i64 hi] w fun e w' => e = .returned (.bool (wB n lo hi)) ∧ w = w' := by
  by_cases h1 : lo ≤ n
  all_goals
    go_enter Try.func21, Try.ntmps21
    go_wp2
    go_ret
    exact ⟨ret_bool (by unfold wB; rw [Bool.eq_iff_iff]; simp [*] <;> omega), rfl⟩
set_option maxHeartbeats 400000 in
theorem rfrom21_any (n lo hi : Int) (w : World) :
    Calls Try.prog 22 #[.int .i64 n, .int .i64 lo, .int .i64 hi] w fun e w' => e = .returned (.bool (wB n lo hi)) ∧ w = w' := by
  by_cases h1 : lo ≤ n
  all_goals
    go_enter Try.func22, Try.ntmps22
    go_wp2
    go_ret
    exact ⟨ret_bool (by unfold wB; rw [Bool.eq_iff_iff]; simp [*] <;> omega), rfl⟩

set_option maxHeartbeats 2000000 in
set_option maxRecDepth 100000 in
theorem cmay_any (x : Wgh) (w : World) : Calls Try.prog 10 #[x.val] w fun e w' => e = .returned (.bool (mayW x)) ∧ Below w.heap.size w w' := by
  obtain ⟨xr, xm, xf, xc⟩ := x
  have HX := Lib.hid (box_new w (Wgh.mk xr xm xf xc).box)
  obtain ⟨c0, c1, c2, c3⟩ := box4w_cells HX.out
  have HB : Hid (Below w.heap.size w (w.alloc (Wgh.mk xr xm xf xc).box)) := (Below.refl _ _).alloc (Nat.le_refl _) _
  obtain ⟨b1, e1⟩ : ∃ b, wB xr 0 1048576 = b := ⟨_, rfl⟩
  obtain ⟨b2, e2⟩ : ∃ b, wB xm 1 16 = b := ⟨_, rfl⟩
  obtain ⟨b3, e3⟩ : ∃ b, wB xf 0 1024 = b := ⟨_, rfl⟩
  obtain ⟨b4, e4⟩ : ∃ b, wB xc 0 1048576 = b := ⟨_, rfl⟩
  have hm : mayW ⟨xr, xm, xf, xc⟩ = (b1 && b2 && b3 && b4) := by unfold mayW; simp only []; rw [e1, e2, e3, e4]
  have HM := Lib.hid hm
  have E1 := Lib.hid e1
  have E2 := Lib.hid e2
  have E3 := Lib.hid e3
  have E4 := Lib.hid e4
  clear e1 e2 e3 e4 hm
  cases b1 <;> cases b2 <;> cases b3 <;> cases b4
  all_goals
    go_enter Try.func10, Try.ntmps10
    go_wp2_with (go_at_call 21; refine (cwithin_any _ _ _ _).mono ?_; rintro e w1 ⟨rfl, rfl⟩; first | rw [E1.out] | rw [E2.out] | rw [E3.out] | rw [E4.out])
    go_ret
    exact ⟨by rw [HM.out]; rfl, HB.out⟩
set_option maxHeartbeats 2000000 in
set_option maxRecDepth 100000 in
theorem rcmay_any (x : Wgh) (w : World) : Calls Try.prog 11 #[x.val] w fun e w' => e = .returned (.bool (mayW x)) ∧ Below w.heap.size w w' := by
  obtain ⟨xr, xm, xf, xc⟩ := x
  have HX := Lib.hid (box_new w (Wgh.mk xr xm xf xc).box)
  obtain ⟨c0, c1, c2, c3⟩ := box4w_cells HX.out
  have HB : Hid (Below w.heap.size w (w.alloc (Wgh.mk xr xm xf xc).box)) := (Below.refl _ _).alloc (Nat.le_refl _) _
  obtain ⟨b1, e1⟩ : ∃ b, wB xr 0 1048576 = b := ⟨_, rfl⟩
  obtain ⟨b2, e2⟩ : ∃ b, wB xm 1 16 = b := ⟨_, rfl⟩
  obtain ⟨b3, e3⟩ : ∃ b, wB xf 0 1024 = b := ⟨_, rfl⟩
  obtain ⟨b4, e4⟩ : ∃ b, wB xc 0 1048576 = b := ⟨_, rfl⟩
  have hm : mayW ⟨xr, xm, xf, xc⟩ = (b1 && b2 && b3 && b4) := by unfold mayW; simp only []; rw [e1, e2, e3, e4]
  have HM := Lib.hid hm
  have E1 := Lib.hid e1
  have E2 := Lib.hid e2
  have E3 := Lib.hid e3
  have E4 := Lib.hid e4
  clear e1 e2 e3 e4 hm
  cases b1 <;> cases b2 <;> cases b3 <;> cases b4
  all_goals
    go_enter Try.func11, Try.ntmps11
    go_wp2_with (go_at_call 22; refine (rfrom21_any _ _ _ _).mono ?_; rintro e w1 ⟨rfl, rfl⟩; first | rw [E1.out] | rw [E2.out] | rw [E3.out] | rw [E4.out])
    go_ret
    exact ⟨by rw [HM.out]; rfl, HB.out⟩

end Go.Proofs.Ytknbpnkonhniiaa.Ne
