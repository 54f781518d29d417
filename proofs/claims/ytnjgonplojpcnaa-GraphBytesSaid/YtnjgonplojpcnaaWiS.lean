/- Fields: the program's reader, walked. -/
import Derived.Test.YtnjgonplojpcnaaWiN
namespace Go.Proofs.Ytnjgonplojpcnaa.Wi
open Go.RowKit Go.V Go.Proofs Go.Sort
open Go.Proofs.Ytnjgonplojpcnaa.Ne (box_alloc box_new box_cell box_below box_lt below_drewN)

theorem box4_cells {w : World} {g : Nat} {e : TypeId} {u0 u1 u2 u3 : Value} (h : w.heap[g]? = some (.cells #[u0, u1, u2, u3] e (0, 0))) : w.cell? ⟨g, 0, none⟩ = some u0 ∧ w.cell? ⟨g, 1, none⟩ = some u1 ∧ w.cell? ⟨g, 2, none⟩ = some u2 ∧ w.cell? ⟨g, 3, none⟩ = some u3 ∧ w.frozen? ⟨g, 1, none⟩ = false ∧ w.frozen? ⟨g, 2, none⟩ = false :=
  ⟨(box_cell h 0).1, (box_cell h 1).1, (box_cell h 2).1, (box_cell h 3).1, (box_cell h 1).2, (box_cell h 2).2⟩
/-- A reader: its box. -/
def Fb (w : World) (g : Nat) (a : Option Addr) (n cap : Nat) (at_ : Nat) (bad : Int) : Prop := w.heap[g]? = some (.cells #[.slice a n cap, .int .i64 (at_ : Int), .int .i64 bad, .bool true] 130 (0, 0))
theorem fread_any (a : Option Addr) (n cap : Nat) (w : World) : Calls Try.prog 56 #[.slice a n cap] w fun e w' => e = .returned (.pointer (some ⟨w.heap.size, 0, none⟩)) ∧ Fb w' w.heap.size a n cap 0 0 ∧ Below w.heap.size w w' := by
  go_enter Try.func56, Try.ntmps56
  go_wp2
  go_ret
  exact ⟨rfl, box_new w _, (Below.refl _ _).alloc (Nat.le_refl _) _⟩

set_option maxHeartbeats 1000000 in
theorem fok_any (g : Nat) (a : Option Addr) (n cap : Nat) (at_ : Nat) (bad : Int) (w : World) (hb : Fb w g a n cap at_ bad) :
    Calls Try.prog 87 #[.pointer (some ⟨g, 0, none⟩)] w fun e w' => e = .returned (.bool (decide (bad = 0))) ∧ Below w.heap.size w w' := by
  obtain ⟨c0, c1, c2, c3, -, -⟩ := box4_cells hb
  clear hb
  by_cases h0 : bad = 0
  · subst h0
    go_enter Try.func87, Try.ntmps87
    go_wp2_with fail
    first
      | (go_quiet (fail); go_wp2_with fail; go_ret; exact ⟨rfl, below_drewN (Below.refl _ _) _⟩)
      | (go_ret; exact ⟨rfl, Below.refl _ _⟩)
  · have h0' : (bad == 0) = false := by simpa using h0
    have HD : Hid (decide (bad = 0) = false) := decide_eq_false h0
    clear h0
    go_enter Try.func87, Try.ntmps87
    go_wp2_with fail
    first
      | (go_quiet (fail); go_wp2_with fail; go_ret; exact ⟨by rw [HD.out]; rfl, below_drewN (Below.refl _ _) _⟩)
      | (go_ret; exact ⟨by rw [HD.out]; rfl, Below.refl _ _⟩)

set_option maxHeartbeats 1000000 in
theorem fmay_any (g : Nat) (I : Int) (most : Int) (w : World) (hc : w.cell? ⟨g, 0, none⟩ = some (.int .i64 most)) (h0 : 0 ≤ I) :
    Calls Try.prog 80 #[.int .u64 I, .pointer (some ⟨g, 0, none⟩)] w fun e w' => e = .returned (.bool (decide (I ≤ most ∧ I ≤ 4611686018427387904))) ∧ Below w.heap.size w w' := by
  by_cases h1 : I ≤ 4611686018427387904
  · have hd1 : decide (I ≤ 4611686018427387904) = true := decide_eq_true h1
    have hN : I < 9223372036854775808 := by omega
    by_cases h2 : I ≤ most
    · have HD : Hid (decide (I ≤ most ∧ I ≤ 4611686018427387904) = true) := decide_eq_true ⟨h2, h1⟩
      have hd2 : decide (I ≤ most) = true := decide_eq_true h2
      clear h2
      go_enter Try.func80, Try.ntmps80
      go_wp2_with fail
      go_ret
      exact ⟨by rw [HD.out]; rfl, Below.refl _ _⟩
    · have HD : Hid (decide (I ≤ most ∧ I ≤ 4611686018427387904) = false) := decide_eq_false (fun q => h2 q.1)
      have hd2 : decide (I ≤ most) = false := decide_eq_false h2
      clear h2
      go_enter Try.func80, Try.ntmps80
      go_wp2_with fail
      go_ret
      exact ⟨by rw [HD.out]; rfl, Below.refl _ _⟩
  · have HD : Hid (decide (I ≤ most ∧ I ≤ 4611686018427387904) = false) := decide_eq_false (fun q => h1 q.2)
    have hd1 : decide (I ≤ 4611686018427387904) = false := decide_eq_false h1
    clear h1
    go_enter Try.func80, Try.ntmps80
    go_wp2_with fail
    go_ret
    exact ⟨by rw [HD.out]; rfl, Below.refl _ _⟩
end Go.Proofs.Ytnjgonplojpcnaa.Wi
