/- Networks: viterbi: the lesser of two costs, walked. -/
import Derived.Test.YthhpgahnhpgmeaaNoC
namespace Go.Proofs.Ythhpgahnhpgmeaa.Ne
open Go.RowKit Go.V Go.Proofs Go.Sort

def lessE (a b : Int) : Int := if a < 0 ∨ 0 ≤ b ∧ b < a then b else a

set_option maxHeartbeats 1000000 in
theorem vless_any (a b : Int) (w : World) : Calls Try.prog 80 #[.int .i64 a, .int .i64 b] w fun e w' => e = .returned (.int .i64 (lessE a b)) ∧ Below w.heap.size w w' := by
  obtain ⟨r, hr⟩ : ∃ r, lessE a b = r := ⟨_, rfl⟩
  have HR := Lib.hid hr
  rw [hr]
  clear hr
  by_cases h1 : a < 0
  · have hz : b = r := by rw [← HR.out]; exact (if_pos (.inl h1)).symm
    subst hz
    go_enter Try.func80, Try.ntmps80
    go_wp2_with fail
    go_ret
    exact ⟨rfl, Below.refl _ _⟩
  · by_cases h2 : 0 ≤ b
    · by_cases h3 : b < a
      · have hz : b = r := by rw [← HR.out]; exact (if_pos (.inr ⟨h2, h3⟩)).symm
        subst hz
        go_enter Try.func80, Try.ntmps80
        go_wp2_with fail
        go_ret
        exact ⟨rfl, Below.refl _ _⟩
      · have hz : a = r := by rw [← HR.out]; exact (if_neg (by omega)).symm
        subst hz
        go_enter Try.func80, Try.ntmps80
        go_wp2_with fail
        go_ret
        exact ⟨rfl, Below.refl _ _⟩
    · have hz : a = r := by rw [← HR.out]; exact (if_neg (by omega)).symm
      subst hz
      go_enter Try.func80, Try.ntmps80
      go_wp2_with fail
      go_ret
      exact ⟨rfl, Below.refl _ _⟩

set_option maxHeartbeats 1000000 in
theorem vown_any (a : Option Addr) (n cap : Nat) (l : List Pnt) (i : Nat) (p : Pnt) (w : World) (h : SlQ pcod w a n cap l) (hi : i < n) (hp : l[i]? = some p) :
    Calls Try.prog 81 #[.slice a n cap, .int .i64 i] w fun e w' => e = .returned (.int .i64 (sqE l p.stop).1) ∧ Below w.heap.size w w' := by
  have HH := Lib.hid h
  obtain ⟨b, off, r, rfl, hbl, hr, c0, c1⟩ := pnt_at h hi
  rw [hp] at hr
  cases hr
  have hii : (i : Int) < (n : Int) := by omega
  clear h hp
  go_enter Try.func81, Try.ntmps81
  go_wp2_with (go_at_call 99; go_loud (refine (csquare_any (some ⟨b, off, none⟩) n cap l p.stop w HH.out).mono ?_); rintro e w1 ⟨rfl, hb1⟩; have HB1 := Lib.hid hb1; clear hb1)
  go_ret
  exact ⟨rfl, HB1.out⟩
end Go.Proofs.Ythhpgahnhpgmeaa.Ne
