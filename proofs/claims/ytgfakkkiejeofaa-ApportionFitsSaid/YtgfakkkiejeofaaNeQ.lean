/- Networks: how far two stops are: bounds: plain. -/
import Derived.Test.YtgfakkkiejeofaaNeD
namespace Go.Proofs.Ytgfakkkiejeofaa.Ne
open Go.RowKit Go.V Go.Proofs Go.Sort

/-- What a table tells of two stops. -/
def tfarE (n : Net) (k : Nat) (a b : Int) : Int := if 0 ≤ a ∧ a < k ∧ 0 ≤ b ∧ b < k then far n.links k a b else -1
theorem tfar_in {n : Net} {k : Nat} (hok : checkE n = 0) (hk : k = n.stops.length) (a b : Int) : tfarE n k a b ≤ k * (n.links.length * 2097150) := by
  unfold tfarE
  split
  · next h =>
    have hL : LinksOk n.links k := by rw [hk]; exact (check_ok hok).2.2.2.2.1
    have hs := (bf_sound (L := n.links) (k := k) (a := a) ⟨h.1, h.2.1⟩).turns hL k
    obtain ⟨v, rfl⟩ : ∃ v : Nat, b = v := ⟨b.toNat, by omega⟩
    have h1 := bf_at (L := n.links) (k := k) (a := a) hL ⟨h.1, h.2.1⟩ (v := v) (by omega)
    rcases hs.one v _ h1 with e | ⟨-, e, -⟩
    · rw [e]
      have : 0 ≤ (k : Int) * (n.links.length * 2097150) := Int.mul_nonneg (by omega) (by omega)
      omega
    · exact e
  · have : 0 ≤ (k : Int) * (n.links.length * 2097150) := Int.mul_nonneg (by omega) (by omega)
    omega
/-- Of few stops and links. -/
theorem tfar_few {n : Net} {k : Nat} (hok : checkE n = 0) (hk : k = n.stops.length) (h60 : k ≤ 60) (h120 : n.links.length ≤ 120) (a b : Int) : tfarE n k a b ≤ 15099480000 := by
  refine Int.le_trans (tfar_in hok hk a b) ?_
  have h1 : (k : Int) * (n.links.length * 2097150) ≤ 60 * (n.links.length * 2097150) := Int.mul_le_mul_of_nonneg_right (by omega) (by omega)
  omega
end Go.Proofs.Ytgfakkkiejeofaa.Ne
