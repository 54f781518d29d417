/- Costs: the plain laws: the same both ways, no cost to stay, no less for more. -/
import Derived.Test.YteihffnmgacfpaaNoD
namespace Go.Proofs.Yteihffnmgacfpaa.Ne
open Go.RowKit Go.V Go.Proofs Go.Sort Go.Maps

section
variable {n : Net} {k : Nat}
theorem tfar_self (hok : checkE n = 0) (hk : k = n.stops.length) {a : Int} (ha : 0 ≤ a ∧ a < k) : tfarE n k a a = 0 := by
  have hL : LinksOk n.links k := by rw [hk]; exact (check_ok hok).2.2.2.2.1
  unfold tfarE
  rw [if_pos ⟨ha.1, ha.2, ha.1, ha.2⟩]
  exact (far_is hL ha).self
theorem tfar_symm (hok : checkE n = 0) (hk : k = n.stops.length) (a b : Int) : tfarE n k b a = tfarE n k a b := by
  have hL : LinksOk n.links k := by rw [hk]; exact (check_ok hok).2.2.2.2.1
  unfold tfarE
  by_cases h : 0 ≤ a ∧ a < k ∧ 0 ≤ b ∧ b < k
  · rw [if_pos h, if_pos ⟨h.2.2.1, h.2.2.2, h.1, h.2.1⟩]
    exact (far_is hL ⟨h.1, h.2.1⟩).symm (far_is hL ⟨h.2.2.1, h.2.2.2⟩)
  · rw [if_neg h, if_neg (fun q => h ⟨q.2.2.1, q.2.2.2, q.1, q.2.1⟩)]
theorem stepE_self (hok : checkE n = 0) (hk : k = n.stops.length) {x : Wgh} (hx : mayW x = true) {a : Int} (ha : 0 ≤ a ∧ a < k) : stepE n k x a a = 0 := by
  unfold stepE
  rw [if_pos ⟨hx, by rw [tfar_self hok hk ha]; omega⟩, if_pos rfl]
theorem stepE_symm (hok : checkE n = 0) (hk : k = n.stops.length) (x : Wgh) (a b : Int) : stepE n k x b a = stepE n k x a b := by
  unfold stepE
  rw [tfar_symm hok hk a b]
  by_cases h : a = b
  · rw [h]
  · have h' : ¬ b = a := fun q => h q.symm
    simp only [if_neg h, if_neg h']
theorem stepE_off {x : Wgh} (hx : mayW x = false) (a b : Int) : stepE n k x a b = -1 := by
  unfold stepE; rw [hx, if_neg (by simp)]
theorem seqE_off {x : Wgh} (hx : mayW x = false) (gs : List (List Pnt)) (ss : List Int) : seqE n k x gs ss = -1 := by
  unfold seqE; rw [hx, if_neg (by simp)]
end
theorem sumGo_in {f : Nat → Int} {C : Int} (hC : 0 ≤ C) (hf : ∀ i, f i ≤ C) : ∀ (c i : Nat) (all : Int), 0 ≤ all → -1 ≤ sumGo f c i all ∧ sumGo f c i all ≤ all + c * C
  | 0, i, all, h => by show -1 ≤ all ∧ all ≤ all + ((0 : Nat) : Int) * C; simp; omega
  | c + 1, i, all, h => by
    show -1 ≤ (if f i < 0 then -1 else sumGo f c (i + 1) (all + f i)) ∧ (if f i < 0 then -1 else sumGo f c (i + 1) (all + f i)) ≤ all + ((c + 1 : Nat) : Int) * C
    have h0 : 0 ≤ ((c + 1 : Nat) : Int) * C := Int.mul_nonneg (by omega) hC
    split
    · omega
    · have h1 := sumGo_in hC hf c (i + 1) (all + f i) (by omega)
      have h2 := hf i
      rw [Int.natCast_add, Int.add_mul]
      simp only [Int.natCast_one, Int.one_mul]
      omega
theorem sumGo_same {f g : Nat → Int} : ∀ (c i : Nat) (all : Int), (∀ j, i ≤ j → j < i + c → f j = g j) → sumGo f c i all = sumGo g c i all
  | 0, _, _, _ => rfl
  | c + 1, i, all, h => by
    show (if f i < 0 then -1 else sumGo f c (i + 1) (all + f i)) = (if g i < 0 then -1 else sumGo g c (i + 1) (all + g i))
    rw [h i (Nat.le_refl _) (by omega)]
    split
    · rfl
    · exact sumGo_same c (i + 1) _ (fun j h1 h2 => h j (by omega) (by omega))
theorem sumGo_less {f : Nat → Int} : ∀ (c i : Nat) (all : Int), 0 ≤ all → 0 ≤ sumGo f (c + 1) i all → 0 ≤ sumGo f c i all ∧ sumGo f c i all ≤ sumGo f (c + 1) i all
  | 0, i, all, h, h1 => by
    have h1' : 0 ≤ (if f i < 0 then -1 else all + f i) := h1
    show 0 ≤ all ∧ all ≤ (if f i < 0 then -1 else all + f i)
    split at h1'
    · omega
    · next hf => rw [if_neg hf]; omega
  | c + 1, i, all, h, h1 => by
    have h1' : 0 ≤ (if f i < 0 then -1 else sumGo f (c + 1) (i + 1) (all + f i)) := h1
    show 0 ≤ (if f i < 0 then -1 else sumGo f c (i + 1) (all + f i)) ∧ (if f i < 0 then -1 else sumGo f c (i + 1) (all + f i)) ≤ (if f i < 0 then -1 else sumGo f (c + 1) (i + 1) (all + f i))
    split at h1'
    · omega
    · next hf =>
      rw [if_neg hf, if_neg hf]
      exact sumGo_less c (i + 1) (all + f i) (by omega) h1'
theorem getD_take {α : Type} (l : List α) (d : α) {m j : Nat} (h : j < m) : (l.take m).getD j d = l.getD j d := by
  rw [List.getD_eq_getElem?_getD, List.getD_eq_getElem?_getD, List.getElem?_take, if_pos h]
section
variable {n : Net} {k : Nat} {x : Wgh} {gs : List (List Pnt)} {ss : List Int}
theorem costAt_take {m j : Nat} (h : j < m) : costAt n k x (gs.take m) (ss.take m) j = costAt n k x gs ss j := by
  unfold costAt wayE
  rw [getD_take gs [] h, getD_take ss 0 h, getD_take ss 0 (show j - 1 < m by omega)]
theorem seqE_in (hok : checkE n = 0) (hk : k = n.stops.length) (h60 : k ≤ 60) (h120 : n.links.length ≤ 120) : -1 ≤ seqE n k x gs ss ∧ seqE n k x gs ss ≤ 36028797018963968 := by
  unfold seqE
  split
  · next h =>
    have h1 := sumGo_in (C := 16561380196352) (by omega) (fun i => (costAt_in hok hk h60 h120 x gs ss i).2) ss.length 0 0 (by omega)
    have h2 : (ss.length : Int) * 16561380196352 ≤ 2048 * 16561380196352 := Int.mul_le_mul_of_nonneg_right (by omega) (by omega)
    omega
  · omega
theorem seqE_less {m : Nat} (hg : gs.length = m + 1) (hs : ss.length = m + 1) (h0 : 0 ≤ seqE n k x gs ss) : 0 ≤ seqE n k x (gs.take m) (ss.take m) ∧ seqE n k x (gs.take m) (ss.take m) ≤ seqE n k x gs ss := by
  unfold seqE at h0 ⊢
  split at h0
  · next h =>
    have hgl : (gs.take m).length = m := by rw [List.length_take]; omega
    have hsl : (ss.take m).length = m := by rw [List.length_take]; omega
    rw [hgl, hsl, if_pos h, if_pos ⟨rfl, by omega, h.2.2⟩, hs] at *
    rw [sumGo_same (g := costAt n k x gs ss) m 0 0 (fun j _ hj => costAt_take (by omega))]
    exact sumGo_less m 0 0 (by omega) h0
  · omega
end
/-- A stop out of any number. -/
theorem rem_in {a : Int} {k : Nat} (hk : 0 < k) : 0 ≤ (a.tmod k + k).tmod k ∧ (a.tmod k + k).tmod k < k := by
  have h1 : -(k : Int) < a.tmod k := Int.lt_tmod_of_pos a (by omega)
  have h2 : 0 ≤ a.tmod k + k := by omega
  exact ⟨Int.tmod_nonneg _ h2, Int.tmod_lt_of_pos _ (by omega)⟩
end Go.Proofs.Yteihffnmgacfpaa.Ne
