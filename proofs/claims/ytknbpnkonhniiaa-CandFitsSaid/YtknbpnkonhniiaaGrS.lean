/- Grids: Nearest: walked. -/
import Derived.Test.YtknbpnkonhniiaaGrQ
namespace Go.Proofs.Ytknbpnkonhniiaa.Ne
open Go.RowKit Go.V Go.Proofs Go.Sort

theorem below_grow (w : World) (q : Nat) (os : Array Obj) : Below w.heap.size w (grow (w.drewN q) os) := by
  unfold grow
  refine ⟨rfl, rfl, rfl, by simp [World.drewN], fun i hi => ?_⟩
  simp only [World.drewN]
  rw [Array.getElem?_append_left hi]
theorem order_b (x y : Fnd) (w : World) (c : Int) (hc : cmpF x y = c) :
    Calls Try.prog 40 #[x.val, y.val] w fun e w' => e = .returned (.int .i64 c) ∧ Below w.heap.size w w' :=
  (order_any x y w).mono fun e w' ⟨h1, q, os, h2⟩ => ⟨by rw [h1, hc], h2 ▸ below_grow w q os⟩
theorem cmpF_neg (x y : Fnd) : cmpF x y < 0 ↔ ltF x y := by
  rw [← cmpF_lt]
  unfold ltOf
  rw [decide_eq_true_iff]
/-- The best one of the first ones. -/
def BestF (p : Stp) (S : List Stp) (k : Nat) (r : Fnd) : Prop := (∃ i : Nat, i < S.length ∧ r = fnd p S (i : Int)) ∧ ∀ i : Nat, i < k → ¬ ltF (fnd p S (i : Int)) r
theorem best_head {p : Stp} {S : List Stp} {m : Int} {r : Fnd} (h : BestF p S S.length r) (hm : ∀ i : Nat, i < S.length → (fnd p S (i : Int)).sq ≤ m) : nearL p S m 1 = [r.stop] := by
  obtain ⟨⟨i, hi, rfl⟩, h2⟩ := h
  have hmem : fnd p S (i : Int) ∈ nearF p S m := ((near_good p S m).2 _).2 ⟨i, hi, rfl, hm i hi⟩
  unfold nearL
  cases hn : nearF p S m with
  | nil => rw [hn] at hmem; simp at hmem
  | cons f l =>
    have hs := near_sorted p S m
    rw [hn] at hs hmem
    have hf : f ∈ nearF p S m := by rw [hn]; exact List.mem_cons_self
    obtain ⟨k, hk, rfl, -⟩ := ((near_good p S m).2 f).1 hf
    rcases List.mem_cons.1 hmem with e | e
    · rw [e]; rfl
    · exact (h2 k hk ((List.pairwise_cons.1 hs).1 _ e)).elim
theorem fnd_get {p : Stp} {S : List Stp} {i : Nat} {s : Stp} (h : S[i]? = some s) : fnd p S (i : Int) = ⟨i, sqE p s⟩ := by
  unfold fnd
  rw [Int.toNat_natCast, List.getD_eq_getElem?_getD, h]; rfl


end Go.Proofs.Ytknbpnkonhniiaa.Ne
