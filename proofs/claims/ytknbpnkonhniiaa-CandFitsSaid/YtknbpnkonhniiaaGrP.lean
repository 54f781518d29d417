/- Grids: the stops near a place in order, plain. -/
import Derived.Test.YtknbpnkonhniiaaGrN
namespace Go.Proofs.Ytknbpnkonhniiaa.Ne
open Go.RowKit Go.V Go.Proofs

def leF (a b : Fnd) : Bool := decide (a.sq < b.sq ∨ (a.sq = b.sq ∧ a.stop ≤ b.stop))
/-- The stops near a place, in the document's order. -/
def nearF (p : Stp) (S : List Stp) (m : Int) : List Fnd := (amE p S m (upL S.length)).mergeSort leF
theorem nearF_perm (p : Stp) (S : List Stp) (m : Int) : (nearF p S m).Perm (amE p S m (upL S.length)) := List.mergeSort_perm _ _
theorem goodL_perm {p : Stp} {S : List Stp} {m : Int} {L T : List Fnd} (h : GoodL p S m L) (hp : T.Perm L) : GoodL p S m T :=
  ⟨hp.nodup_iff.2 h.1, fun f => by rw [hp.mem_iff]; exact h.2 f⟩
theorem near_good (p : Stp) (S : List Stp) (m : Int) : GoodL p S m (nearF p S m) := goodL_perm (good_all p S m) (nearF_perm p S m)
theorem lt_of_le_ne {a b : Fnd} (h : ¬ ltF b a) (hne : a ≠ b) : ltF a b := by
  unfold ltF at *
  have : ¬ (a.sq = b.sq ∧ a.stop = b.stop) := fun e => hne (by cases a; cases b; simp at e; rw [e.1, e.2])
  omega
theorem near_sorted (p : Stp) (S : List Stp) (m : Int) : (nearF p S m).Pairwise ltF := by
  have h := List.pairwise_mergeSort (le := leF) (fun a b c h1 h2 => by
    unfold leF at *
    simp only [decide_eq_true_eq] at *
    omega) (fun a b => by
    unfold leF
    rw [Bool.or_eq_true, decide_eq_true_iff, decide_eq_true_iff]
    omega) (amE p S m (upL S.length))
  have hn : (nearF p S m).Pairwise (fun a b => a ≠ b) := (near_good p S m).1
  refine List.Pairwise.imp₂ ?_ h hn
  intro a b h1 h2
  refine lt_of_le_ne (fun q => ?_) h2
  have h1 := of_decide_eq_true h1
  unfold ltF at q
  omega
theorem ltF_irr {a : Fnd} (h : ltF a a) : False := by unfold ltF at h; omega
theorem ltF_asym {a b : Fnd} (h : ltF a b) (h' : ltF b a) : False := by unfold ltF at *; omega
theorem srtF_eq : ∀ {A B : List Fnd}, A.Pairwise ltF → B.Pairwise ltF → (∀ x, x ∈ A ↔ x ∈ B) → A = B
  | [], [], _, _, _ => rfl
  | [], y :: B, _, _, h => by have := (h y).2 List.mem_cons_self; simp at this
  | x :: A, [], _, _, h => by have := (h x).1 List.mem_cons_self; simp at this
  | x :: A, y :: B, hA, hB, h => by
    obtain ⟨a1, a2⟩ := List.pairwise_cons.1 hA
    obtain ⟨b1, b2⟩ := List.pairwise_cons.1 hB
    have e : x = y := by
      rcases List.mem_cons.1 ((h x).1 List.mem_cons_self) with e | hx
      · exact e
      · rcases List.mem_cons.1 ((h y).2 List.mem_cons_self) with e | hy
        · exact e.symm
        · exact (ltF_asym (a1 y hy) (b1 x hx)).elim
    subst e
    congr 1
    refine srtF_eq a2 b2 fun z => ⟨fun hz => ?_, fun hz => ?_⟩
    · rcases List.mem_cons.1 ((h z).1 (List.mem_cons_of_mem _ hz)) with e | hz'
      · subst e; exact (ltF_irr (a1 z hz)).elim
      · exact hz'
    · rcases List.mem_cons.1 ((h z).2 (List.mem_cons_of_mem _ hz)) with e | hz'
      · subst e; exact (ltF_irr (b1 z hz)).elim
      · exact hz'
theorem near_uniq {p : Stp} {S : List Stp} {m : Int} {T : List Fnd} (h : GoodL p S m T) (hs : T.Pairwise ltF) : T = nearF p S m :=
  srtF_eq hs (near_sorted p S m) fun f => by rw [h.2 f, (near_good p S m).2 f]
theorem sorted_is {p : Stp} {S : List Stp} {m : Int} {L T : List Fnd} (h : GoodL p S m L) (hp : T.Perm L) (ho : ∀ (i j : Nat) (x y : Fnd), T[i]? = some x → T[j]? = some y → i < j → ¬ ltF y x) : T = nearF p S m := by
  have hg := goodL_perm h hp
  refine near_uniq hg ?_
  rw [List.pairwise_iff_getElem]
  intro i j hi hj hij
  refine lt_of_le_ne (ho i j _ _ (List.getElem?_eq_getElem hi) (List.getElem?_eq_getElem hj) hij) ?_
  have := List.pairwise_iff_getElem.1 hg.1 i j hi hj hij
  exact this
theorem near_len (p : Stp) (S : List Stp) (m : Int) : (nearF p S m).length ≤ S.length := by
  rw [(nearF_perm p S m).length_eq]
  have := amE_len p S m (upL S.length)
  simpa [upL] using this
/-- Their numbers; the first ones alone. -/
def nearL (p : Stp) (S : List Stp) (m : Int) (k : Nat) : List Int := ((nearF p S m).take k).map Fnd.stop
end Go.Proofs.Ytknbpnkonhniiaa.Ne
