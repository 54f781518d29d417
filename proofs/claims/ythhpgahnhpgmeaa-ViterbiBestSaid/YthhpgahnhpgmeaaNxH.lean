/- Networks: viterbi: no sequence costs less than the best one, or comes ahead of it: the law walked. -/
import Derived.Test.YthhpgahnhpgmeaaNxG
namespace Go.Proofs.Ythhpgahnhpgmeaa.Ne
open Go.RowKit Go.V Go.Proofs Go.Sort Go.Maps

theorem best_law (st : Int → Int → Int) (gs : List (List Pnt)) (hrow : ∀ r ∈ gs, okRow r) (hne : gs ≠ []) :
    (goE st gs none = none → ∀ ss, tcE st none gs ss < 0) ∧
    (∀ l, goE st gs none = some l → l.length = gs.length ∧ tcE st none gs l = (pickE st none gs).1 ∧ 0 ≤ (pickE st none gs).1 ∧ ∀ ss, 0 ≤ tcE st none gs ss → (pickE st none gs).1 ≤ tcE st none gs ss ∧ ((pickE st none gs).1 = tcE st none gs ss → aheadE ss l = false)) := by
  cases gs with
  | nil => exact absurd rfl hne
  | cons g gs =>
    by_cases h0 : 0 ≤ (pickE st none (g :: gs)).1
    · obtain ⟨l, h1, h2, h3, h4⟩ := go_ok st gs g none hrow h0
      refine ⟨(fun h => by rw [h1] at h; cases h), fun l' h => ?_⟩
      rw [h1] at h
      cases h
      exact ⟨h2, h3, h0, h4⟩
    · have hn : goE st (g :: gs) none = none := by rw [goE_cons, if_pos (by omega)]
      refine ⟨fun _ ss => ?_, (fun l h => by rw [hn] at h; cases h)⟩
      apply Int.not_le.1
      intro hs
      cases ss with
      | nil => unfold tcE at hs; omega
      | cons s ss =>
        obtain ⟨m1, m2, m3⟩ := lf_low st gs g s ss none hrow hs
        have hpt : 0 ≤ ptE g s := by
          rw [tcE_cons] at hs
          split at hs <;> omega
        obtain ⟨-, k2, -⟩ := pickE_ok st none g gs
        exact h0 (k2 s (ptE_mem hpt) m2 m1).1
theorem best_seq {n : Net} {k : Nat} {x : Wgh} {gs : List (List Pnt)} (hv : vmayE x gs = 0) :
    (goE (stepE n k x) gs none = none → ∀ ss, seqE n k x gs ss = -1) ∧
    (∀ l, goE (stepE n k x) gs none = some l → l.length = gs.length ∧ seqE n k x gs l = (pickE (stepE n k x) none gs).1 ∧ 0 ≤ (pickE (stepE n k x) none gs).1 ∧
      ∀ ss, seqE n k x gs ss < 0 ∨ (pickE (stepE n k x) none gs).1 < seqE n k x gs ss ∨ (pickE (stepE n k x) none gs).1 = seqE n k x gs ss ∧ aheadE ss l = false) := by
  obtain ⟨o1, o2, o3, o4⟩ := vmay_ok hv
  obtain ⟨b1, b2⟩ := best_law (stepE n k x) gs (fun r hr => (o3 r hr).1) o4
  refine ⟨fun h ss => ?_, fun l h => ?_⟩
  · rw [seq_tc n k x gs ss o1 o2, if_pos (b1 h ss)]
  · obtain ⟨c1, c2, c3, c4⟩ := b2 l h
    refine ⟨c1, by rw [seq_tc n k x gs l o1 o2, if_neg (by omega), c2], c3, fun ss => ?_⟩
    rw [seq_tc n k x gs ss o1 o2]
    by_cases hs : tcE (stepE n k x) none gs ss < 0
    · rw [if_pos hs]; exact .inl (by omega)
    · rw [if_neg hs]
      obtain ⟨d1, d2⟩ := c4 ss (by omega)
      by_cases he : (pickE (stepE n k x) none gs).1 = tcE (stepE n k x) none gs ss
      · exact .inr (.inr ⟨he, d2 he⟩)
      · exact .inr (.inl (by omega))
theorem vmay_31 {x : Wgh} {gs : List (List Pnt)} (h : vmayE x gs = 31) : gs.length = 0 := by
  unfold vmayE at h
  repeat' split at h
  all_goals first | omega | (next q => exact q) | assumption

end Go.Proofs.Ythhpgahnhpgmeaa.Ne
