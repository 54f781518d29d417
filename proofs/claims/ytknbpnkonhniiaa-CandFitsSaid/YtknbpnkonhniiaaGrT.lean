/- Grids: the next one is looked for again and again, plain. -/
import Derived.Test.YtknbpnkonhniiaaGrS
namespace Go.Proofs.Ytknbpnkonhniiaa.Ne
open Go.RowKit Go.V Go.Proofs

section
variable {p : Stp} {S : List Stp} {M : Int}
abbrev fi (p : Stp) (S : List Stp) (i : Nat) : Fnd := fnd p S (i : Int)
theorem fi_inj {i j : Nat} (h : fi p S i = fi p S j) : i = j := by
  have := congrArg Fnd.stop h
  have : (i : Int) = (j : Int) := this
  omega
theorem fi_mem {i : Nat} : fi p S i ∈ nearF p S M ↔ i < S.length ∧ (fi p S i).sq ≤ M := by
  rw [(near_good p S M).2]
  constructor
  · rintro ⟨k, hk, e, h⟩
    have := fi_inj e
    subst this
    exact ⟨hk, h⟩
  · rintro ⟨h1, h2⟩; exact ⟨i, h1, rfl, h2⟩
theorem fi_of {f : Fnd} (h : f ∈ nearF p S M) : ∃ i : Nat, i < S.length ∧ f = fi p S i := by
  obtain ⟨k, hk, e, -⟩ := ((near_good p S M).2 f).1 h
  exact ⟨k, hk, e⟩
theorem fi_stop {t i : Nat} : (i : Int) ∈ ((nearF p S M).take t).map Fnd.stop ↔ fi p S i ∈ (nearF p S M).take t := by
  rw [List.mem_map]
  constructor
  · rintro ⟨f, hf, e⟩
    obtain ⟨k, -, rfl⟩ := fi_of (List.mem_of_mem_take hf)
    have : k = i := by have : (k : Int) = (i : Int) := e; omega
    subst this
    exact hf
  · intro h; exact ⟨_, h, rfl⟩
theorem cand_iff {t i : Nat} : fi p S i ∈ (nearF p S M).drop t ↔ fi p S i ∈ nearF p S M ∧ fi p S i ∉ (nearF p S M).take t := by
  have hn := (near_good p S M).1
  have e := List.take_append_drop t (nearF p S M)
  constructor
  · intro h
    refine ⟨List.mem_of_mem_drop h, fun h2 => ?_⟩
    rw [← e, List.nodup_append] at hn
    exact hn.2.2 _ h2 _ h rfl
  · rintro ⟨h1, h2⟩
    rw [← e, List.mem_append] at h1
    rcases h1 with h1 | h1
    · exact absurd h1 h2
    · exact h1
def doneL (p : Stp) (S : List Stp) (M : Int) (t : Nat) : List Bool := (List.range S.length).map fun i : Nat => decide ((i : Int) ∈ ((nearF p S M).take t).map Fnd.stop)
theorem done_at {t i : Nat} (hi : i < S.length) : (doneL p S M t)[i]? = some (decide ((i : Int) ∈ ((nearF p S M).take t).map Fnd.stop)) := by
  unfold doneL
  rw [List.getElem?_map, List.getElem?_range hi]; rfl
theorem cand_done {t i : Nat} (hi : i < S.length) : fi p S i ∈ (nearF p S M).drop t ↔ decide ((i : Int) ∈ ((nearF p S M).take t).map Fnd.stop) = false ∧ (fi p S i).sq ≤ M := by
  rw [cand_iff, fi_mem, decide_eq_false_iff_not, fi_stop]
  constructor
  · rintro ⟨⟨-, h1⟩, h2⟩; exact ⟨h2, h1⟩
  · rintro ⟨h2, h1⟩; exact ⟨⟨hi, h1⟩, h2⟩
/-- The best one of those that are left, among the first i. -/
def BestR (p : Stp) (S : List Stp) (M : Int) (t i : Nat) (best : Int) : Prop :=
  (best = -1 ∧ ∀ j : Nat, j < i → fi p S j ∉ (nearF p S M).drop t) ∨ ∃ b : Nat, best = b ∧ b < i ∧ fi p S b ∈ (nearF p S M).drop t ∧ ∀ j : Nat, j < i → fi p S j ∈ (nearF p S M).drop t → ¬ ltF (fi p S j) (fi p S b)
theorem br_start {t : Nat} : BestR p S M t 0 (-1) := .inl ⟨rfl, fun _j hj => absurd hj (Nat.not_lt_zero _)⟩
theorem br_skip {t i : Nat} {best : Int} (hc : fi p S i ∉ (nearF p S M).drop t) (h : BestR p S M t i best) : BestR p S M t (i + 1) best := by
  rcases h with ⟨h1, h2⟩ | ⟨b, h1, h2, h3, h4⟩
  · refine .inl ⟨h1, fun j hj => ?_⟩
    rcases Nat.lt_or_ge j i with q | q
    · exact h2 j q
    · have : j = i := by omega
      subst this; exact hc
  · refine .inr ⟨b, h1, by omega, h3, fun j hj hm => ?_⟩
    rcases Nat.lt_or_ge j i with q | q
    · exact h4 j q hm
    · have : j = i := by omega
      subst this; exact absurd hm hc
theorem br_first {t i : Nat} {best : Int} (hc : fi p S i ∈ (nearF p S M).drop t) (h : BestR p S M t i best) (hb : best < 0) : BestR p S M t (i + 1) (i : Int) := by
  rcases h with ⟨h1, h2⟩ | ⟨b, h1, -⟩
  · refine .inr ⟨i, rfl, by omega, hc, fun j hj hm => ?_⟩
    rcases Nat.lt_or_ge j i with q | q
    · exact absurd hm (h2 j q)
    · have : j = i := by omega
      subst this; exact ltF_irr
  · omega
theorem br_num {t i : Nat} {best : Int} (h : BestR p S M t i best) (hb : ¬ best < 0) : ∃ b : Nat, best = b ∧ b < i := by
  rcases h with ⟨h1, h2⟩ | ⟨b, h1, h2, -⟩
  · omega
  · exact ⟨b, h1, h2⟩
theorem br_less {t i b : Nat} (hc : fi p S i ∈ (nearF p S M).drop t) (h : BestR p S M t i (b : Int)) (hs : (fi p S i).sq < (fi p S b).sq) : BestR p S M t (i + 1) (i : Int) := by
  rcases h with ⟨h1, h2⟩ | ⟨b', h1, h2, h3, h4⟩
  · omega
  · have : b' = b := by omega
    subst this
    refine .inr ⟨i, rfl, by omega, hc, fun j hj hm hl => ?_⟩
    rcases Nat.lt_or_ge j i with q | q
    · refine h4 j q hm ?_
      unfold ltF at *; omega
    · have : j = i := by omega
      subst this; exact ltF_irr hl
theorem br_keep {t i b : Nat} (h : BestR p S M t i (b : Int)) (hs : ¬ (fi p S i).sq < (fi p S b).sq) : BestR p S M t (i + 1) (b : Int) := by
  rcases h with ⟨h1, h2⟩ | ⟨b', h1, h2, h3, h4⟩
  · omega
  · have : b' = b := by omega
    subst this
    refine .inr ⟨b', rfl, by omega, h3, fun j hj hm hl => ?_⟩
    rcases Nat.lt_or_ge j i with q | q
    · exact h4 j q hm hl
    · have : j = i := by omega
      subst this
      have e1 : (fi p S j).stop = (j : Int) := rfl
      have e2 : (fi p S b').stop = (b' : Int) := rfl
      unfold ltF at hl
      rw [e1, e2] at hl
      omega
theorem br_none {t : Nat} {best : Int} (h : BestR p S M t S.length best) (hb : best < 0) : (nearF p S M).length ≤ t := by
  rcases h with ⟨h1, h2⟩ | ⟨b, h1, -⟩
  · rcases Nat.lt_or_ge t (nearF p S M).length with q | q
    · exfalso
      have hd : (nearF p S M).drop t ≠ [] := by
        intro e
        have := List.length_drop (i := t) (l := nearF p S M)
        rw [e] at this
        simp at this
        omega
      obtain ⟨f, l, hl⟩ := List.exists_cons_of_ne_nil hd
      have hf : f ∈ (nearF p S M).drop t := by rw [hl]; exact List.mem_cons_self
      obtain ⟨k, hk, rfl⟩ := fi_of (List.mem_of_mem_drop hf)
      exact h2 k hk hf
    · exact q
  · omega
theorem br_some {t b : Nat} (h : BestR p S M t S.length (b : Int)) : b < S.length ∧ t < (nearF p S M).length ∧ ((nearF p S M).take (t + 1)).map Fnd.stop = ((nearF p S M).take t).map Fnd.stop ++ [(b : Int)] := by
  rcases h with ⟨h1, -⟩ | ⟨b', h1, h2, h3, h4⟩
  · omega
  · have : b' = b := by omega
    subst this
    have hs := near_sorted p S M
    rw [← List.take_append_drop t (nearF p S M), List.pairwise_append] at hs
    have hs := hs.2.1
    cases hd : (nearF p S M).drop t with
    | nil => rw [hd] at h3; simp at h3
    | cons f l =>
      have ht : t < (nearF p S M).length := by
        rcases Nat.lt_or_ge t (nearF p S M).length with q | q
        · exact q
        · rw [List.drop_eq_nil_of_le q] at hd; cases hd
      have hf : f ∈ (nearF p S M).drop t := by rw [hd]; exact List.mem_cons_self
      obtain ⟨k, hk, rfl⟩ := fi_of (List.mem_of_mem_drop hf)
      have hkb : fi p S k = fi p S b' := by
        rw [hd] at h3 hs
        rcases List.mem_cons.1 h3 with e | e
        · exact e.symm
        · exact (h4 k hk hf ((List.pairwise_cons.1 hs).1 _ e)).elim
      have hg : (nearF p S M)[t]? = some (fi p S b') := by
        have : ((nearF p S M).drop t)[0]? = some (fi p S k) := by rw [hd]; rfl
        rw [List.getElem?_drop, Nat.add_zero] at this
        rw [this, hkb]
      refine ⟨h2, ht, ?_⟩
      rw [take_at hg, List.map_append]; rfl
theorem done_set {t b : Nat} (h : ((nearF p S M).take (t + 1)).map Fnd.stop = ((nearF p S M).take t).map Fnd.stop ++ [(b : Int)]) : (doneL p S M t).set b true = doneL p S M (t + 1) := by
  refine List.ext_getElem (by simp [doneL]) fun i h1 h2 => ?_
  have hi : i < S.length := by simpa [doneL] using h2
  rw [List.getElem_set]
  simp only [doneL, List.getElem_map, List.getElem_range]
  rw [h]
  by_cases e : b = i
  · subst e; simp
  · rw [if_neg e]
    have e' : ¬ (i : Int) = (b : Int) := by omega
    simp only [List.mem_append, List.mem_singleton, e', or_false]
theorem done_zero : doneL p S M 0 = List.replicate S.length false := by
  refine List.ext_getElem (by simp [doneL]) fun i h1 h2 => ?_
  simp [doneL]
theorem done_len (t : Nat) : (doneL p S M t).length = S.length := by simp [doneL]
end
end Go.Proofs.Ytknbpnkonhniiaa.Ne
