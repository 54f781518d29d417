/- The transfer layer: the plain laws of the groups. -/
import Derived.Test.YtjnggjhijedcpaaTrK
namespace Go.Proofs.Ytjnggjhijedcpaa
open Go.RowKit Go.V Go.Sort Go.Shelf Go.Proofs Go.Maps

theorem sorted_one : ∀ (l1 l2 : List Ride), l1.Perm l2 → Srt ltR l1 → Srt ltR l2 → (l1.map Ride.t).Nodup → l1 = l2
  | [], l2, hp, _, _, _ => (List.Perm.nil_eq hp)
  | x :: xs, l2, hp, s1, s2, nd => by
    cases l2 with
    | nil => exact absurd hp.length_eq (by simp)
    | cons y ys =>
      by_cases e : x = y
      · subst e
        rw [sorted_one xs ys (List.Perm.cons_inv hp) (List.pairwise_cons.1 s1).2 (List.pairwise_cons.1 s2).2 (List.nodup_cons.1 nd).2]
      · exfalso
        have hx : x ∈ ys := by
          have : x ∈ y :: ys := hp.mem_iff.1 (by simp)
          rcases List.mem_cons.1 this with h | h
          · exact absurd h e
          · exact h
        have hy : y ∈ xs := by
          have : y ∈ x :: xs := hp.mem_iff.2 (by simp)
          rcases List.mem_cons.1 this with h | h
          · exact absurd h.symm e
          · exact h
        have h1 : ltR y x = false := (List.pairwise_cons.1 s1).1 y hy
        have h2 : ltR x y = false := (List.pairwise_cons.1 s2).1 x hx
        have g1 : ¬ (y.s < x.s ∨ y.s = x.s ∧ y.t < x.t) := fun h => by rw [(ltR_iff y x).2 h] at h1; cases h1
        have g2 : ¬ (x.s < y.s ∨ x.s = y.s ∧ x.t < y.t) := fun h => by rw [(ltR_iff x y).2 h] at h2; cases h2
        have ht : x.t = y.t := by omega
        have := (List.nodup_cons.1 nd).1
        exact this (List.mem_map.2 ⟨y, hy, ht.symm⟩)

theorem right_perm {a b : List Ride} (h : a.Perm b) : RightP a ↔ RightP b := by
  unfold RightP
  rw [h.length_eq, (h.map Ride.t).nodup_iff]
  constructor
  · rintro ⟨h1, h2, h3⟩; exact ⟨h1, fun r hr => h2 r (h.mem_iff.2 hr), h3⟩
  · rintro ⟨h1, h2, h3⟩; exact ⟨h1, fun r hr => h2 r (h.mem_iff.1 hr), h3⟩

theorem isort_perm_eq {a b : List Ride} (h : a.Perm b) (hr : RightP a) : isort ltR a = isort ltR b := by
  have h1 : (isort ltR a).Perm (isort ltR b) := ((isort_perm a).trans h).trans (isort_perm b).symm
  exact sorted_one _ _ h1 (isort_srt ordR _) (isort_srt ordR _) (((isort_perm a).map Ride.t).nodup_iff.2 hr.2.2)

theorem groups_perm {a b : List Ride} (h : a.Perm b) (window chain : Int) : groupsR a window chain = groupsR b window chain ∧ (GroupsP a window chain ↔ GroupsP b window chain) := by
  have e : GroupsP a window chain ↔ GroupsP b window chain := by unfold GroupsP; rw [right_perm h]
  refine ⟨?_, e⟩
  unfold groupsR
  by_cases hp : GroupsP a window chain
  · rw [if_pos hp, if_pos (e.1 hp), isort_perm_eq h hp.1]
  · rw [if_neg hp, if_neg (fun q => hp (e.2 q))]

/-- What holds of each group. -/
def GP (window chain : Int) (g : List Ride) : Prop := g ≠ [] ∧ (g.length : Int) ≤ chain ∧ (g.getLastD default).s - (g.headD default).s ≤ window

theorem fin_flat (st : List (List Ride) × List Ride) : (finG st).flatten = st.1.flatten ++ st.2 := by
  unfold finG
  by_cases h : st.2 = []
  · rw [if_pos h, h]; simp
  · rw [if_neg h]; simp

theorem step_flat (window chain : Int) (st : List (List Ride) × List Ride) (r : Ride) : (stepG window chain st r).1.flatten ++ (stepG window chain st r).2 = st.1.flatten ++ st.2 ++ [r] := by
  unfold stepG
  by_cases h : JoinP window chain st.2 r
  · rw [if_pos h]; simp
  · rw [if_neg h]
    show (finG st).flatten ++ [r] = _
    rw [fin_flat]

theorem fold_flat (window chain : Int) : ∀ (l : List Ride) (st : List (List Ride) × List Ride), (l.foldl (stepG window chain) st).1.flatten ++ (l.foldl (stepG window chain) st).2 = st.1.flatten ++ st.2 ++ l
  | [], st => by simp
  | r :: l, st => by
    rw [List.foldl_cons, fold_flat window chain l, step_flat]; simp

theorem groups_flat (window chain : Int) (l : List Ride) : (groupsOf window chain l).flatten = l := by
  unfold groupsOf
  rw [fin_flat, fold_flat]; simp

def Good (window chain : Int) (st : List (List Ride) × List Ride) : Prop := (∀ g ∈ st.1, GP window chain g) ∧ (st.2 ≠ [] → GP window chain st.2)
theorem fin_good {window chain : Int} {st : List (List Ride) × List Ride} (h : Good window chain st) : ∀ g ∈ finG st, GP window chain g := by
  intro g hg
  unfold finG at hg
  by_cases e : st.2 = []
  · rw [if_pos e] at hg; exact h.1 g hg
  · rw [if_neg e] at hg
    rcases List.mem_append.1 hg with h1 | h1
    · exact h.1 g h1
    · simp at h1; subst h1; exact h.2 e
theorem step_good {window chain : Int} (hw : 0 ≤ window) (hc : 1 ≤ chain) {st : List (List Ride) × List Ride} (h : Good window chain st) (r : Ride) : Good window chain (stepG window chain st r) := by
  unfold stepG
  by_cases j : JoinP window chain st.2 r
  · rw [if_pos j]
    obtain ⟨j1, j2, j3, j4, j5⟩ := j
    refine ⟨h.1, fun _ => ⟨by simp, by simp; omega, ?_⟩⟩
    show ((st.2 ++ [r]).getLastD default).s - _ ≤ _
    have e1 : (st.2 ++ [r]).getLastD default = r := by rw [List.getLastD_eq_getLast?]; simp
    have e2 : (st.2 ++ [r]).headD default = st.2.headD default := by
      cases hs : st.2 with
      | nil => exact absurd hs j1
      | cons => rfl
    rw [e1, e2]; exact j5
  · rw [if_neg j]
    exact ⟨fin_good h, fun _ => ⟨by simp, by simpa using hc, by simpa using hw⟩⟩
theorem fold_good {window chain : Int} (hw : 0 ≤ window) (hc : 1 ≤ chain) : ∀ (l : List Ride) (st : List (List Ride) × List Ride), Good window chain st → Good window chain (l.foldl (stepG window chain) st)
  | [], _, h => h
  | r :: l, _, h => fold_good hw hc l _ (step_good hw hc h r)
theorem groups_good {window chain : Int} (hw : 0 ≤ window) (hc : 1 ≤ chain) (l : List Ride) : ∀ g ∈ groupsOf window chain l, GP window chain g :=
  fin_good (fold_good hw hc l _ ⟨fun g hg => by simp at hg, fun h => absurd rfl h⟩)

theorem flat_ge : ∀ (gs : List (List Ride)), (∀ g ∈ gs, g ≠ []) → gs.length ≤ gs.flatten.length
  | [], _ => by simp
  | g :: gs, h => by
    have h1 := flat_ge gs (fun x hx => h x (by simp [hx]))
    have h2 := List.length_pos_iff.2 (h g (by simp))
    simp only [List.flatten_cons, List.length_append, List.length_cons]; omega
theorem flat_le : ∀ (gs : List (List Ride)), (∀ g ∈ gs, g.length ≤ 1) → gs.flatten.length ≤ gs.length
  | [], _ => by simp
  | g :: gs, h => by
    have h1 := flat_le gs (fun x hx => h x (by simp [hx]))
    have h2 := h g (by simp)
    simp only [List.flatten_cons, List.length_append, List.length_cons]; omega
theorem groups_le {window chain : Int} (hw : 0 ≤ window) (hc : 1 ≤ chain) (l : List Ride) : (groupsOf window chain l).length ≤ l.length := by
  have := flat_ge _ (fun g hg => (groups_good hw hc l g hg).1)
  rwa [groups_flat] at this
theorem groups_one {window : Int} (hw : 0 ≤ window) (l : List Ride) : (groupsOf window 1 l).length = l.length := by
  have h1 := groups_le hw (Int.le_refl 1) l
  have h2 := flat_le _ (fun g hg => by have := (groups_good hw (Int.le_refl 1) l g hg).2.1; omega)
  rw [groups_flat] at h2; omega

theorem far_same : ∀ (l : List Ride) (a b : Int), (∀ r ∈ l, -1 ≤ r.f) → 0 ≤ a → b = min a 4294967296 → farT l b = farS l a
  | [], a, b, _, _, hb => by unfold farT farS; split <;> omega
  | r :: l, a, b, h, ha, hb => by
    have h1 := h r (by simp)
    unfold farT farS
    by_cases e : r.f = -1
    · rw [if_pos (by omega), if_pos e]
    · rw [if_neg (by omega), if_neg e]
      exact far_same l _ _ (fun x hx => h x (by simp [hx])) (by omega) (by omega)
end Go.Proofs.Ytjnggjhijedcpaa
