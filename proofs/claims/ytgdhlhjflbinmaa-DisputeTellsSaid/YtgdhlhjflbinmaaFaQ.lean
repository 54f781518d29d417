/- Fares: the law on months' bills, walked. -/
import Derived.Test.YtgdhlhjflbinmaaFaN
import Derived.Test.YtgdhlhjflbinmaaFaP
import Derived.Deep.DeepFit
namespace Go.Proofs.Ytgdhlhjflbinmaa
open Go.RowKit Go.V Go.Proofs

theorem groupsR_len (l : List Ride) (window chain : Int) : (groupsR l window chain).length ≤ l.length ∧ ∀ g ∈ groupsR l window chain, g.length ≤ l.length := by
  unfold groupsR
  by_cases h : GroupsP l window chain
  · rw [if_pos h]
    have h1 := groups_le h.2.1.1 h.2.2.1 (window := window) (isort ltR l)
    have h2 := groups_flat window chain (isort ltR l)
    have h3 := (isort_perm (lt := ltR) l).length_eq
    refine ⟨by omega, fun g hg => ?_⟩
    have h4 : g.length ≤ (groupsOf window chain (isort ltR l)).flatten.length := (List.sublist_flatten_of_mem hg).length_le
    rw [h2, h3] at h4; exact h4
  · rw [if_neg h]; simp
theorem billG_len (t : Tar) (c : Int) (l : List Ride) : (billG t c l).length ≤ l.length ∧ ∀ g ∈ billG t c l, g.trips.length ≤ l.length := by
  unfold billG grpsOf
  obtain ⟨h1, h2⟩ := groupsR_len l t.window t.chain
  split
  · refine ⟨by rw [List.length_map]; exact h1, fun g hg => ?_⟩
    obtain ⟨x, hx, rfl⟩ := List.mem_map.1 hg
    show (x.map Ride.t).length ≤ _
    rw [List.length_map]; exact h2 x hx
  · simp

end Go.Proofs.Ytgdhlhjflbinmaa
