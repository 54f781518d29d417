/- Grids: the stops of a cell, by definition. -/
import Derived.Test.YtknbpnkonhniiaaGrD
namespace Go.Proofs.Ytknbpnkonhniiaa.Ne
open Go.RowKit Go.V Go.Proofs

/-- The numbers of the stops of a cell. -/
def inC (z X Y : Int) (q : Stp × Nat) : Bool := decide (q.1.x / z = X ∧ q.1.y / z = Y)
def idxs (S : List Stp) (z X Y : Int) : List Int := ((S.zipIdx).filter (inC z X Y)).map fun q => (q.2 : Int)
theorem idxs_snoc (S : List Stp) (z X Y : Int) {k : Nat} {s : Stp} (h : S[k]? = some s) : idxs (S.take (k + 1)) z X Y = if s.x / z = X ∧ s.y / z = Y then idxs (S.take k) z X Y ++ [(k : Int)] else idxs (S.take k) z X Y := by
  have hk := (List.getElem?_eq_some_iff.1 h).1
  have hl : (S.take k).length = k := by rw [List.length_take]; omega
  unfold idxs
  rw [take_at h, List.zipIdx_append, List.filter_append, List.map_append, hl]
  by_cases hh : s.x / z = X ∧ s.y / z = Y
  · rw [if_pos hh]
    simp [inC, hh]
  · rw [if_neg hh]
    simp [inC, hh]
theorem mem_idxs {S : List Stp} {z X Y : Int} {i : Int} : i ∈ idxs S z X Y ↔ ∃ (k : Nat) (s : Stp), i = k ∧ S[k]? = some s ∧ s.x / z = X ∧ s.y / z = Y := by
  unfold idxs
  rw [List.mem_map]
  constructor
  · rintro ⟨q, hq, rfl⟩
    rw [List.mem_filter] at hq
    obtain ⟨h1, h2⟩ := hq
    have := List.mem_zipIdx_iff_getElem?.1 h1
    have h2 := of_decide_eq_true h2
    exact ⟨q.2, q.1, rfl, this, h2.1, h2.2⟩
  · rintro ⟨k, s, rfl, h1, h2, h3⟩
    exact ⟨(s, k), List.mem_filter.2 ⟨List.mem_zipIdx_iff_getElem?.2 h1, decide_eq_true ⟨h2, h3⟩⟩, rfl⟩
theorem idxs_len (S : List Stp) (z X Y : Int) : (idxs S z X Y).length ≤ S.length := by
  unfold idxs
  rw [List.length_map]
  have := List.length_filter_le (inC z X Y) S.zipIdx
  rwa [List.length_zipIdx] at this
theorem quo_in {a z : Int} (ha : 0 ≤ a ∧ a < 67108864) (hz : 1 ≤ z) : IntKind.i64.wrap (a.tdiv z) = a / z ∧ 0 ≤ a / z ∧ a / z < 67108864 := by
  have h1 : 0 ≤ a / z := Int.ediv_nonneg ha.1 (by omega)
  have h2 := Int.ediv_le_self z ha.1
  refine ⟨?_, h1, by omega⟩
  rw [Int.tdiv_eq_ediv_of_nonneg ha.1, IntKind.wrap_i64]; omega

end Go.Proofs.Ytknbpnkonhniiaa.Ne
