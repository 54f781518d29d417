/- slices.Reverse at a row of numbers of one's own. -/
import Derived.Test.YtgfakkkiejeofaaNsB
import Derived.Shelf.Slices.Reverse
namespace Go.Proofs.Ytgfakkkiejeofaa.Ne
open Go.Shelf Go.RowKit Go.V Go.Proofs Go.Sort

def rvRen : Ren := ⟨fun _ => 38, fun t => if t = 0 then 0 else if t = 3 then 3 else if t = 4 then 4 else 26, fun x => x⟩
theorem rvLays : Lays.n112 Try.prog rvRen where
  mixed := by kernel_rfl
  f112 := by kernel_rfl
  t0 := by kernel_rfl
  a0 := fun _ => by kernel_rfl
  z0 := fun _ => by kernel_rfl
  v0 := fun _ => by kernel_rfl
  t3 := by kernel_rfl
  a3 := fun _ => by kernel_rfl
  z3 := fun _ => by kernel_rfl
  v3 := fun _ => by kernel_rfl
  t4 := by kernel_rfl
  a4 := fun _ => by kernel_rfl
  z4 := fun _ => by kernel_rfl
  v4 := fun _ => by kernel_rfl
  t28 := by kernel_rfl
  a28 := fun _ => by kernel_rfl
  z28 := fun _ => by kernel_rfl
  v28 := fun _ => by kernel_rfl

theorem rev_any (base g n cap : Nat) (zs : List Int) (w : World) (h : Go.V.Own 3 icod base w (.slice (some ⟨g, 0, none⟩) n cap) zs) (hn : n = zs.length) (hm : n ≤ 9223372036854775807) :
    Calls Try.prog 38 #[.slice (some ⟨g, 0, none⟩) n cap] w fun e w' => e = .returned (.tuple #[]) ∧ Go.V.Own 3 icod base w' (.slice (some ⟨g, 0, none⟩) n cap) zs.reverse ∧ Below g w w' := by
  subst hn
  obtain ⟨h1, h2⟩ := id h
  rcases h2 with ⟨h2, -⟩ | ⟨g', cap', cur, h2, hb, hg, hnc, hmx, hz, ht⟩
  · cases h2
  cases h2
  have hH : Holds (Value.int .i64) w g 0 zs.toArray := by
    intro j hj
    have hj' : j < zs.length := by simpa using hj
    obtain ⟨q1, q2⟩ := h.at rfl (List.getElem?_eq_getElem hj')
    refine ⟨?_, by simpa using q2 j⟩
    have := q1 0 _ rfl
    rw [getElem!_pos zs.toArray j hj]
    simpa [icod] using this
  refine (Any.slices_Reverse_int rvLays g 0 cap zs w hH hm).mono ?_
  rintro e w' ⟨rfl, k, rfl⟩
  have hgs := (Array.getElem?_eq_some_iff.1 hg).1
  have hh : (putRow (Value.int .i64) (Sort.ahead w k) g 0 zs.reverse.toArray).heap[g]? = some (.cells (putCells (Value.int .i64) 0 zs.reverse.toArray cur) 3 (0, 0)) := by
    unfold putRow mapBlock Sort.ahead
    simp only []
    rw [Array.getElem?_modify, if_pos rfl, hg]
    rfl
  refine ⟨rfl, ?_, ⟨rfl, rfl, rfl, ?_, fun i hi => ?_⟩⟩
  unfold Go.V.Own
  rw [List.length_reverse]
  refine ⟨?_, .inr ⟨g, cap, _, rfl, hb, hh, hnc, hmx, by simp only [putCells, Array.size_mapIdx]; exact hz, ?_⟩⟩
  · rw [flat_len, List.length_reverse]
  · have hzs : (zs.reverse.flatMap icod.enc) = zs.reverse.map (Value.int .i64) := by
      induction zs.reverse with
      | nil => rfl
      | cons x xs ih => rw [List.flatMap_cons, ih]; rfl
    rw [hzs]
    have hck : icod.k = 1 := rfl
    rw [hck] at hz ⊢
    apply List.ext_getElem?
    intro j
    by_cases hj : j < zs.length
    · rw [List.getElem?_take_of_lt (by omega)]
      simp only [Array.getElem?_toList]
      have hjc : j < cur.size := by rw [hz]; omega
      simp only [putCells, Array.getElem?_mapIdx, Array.getElem?_eq_getElem hjc, Option.map_some]
      rw [if_pos (by simp; omega), Nat.sub_zero, List.getElem?_map, List.getElem?_eq_getElem (by rw [List.length_reverse]; exact hj)]
      rw [getElem!_pos zs.reverse.toArray j (by simpa using hj)]
      simp
    · rw [List.getElem?_eq_none (by simp; omega), List.getElem?_eq_none (by simp; omega)]
  · unfold putRow mapBlock Sort.ahead; simp
  · unfold putRow mapBlock Sort.ahead
    simp only []
    rw [Array.getElem?_modify, if_neg (by omega)]
end Go.Proofs.Ytgfakkkiejeofaa.Ne
