/- A row of one's own, as the shelf's sorts know it. -/
import Derived.Test.YtknbpnkonhniiaaBase2
import Derived.Shelf.SlSortCmp.WholeK
namespace Go.V
open Go.RowKit Go.Shelf Go.Proofs Go.Sort

theorem flat_getElem {α : Type} [Inhabited α] (c : Cod α) (xs : List α) (t : Nat) (h : t < xs.length * c.k) : (xs.flatMap c.enc)[t]? = some ((c.enc xs.toArray[t / c.k]!)[t % c.k]!) := by
  have hk : 0 < c.k := by rcases Nat.eq_zero_or_pos c.k with e | e; rw [e] at h; omega; exact e
  have h1 : t % c.k < c.k := Nat.mod_lt _ hk
  have h2 : t / c.k < xs.length := by rw [Nat.div_lt_iff_lt_mul hk]; exact h
  have := flat_get c xs (t / c.k) (t % c.k) h1
  rw [show t / c.k * c.k + t % c.k = t by rw [Nat.mul_comm]; exact Nat.div_add_mod t c.k] at this
  rw [this]
  have e1 : xs[t / c.k]? = some xs[t / c.k] := List.getElem?_eq_getElem h2
  rw [e1]
  have e2 : xs.toArray[t / c.k]! = xs[t / c.k] := by rw [getElem!_pos xs.toArray _ (by simpa using h2)]; simp
  rw [e2]
  show (c.enc xs[t / c.k])[t % c.k]? = _
  rw [List.getElem?_eq_getElem (by rw [c.len]; exact h1), getElem!_pos (c.enc xs[t / c.k]) (t % c.k) (by rw [c.len]; exact h1)]

theorem holdsK_of_cells {α : Type} [Inhabited α] (c : Cod α) {w : World} {b off : Nat} {xs : List α} (h : Cells w b off (xs.flatMap c.enc)) (hf : ∀ j, w.frozen? ⟨b, j, none⟩ = false) : HoldsK c.enc c.k w b off xs.toArray := by
  intro j hj
  have hj' : j < xs.length * c.k := by simpa [size_flatK] using hj
  refine ⟨?_, hf _⟩
  rw [get_flatK _ _ _ _ (by simpa using hj')]
  exact h j _ (flat_getElem c xs j hj')

theorem cells_of_holdsK {α : Type} [Inhabited α] (c : Cod α) {w : World} {b off : Nat} {d : Array α} (h : HoldsK c.enc c.k w b off d) : Cells w b off (d.toList.flatMap c.enc) := by
  intro j u hu
  have hj : j < d.toList.length * c.k := by rw [← flat_len c]; exact (List.getElem?_eq_some_iff.1 hu).1
  have h1 := (h j (by simpa [size_flatK] using hj)).1
  rw [get_flatK _ _ _ _ (by simpa using hj)] at h1
  rw [h1]
  have := flat_getElem c d.toList j hj
  rw [hu] at this
  simpa using this.symm

/-- What a sort leaves of the rest of memory. -/
theorem swk_below {α : Type} {enc : α → List Value} {k : Nat} {w w' : World} {blk off : Nat} {dk : Array α} [Inhabited α] (h : SWK enc k w blk off dk w') {B : Nat} (hB : B ≤ blk) (hw : B ≤ w.heap.size) : Below B w w' := by
  obtain ⟨m, os, rfl⟩ := h
  unfold sortWorldK putRowK putRow mapBlock Sort.ahead grow
  refine ⟨rfl, rfl, rfl, by simp, fun i hi => ?_⟩
  simp only []
  rw [Array.getElem?_append_left (by simpa using (show i < w.heap.size by omega)), Array.getElem?_modify, if_neg (by omega)]

theorem swk_own {α : Type} [Inhabited α] (c : Cod α) {w w' : World} {base n cap g : Nat} {e : TypeId} {xs : List α} {dk : Array α} (h : w.ownsRow base e c.k (.slice (some ⟨g, 0, none⟩) n cap) n (xs.flatMap c.enc)) (S : SWK c.enc c.k w g 0 dk w') (hs : dk.size = n) :
    w'.ownsRow base e c.k (.slice (some ⟨g, 0, none⟩) n cap) n (dk.toList.flatMap c.enc) := by
  obtain ⟨h1, h2⟩ := h
  rcases h2 with ⟨h2, _⟩ | ⟨g', cap', cur, h2, hb, hg, hn, hm, hz, ht⟩
  · cases h2
  · cases h2
    obtain ⟨m, os, rfl⟩ := S
    have hgs := (Array.getElem?_eq_some_iff.1 hg).1
    have hh : (sortWorldK c.enc c.k w g 0 m dk os).heap[g]? = some (.cells (putCells id 0 (flatK c.enc c.k dk) cur) e (0, 0)) := by
      unfold sortWorldK putRowK putRow mapBlock Sort.ahead grow
      simp only []
      rw [Array.getElem?_append_left (by simpa using hgs), Array.getElem?_modify, if_pos rfl, hg]
      rfl
    have hlen : (dk.toList.flatMap c.enc).length = n * c.k := by rw [flat_len, Array.length_toList, hs]
    refine ⟨hlen, .inr ⟨g, cap, _, rfl, hb, hh, hn, hm, by simp only [putCells, Array.size_mapIdx]; exact hz, ?_⟩⟩
    have hfz : ∀ j, w.frozen? ⟨g, j, none⟩ = false := fun j => by simp [World.frozen?, hg]
    apply List.ext_getElem?
    intro j
    by_cases hj : j < n * c.k
    · rw [List.getElem?_take_of_lt hj]
      have hsz : n * c.k ≤ cap * c.k := Nat.mul_le_mul_right _ hn
      have hu : (dk.toList.flatMap c.enc)[j]? = some ((c.enc dk.toList.toArray[j / c.k]!)[j % c.k]!) := flat_getElem c dk.toList j (by rw [Array.length_toList, hs]; exact hj)
      rw [hu]
      simp only [Array.getElem?_toList]
      have hjc : j < cur.size := by rw [hz]; omega
      simp only [putCells, Array.getElem?_mapIdx, Array.getElem?_eq_getElem hjc, Option.map_some]
      rw [if_pos (by rw [size_flatK, hs]; omega), Nat.sub_zero, get_flatK _ _ _ _ (by rw [hs]; exact hj)]
      rfl
    · rw [List.getElem?_eq_none (by simp; omega), List.getElem?_eq_none (by omega)]

end Go.V
