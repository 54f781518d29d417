/- The transfer layer: Sort. -/
import Derived.Test.YtjnggjhijedcpaaTrB
import Derived.Test.YtjnggjhijedcpaaStNRide
namespace Go.Proofs.Ytjnggjhijedcpaa
open Go.RowKit Go.V Go.Sort Go.Shelf Go.Proofs

def ltR : Ride → Ride → Bool := ltOf cmpR
theorem ltR_iff (x y : Ride) : ltR x y = true ↔ x.s < y.s ∨ x.s = y.s ∧ x.t < y.t := by
  unfold ltR ltOf cmpR cmpI
  rw [decide_eq_true_iff]
  (repeat' split) <;> omega
theorem ordR : Ord ltR where
  asymm x y h := by
    cases h' : ltR y x with
    | false => rfl
    | true => have := (ltR_iff x y).1 h; have := (ltR_iff y x).1 h'; omega
  trans x y z h1 h2 := by
    have := (ltR_iff x y).1 h1; have := (ltR_iff y z).1 h2; exact (ltR_iff x z).2 (by omega)
  neg x y z h1 h2 := by
    cases h' : ltR x z with
    | false => rfl
    | true =>
      have a := (ltR_iff x z).1 h'
      have b : ¬ (x.s < y.s ∨ x.s = y.s ∧ x.t < y.t) := fun h => by rw [(ltR_iff x y).2 h] at h1; cases h1
      have c : ¬ (y.s < z.s ∨ y.s = z.s ∧ y.t < z.t) := fun h => by rw [(ltR_iff y z).2 h] at h2; cases h2
      omega

theorem cmpLays (kb blk off sz : Nat) (w : World) (hne : kb ≠ blk) (h0 : w.cell? ⟨kb, 0, none⟩ = some (.func (.func 142) #[] #[])) (h1 : w.cell? ⟨kb, 1, none⟩ = some (.func (.func 143) #[] #[])) :
    Ride.CmpL Try.prog 145 #[.agg #[.slice (some ⟨kb, 0, none⟩) 2 2]] #[] Ride.enc 4 cmpR blk off sz w := by
  intro m os dk _ x y
  have hb := World.block_lt_of_cell? w _ h0
  have c : ∀ j, (sortWorldK Ride.enc 4 w blk off m dk os).cell? ⟨kb, j, none⟩ = w.cell? ⟨kb, j, none⟩ := fun j => by
    unfold sortWorldK
    rw [cell?_grow _ _ _ (by rw [size_putRowK]; exact hb), cell?_putRowK_other _ _ _ _ _ _ _ hne]
    rfl
  exact compare_any x y kb _ (by rw [c, h0]) (by rw [c, h1])

theorem flat_getElem {α : Type} [Inhabited α] (c : Cod α) (xs : List α) (t : Nat) (h : t < xs.length * c.k) : (xs.flatMap c.enc)[t]? = some ((c.enc xs.toArray[t / c.k]!)[t % c.k]!) := by
  have hk : 0 < c.k := by rcases Nat.eq_zero_or_pos c.k with e | e; rw [e] at h; omega; exact e
  have h1 : t % c.k < c.k := Nat.mod_lt _ hk
  have h2 : t / c.k < xs.length := by rw [Nat.div_lt_iff_lt_mul hk]; exact h
  have := flat_get c xs (t / c.k) (t % c.k) h1
  rw [show t / c.k * c.k + t % c.k = t by rw [Nat.mul_comm]; exact Nat.div_add_mod t c.k] at this
  rw [this]
  have e1 : xs[t / c.k]? = some xs[t / c.k] := List.getElem?_eq_getElem h2
  rw [e1]
  have e2 : xs.toArray[t / c.k]! = xs[t / c.k] := by rw [getElem!_pos xs.toArray _ (by simpa using h2)]; simp
  rw [e2]
  show (c.enc xs[t / c.k])[t % c.k]? = _
  rw [List.getElem?_eq_getElem (by rw [c.len]; exact h1), getElem!_pos (c.enc xs[t / c.k]) (t % c.k) (by rw [c.len]; exact h1)]

theorem holdsK_of_cells {α : Type} [Inhabited α] (c : Cod α) {w : World} {b off : Nat} {xs : List α} (h : Cells w b off (xs.flatMap c.enc)) (hf : ∀ j, w.frozen? ⟨b, j, none⟩ = false) : HoldsK c.enc c.k w b off xs.toArray := by
  intro j hj
  have hj' : j < xs.length * c.k := by simpa [size_flatK] using hj
  refine ⟨?_, hf _⟩
  rw [get_flatK _ _ _ _ (by simpa using hj')]
  exact h j _ (flat_getElem c xs j hj')

theorem cells_of_holdsK {α : Type} [Inhabited α] (c : Cod α) {w : World} {b off : Nat} {d : Array α} (h : HoldsK c.enc c.k w b off d) : Cells w b off (d.toList.flatMap c.enc) := by
  intro j u hu
  have hj : j < d.toList.length * c.k := by rw [← flat_len c]; exact (List.getElem?_eq_some_iff.1 hu).1
  have h1 := (h j (by simpa [size_flatK] using hj)).1
  rw [get_flatK _ _ _ _ (by simpa using hj)] at h1
  rw [h1]
  have := flat_getElem c d.toList j hj
  rw [hu] at this
  simpa using this.symm

/-- What a sort leaves of the rest of memory. -/
theorem swk_below {α : Type} {enc : α → List Value} {k : Nat} {w w' : World} {blk off : Nat} {dk : Array α} [Inhabited α] (h : SWK enc k w blk off dk w') {B : Nat} (hB : B ≤ blk) (hw : B ≤ w.heap.size) : Below B w w' := by
  obtain ⟨m, os, rfl⟩ := h
  unfold sortWorldK putRowK putRow mapBlock Sort.ahead grow
  refine ⟨rfl, rfl, rfl, by simp, fun i hi => ?_⟩
  simp only []
  rw [Array.getElem?_append_left (by simpa using (show i < w.heap.size by omega)), Array.getElem?_modify, if_neg (by omega)]

theorem swk_own {α : Type} [Inhabited α] (c : Cod α) {w w' : World} {base n cap g : Nat} {e : TypeId} {xs : List α} {dk : Array α} (h : w.ownsRow base e c.k (.slice (some ⟨g, 0, none⟩) n cap) n (xs.flatMap c.enc)) (S : SWK c.enc c.k w g 0 dk w') (hs : dk.size = n) :
    w'.ownsRow base e c.k (.slice (some ⟨g, 0, none⟩) n cap) n (dk.toList.flatMap c.enc) := by
  obtain ⟨h1, h2⟩ := h
  rcases h2 with ⟨h2, _⟩ | ⟨g', cap', cur, h2, hb, hg, hn, hm, hz, ht⟩
  · cases h2
  · cases h2
    obtain ⟨m, os, rfl⟩ := S
    have hgs := (Array.getElem?_eq_some_iff.1 hg).1
    have hh : (sortWorldK c.enc c.k w g 0 m dk os).heap[g]? = some (.cells (putCells id 0 (flatK c.enc c.k dk) cur) e (0, 0)) := by
      unfold sortWorldK putRowK putRow mapBlock Sort.ahead grow
      simp only []
      rw [Array.getElem?_append_left (by simpa using hgs), Array.getElem?_modify, if_pos rfl, hg]
      rfl
    have hlen : (dk.toList.flatMap c.enc).length = n * c.k := by rw [flat_len, Array.length_toList, hs]
    refine ⟨hlen, .inr ⟨g, cap, _, rfl, hb, hh, hn, hm, by simp only [putCells, Array.size_mapIdx]; exact hz, ?_⟩⟩
    have hfz : ∀ j, w.frozen? ⟨g, j, none⟩ = false := fun j => by simp [World.frozen?, hg]
    apply List.ext_getElem?
    intro j
    by_cases hj : j < n * c.k
    · rw [List.getElem?_take_of_lt hj]
      have hsz : n * c.k ≤ cap * c.k := Nat.mul_le_mul_right _ hn
      have hu : (dk.toList.flatMap c.enc)[j]? = some ((c.enc dk.toList.toArray[j / c.k]!)[j % c.k]!) := flat_getElem c dk.toList j (by rw [Array.length_toList, hs]; exact hj)
      rw [hu]
      simp only [Array.getElem?_toList]
      have hjc : j < cur.size := by rw [hz]; omega
      simp only [putCells, Array.getElem?_mapIdx, Array.getElem?_eq_getElem hjc, Option.map_some]
      rw [if_pos (by rw [size_flatK, hs]; omega), Nat.sub_zero, get_flatK _ _ _ _ (by rw [hs]; exact hj)]
      rfl
    · rw [List.getElem?_eq_none (by simp; omega), List.getElem?_eq_none (by omega)]

theorem own_base {w : World} {base base' : Nat} {e : TypeId} {k : Nat} {v : Value} {n : Nat} {cs : List Value} (h : w.ownsRow base e k v n cs) (hb : base' ≤ base) : w.ownsRow base' e k v n cs := by
  obtain ⟨h1, h2⟩ := h
  refine ⟨h1, ?_⟩
  rcases h2 with h2 | ⟨g, cap, cur, h2, h3, h4⟩
  · exact .inl h2
  · exact .inr ⟨g, cap, cur, h2, by omega, h4⟩

theorem bcell {W w1 : World} (hb : Below W.heap.size W w1) : (∀ b o, b < W.heap.size → w1.cell? ⟨b, o, none⟩ = W.cell? ⟨b, o, none⟩) ∧ (∀ b o, b < W.heap.size → w1.frozen? ⟨b, o, none⟩ = W.frozen? ⟨b, o, none⟩) :=
  ⟨fun b o h => hb.cell (p := ⟨b, o, none⟩) h, fun b o h => hb.frozen (p := ⟨b, o, none⟩) h⟩

set_option maxHeartbeats 1000000 in
theorem sort_any (a : Option Addr) (n cap : Nat) (xs : List Ride) (w : World) (hn : n ≤ 1000000) (h : Sl Ride.cod w a n cap xs) :
    Calls Try.prog 90 #[.slice a n cap] w fun e w' => ∃ v, e = .returned v ∧ OwnR w.heap.size w' v (isort ltR xs) ∧ Below w.heap.size w w' := by
  go_enter Try.func90, Try.ntmps90
  go_wp2_with fail
  refine (clone_any a n cap xs _ (by omega) (h.below (((Below.refl _ _).alloc (Nat.le_refl _) _).alloc (by simp) _))).mono ?_
  rintro e w1 ⟨v, rfl, hO, hB, -⟩
  obtain ⟨hc, hf⟩ := bcell hB
  obtain ⟨a', cap', rfl, hsl, hown⟩ := ownR_sl hO
  have hsz := hB.size
  simp only [World.size_alloc] at hsz hO hown
  cases a' with
  | none =>
    have hx : xs = [] := by have := (hsl.hnil rfl).1; exact List.eq_nil_of_length_eq_zero this
    have hcap := (hsl.hnil rfl).2
    subst hx
    subst hcap
    have HO := Lib.hid hO
    have HB := Lib.hid hB
    clear hO hB hown hsl
    go_wp2_with (go_at_call 144; refine (Ride.sortStable_nil _ _).mono ?_; rintro e w' ⟨rfl, rfl⟩)
    go_ret
    refine ⟨_, rfl, World.ownsRow_nil _ _ _ _, ?_⟩
    exact (((Below.refl _ _).alloc (Nat.le_refl _) _).alloc (by simp) _).trans (HB.out.mono (by simp; omega))
  | some d =>
    obtain ⟨g, cur, rfl, hg, hcur⟩ := hown d rfl
    have HO := Lib.hid hO
    have HB := Lib.hid hB
    have HC := Lib.hid hcur
    have HS := Lib.hid hsl
    clear hO hB hown hsl hcur
    go_wp2_with fail
    have hgs : g < w1.heap.size := (HS.out.hat _ rfl).2.1
    have hgz : ∀ j, w1.frozen? ⟨g, j, none⟩ = false := fun j => by simp [World.frozen?, HC.out]
    have k0 : w1.cell? ⟨w.heap.size, 0, none⟩ = some (.func (.func 142) #[] #[]) := by rw [hc _ _ (by simp; omega)]; simp [go_sem]
    have k1 : w1.cell? ⟨w.heap.size, 1, none⟩ = some (.func (.func 143) #[] #[]) := by rw [hc _ _ (by simp; omega)]; simp [go_sem]
    refine (Ride.sortStable Ride.enc 145 #[.agg #[.slice (some ⟨w.heap.size, 0, none⟩) 2 2]] #[] cmpR g 0 cap' xs.length xs.toArray w1 (fun _ _ => by kernel_rfl) (cmpLays _ _ _ _ _ (by omega) k0 k1) ⟨Ride.enc_len, Ride.enc_one, holdsK_of_cells Ride.cod (HS.out.hat _ rfl).2.2 hgz, hgs⟩ (by simp) (by have := HS.out.hlen; have := h.hlen; omega)).mono ?_
    rintro e w2 ⟨rfl, S2⟩
    have HSW := Lib.hid S2
    clear S2
    go_wp2_with fail
    go_ret
    have hst : (stable ltR xs.toArray xs.length).toList = isort ltR xs := by
      have := stable_list ordR xs.toArray
      simpa using this
    have hss : (stable (ltOf cmpR) xs.toArray xs.length).size = xs.length := by rw [stable_size]; simp
    refine ⟨.slice (some ⟨g, 0, none⟩) xs.length cap', rfl, ?_, ?_⟩
    · have := swk_own Ride.cod HO.out HSW.out hss
      rw [show ltOf cmpR = ltR from rfl, hst] at this
      have hl : (isort ltR xs).length = xs.length := (isort_perm xs).length_eq
      unfold OwnR
      rw [hl]
      exact own_base this (by omega)
    · exact ((((Below.refl _ _).alloc (Nat.le_refl _) _).alloc (by simp) _).trans (HB.out.mono (by simp; omega))).trans (swk_below HSW.out (by omega) (by omega))
end Go.Proofs.Ytjnggjhijedcpaa
