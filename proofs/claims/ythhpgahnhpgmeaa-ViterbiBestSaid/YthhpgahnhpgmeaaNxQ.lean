/- Networks: viterbi: a sequence costs what the sum says; bounds. -/
import Derived.Test.YthhpgahnhpgmeaaNxP
import Derived.Test.YthhpgahnhpgmeaaNfA
namespace Go.Proofs.Ythhpgahnhpgmeaa.Ne
open Go.RowKit Go.V Go.Proofs Go.Sort Go.Maps

theorem getD_drop0 {α : Type} (l : List α) (i : Nat) (d : α) : l.getD i d = (l.drop i).headD d := by
  rw [List.getD_eq_getElem?_getD, List.headD_eq_head?_getD, List.head?_drop]
/-- The sum that goes on is what is behind. -/
theorem sumGo_tc (n : Net) (k : Nat) (x : Wgh) (gs : List (List Pnt)) (ss : List Int) (hl : gs.length = ss.length) : ∀ (c i : Nat) (all : Int), i + c = ss.length → -1 ≤ tcE (stepE n k x) (if i = 0 then none else some (ss.getD (i - 1) 0)) (gs.drop i) (ss.drop i) ∧
    sumGo (costAt n k x gs ss) c i all = if tcE (stepE n k x) (if i = 0 then none else some (ss.getD (i - 1) 0)) (gs.drop i) (ss.drop i) < 0 then -1 else all + tcE (stepE n k x) (if i = 0 then none else some (ss.getD (i - 1) 0)) (gs.drop i) (ss.drop i)
  | 0, i, all, h => by
    have e1 : gs.drop i = [] := List.drop_eq_nil_of_le (by omega)
    have e2 : ss.drop i = [] := List.drop_eq_nil_of_le (by omega)
    rw [e1, e2]
    have : ∀ p, tcE (stepE n k x) p [] [] = 0 := fun p => by unfold tcE; rfl
    rw [this]
    refine ⟨by omega, ?_⟩
    rw [if_neg (by omega)]
    show all = _
    omega
  | c + 1, i, all, h => by
    have h1 : i < ss.length := by omega
    have h2 : i < gs.length := by omega
    have e1 : gs.drop i = gs[i] :: gs.drop (i + 1) := List.drop_eq_getElem_cons h2
    have e2 : ss.drop i = ss[i] :: ss.drop (i + 1) := List.drop_eq_getElem_cons h1
    have g1 : gs.getD i [] = gs[i] := by rw [List.getD_eq_getElem?_getD, List.getElem?_eq_getElem h2]; rfl
    have g2 : ss.getD i 0 = ss[i] := by rw [List.getD_eq_getElem?_getD, List.getElem?_eq_getElem h1]; rfl
    have hw : wayE n k x ss i = toE (stepE n k x) (if i = 0 then none else some (ss.getD (i - 1) 0)) ss[i] := by
      unfold wayE toE
      by_cases h0 : i = 0
      · rw [if_pos h0, if_pos h0]
      · rw [if_neg h0, if_neg h0, g2]
    obtain ⟨i1, i2⟩ := sumGo_tc n k x gs ss hl c (i + 1) (all + costAt n k x gs ss i) (by omega)
    have hp : (if i + 1 = 0 then none else some (ss.getD (i + 1 - 1) 0)) = some ss[i] := by rw [if_neg (by omega), Nat.add_sub_cancel, g2]
    rw [hp] at i1 i2
    rw [e1, e2, tcE_cons]
    have hc : costAt n k x gs ss i = if ptE gs[i] ss[i] < 0 then -1 else if toE (stepE n k x) (if i = 0 then none else some (ss.getD (i - 1) 0)) ss[i] < 0 then -1 else ptE gs[i] ss[i] + toE (stepE n k x) (if i = 0 then none else some (ss.getD (i - 1) 0)) ss[i] := by
      unfold costAt; rw [hw, g1, g2]
    have hs : sumGo (costAt n k x gs ss) (c + 1) i all = if costAt n k x gs ss i < 0 then -1 else sumGo (costAt n k x gs ss) c (i + 1) (all + costAt n k x gs ss i) := rfl
    rw [hs, i2, hc]
    generalize toE (stepE n k x) (if i = 0 then none else some (ss.getD (i - 1) 0)) ss[i] = T at *
    generalize ptE gs[i] ss[i] = U at *
    generalize tcE (stepE n k x) (some ss[i]) (gs.drop (i + 1)) (ss.drop (i + 1)) = V at *
    constructor
    · split <;> omega
    · repeat' split
      all_goals omega
theorem tc_len (st : Int → Int → Int) : ∀ (gs : List (List Pnt)) (ss : List Int) (prev : Option Int), 0 ≤ tcE st prev gs ss → gs.length = ss.length
  | [], [], _, _ => rfl
  | [], s :: ss, _, h => by unfold tcE at h; omega
  | g :: gs, [], _, h => by unfold tcE at h; omega
  | g :: gs, s :: ss, prev, h => by
    rw [tcE_cons] at h
    split at h
    · omega
    · have := tc_len st gs ss (some s) (by omega)
      simp [this]
/-- A sequence's cost in a table. -/
theorem seq_tc (n : Net) (k : Nat) (x : Wgh) (gs : List (List Pnt)) (ss : List Int) (hm : mayW x = true) (h8 : gs.length ≤ 2048) : seqE n k x gs ss = (if tcE (stepE n k x) none gs ss < 0 then -1 else tcE (stepE n k x) none gs ss) := by
  unfold seqE
  by_cases hl : gs.length = ss.length
  · rw [if_pos ⟨hl, h8, hm⟩]
    have := (sumGo_tc n k x gs ss hl ss.length 0 0 (by omega)).2
    rw [if_pos rfl] at this
    rw [this]
    simp
  · rw [if_neg (fun q => hl q.1), if_pos]
    apply Int.not_le.1
    intro h
    exact hl (tc_len _ _ _ _ h)
/-- What is left is no more than so much. -/
theorem bkL_in (st : Int → Int → Int) (M : Int) (hM : 0 ≤ M) (hst : ∀ a b, st a b ≤ M) : ∀ gs : List (List Pnt), (∀ r ∈ gs, okRow r) → ∀ v ∈ bkL st gs, -1 ≤ v ∧ v ≤ gs.length * (M + 1099511627776)
  | [], _, v, h => by cases h
  | [g], hok, v, h => by
    obtain ⟨p, hp, rfl⟩ := List.mem_map.1 (show v ∈ g.map (bkAt st g none) from h)
    obtain ⟨q, hq, -, e⟩ := sqE_mem g p.stop (sqE_of g p hp)
    have := hok g (by simp) q hq
    have e2 : bkAt st g none p = (sqE g p.stop).1 := by unfold bkAt; simp
    rw [e2, e]
    simp only [List.length_singleton]
    omega
  | g :: h :: rest, hok, v, hv => by
    obtain ⟨p, hp, rfl⟩ := List.mem_map.1 (show v ∈ g.map (bkAt st g (some (h.zip (bkL st (h :: rest))))) from hv)
    obtain ⟨q, hq, -, e⟩ := sqE_mem g p.stop (sqE_of g p hp)
    have h1 := hok g (by simp) q hq
    have ih := bkL_in st M hM hst (h :: rest) (fun r hr => hok r (by simp at hr ⊢; exact .inr hr))
    obtain ⟨b1, b2, b3, b4⟩ := bkBest_low st p.stop (h.zip (bkL st (h :: rest))) (-1) (by omega)
    have e2 : bkAt st g (some (h.zip (bkL st (h :: rest)))) p = if 0 ≤ bkBest st p.stop (h.zip (bkL st (h :: rest))) (-1) then bkBest st p.stop (h.zip (bkL st (h :: rest))) (-1) + (sqE g p.stop).1 else -1 := rfl
    have hlen : ((g :: h :: rest).length : Int) * (M + 1099511627776) = (h :: rest).length * (M + 1099511627776) + (M + 1099511627776) := by
      rw [show (g :: h :: rest).length = (h :: rest).length + 1 from rfl, Int.natCast_add, Int.add_mul]; simp
    rw [e2, hlen, e]
    have hpos : 0 ≤ ((h :: rest).length : Int) * (M + 1099511627776) := Int.mul_nonneg (by omega) (by omega)
    split
    · next hb =>
      rcases b4 hb with e3 | ⟨q', v', m, m1, m2, m3⟩
      · omega
      · have := ih v' (List.of_mem_zip m).2
        have := hst p.stop q'.stop
        omega
    · omega
end Go.Proofs.Ythhpgahnhpgmeaa.Ne
