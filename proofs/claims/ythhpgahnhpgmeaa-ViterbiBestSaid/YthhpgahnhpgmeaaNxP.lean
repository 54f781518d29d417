/- Networks: viterbi: the plain law: the picked ones cost the least. -/
import Derived.Test.YthhpgahnhpgmeaaNxB
namespace Go.Proofs.Ythhpgahnhpgmeaa.Ne
/-! ### What is left to be paid, and the greedy way -/
/-- The least of a step and what is left behind it. -/
def bkBest (st : Int → Int → Int) (a : Int) : List (Pnt × Int) → Int → Int
  | [], b => b
  | (q, v) :: l, b => bkBest st a l (if 0 ≤ st a q.stop ∧ 0 ≤ v then lessE b (st a q.stop + v) else b)
def bkAt (st : Int → Int → Int) (g : List Pnt) (nx : Option (List (Pnt × Int))) (p : Pnt) : Int :=
  let b := match nx with | none => 0 | some l => bkBest st p.stop l (-1)
  if 0 ≤ b then b + (sqE g p.stop).1 else -1
/-- What is left to be paid from each point of the first row on. -/
def bkL (st : Int → Int → Int) : List (List Pnt) → List Int
  | [] => []
  | [g] => g.map (bkAt st g none)
  | g :: h :: rest => g.map (bkAt st g (some (h.zip (bkL st (h :: rest)))))
/-- One point more: the best one yet, and its stop. -/
def pickAt (st : Int → Int → Int) (prev : Option Int) (p : Pnt) (v : Int) (bs : Int × Int) : Int × Int :=
  match prev with
  | none => if 0 ≤ v ∧ (bs.1 < 0 ∨ v < bs.1 ∨ v = bs.1 ∧ p.stop < bs.2) then (v, p.stop) else bs
  | some o => if 0 ≤ v then (if st o p.stop < 0 then bs else if bs.1 < 0 ∨ v + st o p.stop < bs.1 ∨ v + st o p.stop = bs.1 ∧ p.stop < bs.2 then (v + st o p.stop, p.stop) else bs) else bs
def pickG (st : Int → Int → Int) (prev : Option Int) : List (Pnt × Int) → Int × Int → Int × Int
  | [], bs => bs
  | (p, v) :: l, bs => pickG st prev l (pickAt st prev p v bs)
def pickE (st : Int → Int → Int) (prev : Option Int) (gs : List (List Pnt)) : Int × Int := pickG st prev ((gs.headD []).zip (bkL st gs)) (-1, 0)
/-- The stops that are picked; none: there are none. -/
def goE (st : Int → Int → Int) : List (List Pnt) → Option Int → Option (List Int)
  | [], _ => some []
  | g :: gs, prev => if (pickE st prev (g :: gs)).1 < 0 then none else (goE st gs (some (pickE st prev (g :: gs)).2)).map ((pickE st prev (g :: gs)).2 :: ·)

/-! ### Sequences -/
/-- What a sequence costs behind a stop: -1 if it can't be. -/
def toE (st : Int → Int → Int) (prev : Option Int) (s : Int) : Int := match prev with | none => 0 | some o => st o s
def tcE (st : Int → Int → Int) : Option Int → List (List Pnt) → List Int → Int
  | _, [], [] => 0
  | prev, g :: gs, s :: ss => if toE st prev s < 0 ∨ ptE g s < 0 ∨ tcE st (some s) gs ss < 0 then -1 else toE st prev s + ptE g s + tcE st (some s) gs ss
  | _, _, _ => -1
theorem tcE_cons (st : Int → Int → Int) (prev : Option Int) (g : List Pnt) (gs : List (List Pnt)) (s : Int) (ss : List Int) : tcE st prev (g :: gs) (s :: ss) = if toE st prev s < 0 ∨ ptE g s < 0 ∨ tcE st (some s) gs ss < 0 then -1 else toE st prev s + ptE g s + tcE st (some s) gs ss := by
  cases gs <;> rfl
def aheadE : List Int → List Int → Bool
  | x :: xs, y :: ys => if x = y then aheadE xs ys else decide (x < y)
  | _, _ => false

def okRow (g : List Pnt) : Prop := ∀ p ∈ g, 0 ≤ p.sq ∧ p.sq ≤ 1099511627776

theorem sqE_mem : ∀ (g : List Pnt) (s : Int), (sqE g s).2 = true → ∃ p ∈ g, p.stop = s ∧ (sqE g s).1 = p.sq
  | [], s, h => by cases h
  | p :: g, s, h => by
    unfold sqE at h ⊢
    by_cases e : p.stop = s
    · rw [if_pos e]; exact ⟨p, by simp, e, rfl⟩
    · rw [if_neg e] at h ⊢
      obtain ⟨q, h1, h2⟩ := sqE_mem g s h
      exact ⟨q, by simp [h1], h2⟩
theorem sqE_of : ∀ (g : List Pnt) (p : Pnt), p ∈ g → (sqE g p.stop).2 = true
  | q :: g, p, h => by
    unfold sqE
    by_cases e : q.stop = p.stop
    · rw [if_pos e]
    · rw [if_neg e]
      rcases List.mem_cons.1 h with h | h
      · subst h; exact absurd rfl e
      · exact sqE_of g p h
theorem ptE_of {g : List Pnt} (hg : okRow g) {p : Pnt} (hp : p ∈ g) : ptE g p.stop = (sqE g p.stop).1 ∧ 0 ≤ ptE g p.stop := by
  have h1 := sqE_of g p hp
  obtain ⟨q, h2, h3, h4⟩ := sqE_mem g p.stop h1
  have := hg q h2
  have e : ptE g p.stop = (sqE g p.stop).1 := by unfold ptE; rw [if_pos ⟨h1, by omega, by omega⟩]
  exact ⟨e, by omega⟩
theorem ptE_mem {g : List Pnt} {s : Int} (h : 0 ≤ ptE g s) : ∃ p ∈ g, p.stop = s := by
  unfold ptE at h
  split at h
  · next h2 => obtain ⟨p, h3, h4, -⟩ := sqE_mem g s h2.1; exact ⟨p, h3, h4⟩
  · omega

/-- The least of a step and what is left: as low as any, and one's. -/
theorem bkBest_low (st : Int → Int → Int) (a : Int) : ∀ (l : List (Pnt × Int)) (b : Int), -1 ≤ b → -1 ≤ bkBest st a l b ∧ (0 ≤ b → 0 ≤ bkBest st a l b ∧ bkBest st a l b ≤ b) ∧
    (∀ q v, (q, v) ∈ l → 0 ≤ st a q.stop → 0 ≤ v → 0 ≤ bkBest st a l b ∧ bkBest st a l b ≤ st a q.stop + v) ∧
    (0 ≤ bkBest st a l b → bkBest st a l b = b ∨ ∃ q v, (q, v) ∈ l ∧ 0 ≤ st a q.stop ∧ 0 ≤ v ∧ bkBest st a l b = st a q.stop + v)
  | [], b, hb => ⟨hb, (fun h => ⟨h, Int.le_refl _⟩), (fun q v h => nomatch h), (fun _ => .inl rfl)⟩
  | (q, v) :: l, b, hb => by
    unfold bkBest
    by_cases h : 0 ≤ st a q.stop ∧ 0 ≤ v
    · rw [if_pos h]
      have hl : 0 ≤ lessE b (st a q.stop + v) ∧ lessE b (st a q.stop + v) ≤ st a q.stop + v ∧ (0 ≤ b → lessE b (st a q.stop + v) ≤ b) ∧ (lessE b (st a q.stop + v) = b ∨ lessE b (st a q.stop + v) = st a q.stop + v) := by
        unfold lessE; split <;> omega
      obtain ⟨h1, h2, h3, h4⟩ := bkBest_low st a l (lessE b (st a q.stop + v)) (by omega)
      obtain ⟨h5, h6⟩ := h2 hl.1
      refine ⟨h1, fun hb0 => ⟨h5, by have := hl.2.2.1 hb0; omega⟩, fun q' v' hm hs hv => ?_, fun h0 => ?_⟩
      · rcases List.mem_cons.1 hm with e | e
        · cases e; exact ⟨h5, by omega⟩
        · exact h3 q' v' e hs hv
      · rcases h4 h0 with e | ⟨q', v', e1, e2⟩
        · rcases hl.2.2.2 with e' | e'
          · exact .inl (by omega)
          · exact .inr ⟨q, v, by simp, h.1, h.2, by omega⟩
        · exact .inr ⟨q', v', by simp [e1], e2⟩
    · rw [if_neg h]
      obtain ⟨h1, h2, h3, h4⟩ := bkBest_low st a l b hb
      refine ⟨h1, h2, fun q' v' hm hs hv => ?_, fun h0 => ?_⟩
      · rcases List.mem_cons.1 hm with e | e
        · cases e; exact absurd ⟨hs, hv⟩ h
        · exact h3 q' v' e hs hv
      · rcases h4 h0 with e | ⟨q', v', e1, e2⟩
        · exact .inl e
        · exact .inr ⟨q', v', by simp [e1], e2⟩

theorem bkL_len (st : Int → Int → Int) : ∀ gs : List (List Pnt), (bkL st gs).length = (gs.headD []).length
  | [] => rfl
  | [g] => by unfold bkL; simp
  | g :: h :: rest => by unfold bkL; simp
/-- What stands beside a point. -/
theorem bkL_zip (st : Int → Int → Int) (g : List Pnt) (gs : List (List Pnt)) (q : Pnt) (v : Int) : (q, v) ∈ g.zip (bkL st (g :: gs)) ↔ q ∈ g ∧ v = bkAt st g (match gs with | [] => none | h :: rest => some (h.zip (bkL st (h :: rest)))) q := by
  have key : ∀ (f : Pnt → Int) (l : List Pnt), (q, v) ∈ l.zip (l.map f) ↔ q ∈ l ∧ v = f q := by
    intro f l
    induction l with
    | nil => simp
    | cons x l ih =>
      rw [List.map_cons, List.zip_cons_cons, List.mem_cons, List.mem_cons, ih]
      constructor
      · rintro (h | ⟨h1, h2⟩)
        · cases h; exact ⟨.inl rfl, rfl⟩
        · exact ⟨.inr h1, h2⟩
      · rintro ⟨rfl | h1, h2⟩
        · exact .inl (by rw [h2])
        · exact .inr ⟨h1, h2⟩
  cases gs with
  | nil => exact key (bkAt st g none) g
  | cons h rest => exact key (bkAt st g (some (h.zip (bkL st (h :: rest))))) g

/-- What is left to be paid if a stop is the first one. -/
def lfE (st : Int → Int → Int) (g : List Pnt) (gs : List (List Pnt)) (s : Int) : Int := bkAt st g (match gs with | [] => none | h :: rest => some (h.zip (bkL st (h :: rest)))) ⟨s, 0⟩
theorem bkAt_stop (st : Int → Int → Int) (g : List Pnt) (nx : Option (List (Pnt × Int))) (p : Pnt) : bkAt st g nx p = bkAt st g nx ⟨p.stop, 0⟩ := rfl

/-- No sequence costs less. -/
theorem lf_low (st : Int → Int → Int) : ∀ (gs : List (List Pnt)) (g : List Pnt) (s : Int) (ss : List Int) (prev : Option Int), (∀ r ∈ g :: gs, okRow r) → 0 ≤ tcE st prev (g :: gs) (s :: ss) →
    0 ≤ toE st prev s ∧ 0 ≤ lfE st g gs s ∧ toE st prev s + lfE st g gs s ≤ tcE st prev (g :: gs) (s :: ss) := by
  intro gs
  induction gs with
  | nil =>
    intro g s ss prev hok h
    unfold tcE at h ⊢
    split at h
    · omega
    next hh =>
    rw [if_neg hh]
    obtain ⟨p, hp, rfl⟩ := ptE_mem (g := g) (s := s) (by omega)
    obtain ⟨e1, e2⟩ := ptE_of (hok g (by simp)) hp
    have hl : lfE st g [] p.stop = (sqE g p.stop).1 := by
      unfold lfE bkAt; simp
    rw [hl, ← e1]; omega
  | cons h rest ih =>
    intro g s ss prev hok hc
    unfold tcE at hc ⊢
    split at hc
    · omega
    next hh =>
    rw [if_neg hh]
    obtain ⟨p, hp, rfl⟩ := ptE_mem (g := g) (s := s) (by omega)
    obtain ⟨e1, e2⟩ := ptE_of (hok g (by simp)) hp
    cases ss with
    | nil => unfold tcE at hh; omega
    | cons s' ss' =>
      obtain ⟨i1, i2, i3⟩ := ih h s' ss' (some p.stop) (fun r hr => hok r (by simp at hr ⊢; exact .inr hr)) (by omega)
      have hpt : 0 ≤ ptE h s' := by
        have : 0 ≤ tcE st (some p.stop) (h :: rest) (s' :: ss') := by omega
        unfold tcE at this
        split at this
        · omega
        · omega
      obtain ⟨q, hq, rfl⟩ := ptE_mem hpt
      have hz : (q, lfE st h rest q.stop) ∈ h.zip (bkL st (h :: rest)) := (bkL_zip st h rest q _).2 ⟨hq, rfl⟩
      obtain ⟨b1, b2, b3, b4⟩ := bkBest_low st p.stop (h.zip (bkL st (h :: rest))) (-1) (by omega)
      obtain ⟨b5, b6⟩ := b3 q _ hz i1 i2
      have hl : lfE st g (h :: rest) p.stop = bkBest st p.stop (h.zip (bkL st (h :: rest))) (-1) + (sqE g p.stop).1 := by
        unfold lfE bkAt; simp only []; rw [if_pos b5]
      have i3' : st p.stop q.stop + lfE st h rest q.stop ≤ tcE st (some p.stop) (h :: rest) (q.stop :: ss') := i3
      rw [hl, ← e1]; omega

/-- The best one of a row: as low as any; of equal ones the lesser stop; and one's. -/
structure Picked (st : Int → Int → Int) (prev : Option Int) (l : List (Pnt × Int)) (bs0 bs : Int × Int) : Prop where
  no : 0 ≤ bs0.1 → 0 ≤ bs.1 ∧ bs.1 ≤ bs0.1 ∧ (bs.1 = bs0.1 → bs.2 ≤ bs0.2)
  low : ∀ p v, (p, v) ∈ l → 0 ≤ v → 0 ≤ toE st prev p.stop → 0 ≤ bs.1 ∧ bs.1 ≤ toE st prev p.stop + v ∧ (bs.1 = toE st prev p.stop + v → bs.2 ≤ p.stop)
  one : 0 ≤ bs.1 → bs = bs0 ∨ ∃ p v, (p, v) ∈ l ∧ 0 ≤ v ∧ 0 ≤ toE st prev p.stop ∧ bs.1 = toE st prev p.stop + v ∧ bs.2 = p.stop

theorem pickAt_eq (st : Int → Int → Int) (prev : Option Int) (p : Pnt) (v : Int) (bs : Int × Int) :
    pickAt st prev p v bs = if 0 ≤ v ∧ 0 ≤ toE st prev p.stop ∧ (bs.1 < 0 ∨ toE st prev p.stop + v < bs.1 ∨ toE st prev p.stop + v = bs.1 ∧ p.stop < bs.2) then (toE st prev p.stop + v, p.stop) else bs := by
  unfold pickAt toE
  cases prev with
  | none =>
    simp only [Int.zero_add]
    by_cases h : 0 ≤ v ∧ (bs.1 < 0 ∨ v < bs.1 ∨ v = bs.1 ∧ p.stop < bs.2)
    · rw [if_pos h, if_pos ⟨h.1, by omega, h.2⟩]
    · rw [if_neg h, if_neg (fun q => h ⟨q.1, q.2.2⟩)]
  | some o =>
    simp only []
    rw [Int.add_comm v]
    by_cases h0 : 0 ≤ v
    · rw [if_pos h0]
      by_cases h1 : st o p.stop < 0
      · rw [if_pos h1, if_neg (fun q => by omega)]
      · rw [if_neg h1]
        by_cases h2 : bs.1 < 0 ∨ st o p.stop + v < bs.1 ∨ st o p.stop + v = bs.1 ∧ p.stop < bs.2
        · rw [if_pos h2, if_pos ⟨h0, by omega, h2⟩]
        · rw [if_neg h2, if_neg (fun q => h2 q.2.2)]
    · rw [if_neg h0, if_neg (fun q => h0 q.1)]

theorem pickG_ok (st : Int → Int → Int) (prev : Option Int) : ∀ (l : List (Pnt × Int)) (bs : Int × Int), -1 ≤ bs.1 → -1 ≤ (pickG st prev l bs).1 ∧ Picked st prev l bs (pickG st prev l bs)
  | [], bs, h => ⟨h, (fun h => ⟨h, Int.le_refl _, (fun _ => Int.le_refl _)⟩), (fun p v h => nomatch h), (fun _ => .inl rfl)⟩
  | (p, v) :: l, bs, hb => by
    unfold pickG
    rw [pickAt_eq]
    split
    · next h =>
      obtain ⟨h1, h2, h3⟩ := h
      obtain ⟨i1, i2⟩ := pickG_ok st prev l (toE st prev p.stop + v, p.stop) (by show -1 ≤ _ + _; omega)
      obtain ⟨j1, j2, j3⟩ := i2.no (by show 0 ≤ _ + _; omega)
      simp only [] at j2 j3
      refine ⟨i1, fun hb0 => ⟨j1, by omega, fun e => ?_⟩, fun q u hm hu ht => ?_, fun h0 => ?_⟩
      · have := j3 (by omega); omega
      · rcases List.mem_cons.1 hm with e | e
        · cases e; exact ⟨j1, j2, j3⟩
        · exact i2.low q u e hu ht
      · rcases i2.one h0 with e | ⟨q, u, e1, e2⟩
        · exact .inr ⟨p, v, by simp, h1, h2, by rw [e], by rw [e]⟩
        · exact .inr ⟨q, u, by simp [e1], e2⟩
    · next h =>
      obtain ⟨i1, i2⟩ := pickG_ok st prev l bs hb
      refine ⟨i1, i2.no, fun q u hm hu ht => ?_, fun h0 => ?_⟩
      · rcases List.mem_cons.1 hm with e | e
        · cases e
          have hb1 : 0 ≤ bs.1 := by omega
          obtain ⟨j1, j2, j3⟩ := i2.no hb1
          refine ⟨j1, by omega, fun e => ?_⟩
          have := j3 (by omega); omega
        · exact i2.low q u e hu ht
      · rcases i2.one h0 with e | ⟨q, u, e1, e2⟩
        · exact .inl e
        · exact .inr ⟨q, u, by simp [e1], e2⟩

theorem pickE_ok (st : Int → Int → Int) (prev : Option Int) (g : List Pnt) (gs : List (List Pnt)) : -1 ≤ (pickE st prev (g :: gs)).1 ∧
    (∀ s, (∃ p ∈ g, p.stop = s) → 0 ≤ lfE st g gs s → 0 ≤ toE st prev s → 0 ≤ (pickE st prev (g :: gs)).1 ∧ (pickE st prev (g :: gs)).1 ≤ toE st prev s + lfE st g gs s ∧ ((pickE st prev (g :: gs)).1 = toE st prev s + lfE st g gs s → (pickE st prev (g :: gs)).2 ≤ s)) ∧
    (0 ≤ (pickE st prev (g :: gs)).1 → (∃ p ∈ g, p.stop = (pickE st prev (g :: gs)).2) ∧ 0 ≤ lfE st g gs (pickE st prev (g :: gs)).2 ∧ 0 ≤ toE st prev (pickE st prev (g :: gs)).2 ∧ (pickE st prev (g :: gs)).1 = toE st prev (pickE st prev (g :: gs)).2 + lfE st g gs (pickE st prev (g :: gs)).2) := by
  obtain ⟨h1, h2⟩ := pickG_ok st prev (g.zip (bkL st (g :: gs))) (-1, 0) (by simp)
  refine ⟨h1, fun s hs hl ht => ?_, fun h0 => ?_⟩
  · obtain ⟨p, hp, rfl⟩ := hs
    exact h2.low p _ ((bkL_zip st g gs p _).2 ⟨hp, rfl⟩) hl ht
  · rcases h2.one h0 with e | ⟨p, v, hm, hv, ht, e1, e2⟩
    · have : (pickE st prev (g :: gs)).1 = -1 := congrArg Prod.fst e
      omega
    · obtain ⟨m1, m2⟩ := (bkL_zip st g gs p v).1 hm
      have e2' : (pickE st prev (g :: gs)).2 = p.stop := e2
      have m2' : v = lfE st g gs p.stop := m2
      rw [e2']
      exact ⟨⟨p, m1, rfl⟩, by rw [← m2']; exact hv, ht, by rw [← m2']; exact e1⟩

/-- What is left at a stop goes on. -/
theorem lf_next (st : Int → Int → Int) (g h : List Pnt) (rest : List (List Pnt)) (p : Pnt) (hp : p ∈ g) (hg : okRow g) (h0 : 0 ≤ lfE st g (h :: rest) p.stop) :
    ∃ q ∈ h, 0 ≤ st p.stop q.stop ∧ 0 ≤ lfE st h rest q.stop ∧ lfE st g (h :: rest) p.stop = st p.stop q.stop + lfE st h rest q.stop + ptE g p.stop := by
  obtain ⟨b1, b2, b3, b4⟩ := bkBest_low st p.stop (h.zip (bkL st (h :: rest))) (-1) (by omega)
  obtain ⟨e1, e2⟩ := ptE_of hg hp
  have hl : lfE st g (h :: rest) p.stop = if 0 ≤ bkBest st p.stop (h.zip (bkL st (h :: rest))) (-1) then bkBest st p.stop (h.zip (bkL st (h :: rest))) (-1) + (sqE g p.stop).1 else -1 := rfl
  rw [hl] at h0 ⊢
  split at h0
  · next hb =>
    rw [if_pos hb]
    rcases b4 hb with e | ⟨q, v, m, h1, h2, h3⟩
    · omega
    · obtain ⟨m1, m2⟩ := (bkL_zip st h rest q v).1 m
      have m2' : v = lfE st h rest q.stop := m2
      exact ⟨q, m1, h1, by omega, by omega⟩
  · omega

/-- The picked ones: they cost the least, and none that costs as much comes ahead. -/
theorem go_ok (st : Int → Int → Int) : ∀ (gs : List (List Pnt)) (g : List Pnt) (prev : Option Int), (∀ r ∈ g :: gs, okRow r) → 0 ≤ (pickE st prev (g :: gs)).1 →
    ∃ l, goE st (g :: gs) prev = some l ∧ l.length = (g :: gs).length ∧ tcE st prev (g :: gs) l = (pickE st prev (g :: gs)).1 ∧
      ∀ ss, 0 ≤ tcE st prev (g :: gs) ss → (pickE st prev (g :: gs)).1 ≤ tcE st prev (g :: gs) ss ∧ ((pickE st prev (g :: gs)).1 = tcE st prev (g :: gs) ss → aheadE ss l = false) := by
  intro gs
  induction gs with
  | nil =>
    intro g prev hok h0
    obtain ⟨-, k2, k3⟩ := pickE_ok st prev g []
    obtain ⟨⟨p, hp, e⟩, k5, k6, k7⟩ := k3 h0
    obtain ⟨e1, e2⟩ := ptE_of (hok g (by simp)) hp
    have hlf : lfE st g [] p.stop = ptE g p.stop := by rw [e1]; unfold lfE bkAt; simp
    refine ⟨[(pickE st prev [g]).2], ?_, rfl, ?_, fun ss hs => ?_⟩
    · unfold goE; rw [if_neg (by omega)]; rfl
    · unfold tcE
      have : tcE st (some (pickE st prev [g]).2) [] [] = 0 := by unfold tcE; rfl
      rw [this, if_neg (by rw [← e] at k6 ⊢; omega), k7, ← e, hlf]; omega
    · cases ss with
      | nil => unfold tcE at hs; omega
      | cons s ss =>
        obtain ⟨m1, m2, m3⟩ := lf_low st [] g s ss prev hok hs
        have hpt : 0 ≤ ptE g s := by unfold tcE at hs; split at hs <;> omega
        obtain ⟨n1, n2, n3⟩ := k2 s (ptE_mem hpt) m2 m1
        refine ⟨by omega, fun he => ?_⟩
        have := n3 (by omega)
        unfold aheadE
        split
        · next hh =>
          cases ss <;> rfl
        · simp; omega
  | cons h rest ih =>
    intro g prev hok h0
    obtain ⟨-, k2, k3⟩ := pickE_ok st prev g (h :: rest)
    obtain ⟨⟨p, hp, e⟩, k5, k6, k7⟩ := k3 h0
    obtain ⟨P, hP⟩ : ∃ P, (pickE st prev (g :: h :: rest)) = P := ⟨_, rfl⟩
    rw [hP] at h0 k2 k5 k6 k7 e ⊢
    obtain ⟨e1, e2⟩ := ptE_of (hok g (by simp)) hp
    rw [← e] at k5
    obtain ⟨q, q1, q2, q3, q4⟩ := lf_next st g h rest p hp (hok g (by simp)) k5
    obtain ⟨l0, l2, l3⟩ := pickE_ok st (some P.2) h rest
    obtain ⟨l4, l5, -⟩ := l2 q.stop ⟨q, q1, rfl⟩ q3 (by show 0 ≤ st P.2 q.stop; rw [← e]; exact q2)
    obtain ⟨l, i1, i2, i3, i4⟩ := ih h (some P.2) (fun r hr => hok r (by simp at hr ⊢; exact .inr hr)) l4
    have hlow : lfE st g (h :: rest) p.stop = (pickE st (some P.2) (h :: rest)).1 + ptE g p.stop := by
      have a1 : (pickE st (some P.2) (h :: rest)).1 ≤ st p.stop q.stop + lfE st h rest q.stop := by rw [e]; exact l5
      obtain ⟨⟨q', hq', eq'⟩, c2, c3, c4⟩ := l3 l4
      obtain ⟨b1, b2, b3, b4⟩ := bkBest_low st p.stop (h.zip (bkL st (h :: rest))) (-1) (by omega)
      obtain ⟨b5, b6⟩ := b3 q' (lfE st h rest q'.stop) ((bkL_zip st h rest q' _).2 ⟨hq', rfl⟩) (by rw [eq', e]; exact c3) (by rw [eq']; exact c2)
      have hl : lfE st g (h :: rest) p.stop = if 0 ≤ bkBest st p.stop (h.zip (bkL st (h :: rest))) (-1) then bkBest st p.stop (h.zip (bkL st (h :: rest))) (-1) + (sqE g p.stop).1 else -1 := rfl
      rw [if_pos b5] at hl
      have c4' : (pickE st (some P.2) (h :: rest)).1 = st P.2 (pickE st (some P.2) (h :: rest)).2 + lfE st h rest (pickE st (some P.2) (h :: rest)).2 := c4
      rw [eq'] at b6
      rw [e] at hl b6 q4 a1 e1 ⊢
      omega
    have e2' : 0 ≤ ptE g P.2 := by rw [← e]; exact e2
    refine ⟨P.2 :: l, ?_, by simp [i2], ?_, fun ss hs => ?_⟩
    · unfold goE; rw [hP, if_neg (by omega), i1]; rfl
    · rw [e] at hlow; rw [tcE_cons, i3, if_neg (by omega), k7, hlow]; omega
    · cases ss with
      | nil => unfold tcE at hs; omega
      | cons s ss =>
        obtain ⟨m1, m2, m3⟩ := lf_low st (h :: rest) g s ss prev hok hs
        have hu : ¬ (toE st prev s < 0 ∨ ptE g s < 0 ∨ tcE st (some s) (h :: rest) ss < 0) ∧ tcE st prev (g :: h :: rest) (s :: ss) = toE st prev s + ptE g s + tcE st (some s) (h :: rest) ss := by
          rw [tcE_cons] at hs ⊢
          split at hs
          · omega
          · next hh => exact ⟨hh, by rw [if_neg hh]⟩
        obtain ⟨n1, n2, n3⟩ := k2 s (ptE_mem (by omega)) m2 m1
        refine ⟨by omega, fun he => ?_⟩
        have hle := n3 (by omega)
        unfold aheadE
        split
        · next hh =>
          subst hh
          refine (i4 ss (by omega)).2 ?_
          have := (i4 ss (by omega)).1
          rw [e] at hlow
          omega
        · simp; omega
end Go.Proofs.Ythhpgahnhpgmeaa.Ne
