/- Networks: viterbi: the plain law: the picked ones cost the least. -/
/- Networks: few stops and links; new stops. -/
/- Networks: few stops and links; few points. -/
/- Networks: viterbi: a sequence costs what the sum says; bounds. -/
/- A whole array is loaded, or stored, inside a fence. -/
import Derived.Test.YtlfbbahihenilaaGreatMg21
import Derived.Test.YtlfbbahihenilaaGreatMg14
import Derived.Test.YtlfbbahihenilaaGreatMg19
import Derived.Test.YtlfbbahihenilaaGreatMg11
import Derived.Deep.MidRow
namespace Go.Proofs.YtlfbbahihenilaaGreat.Ne
/-! ### What is left to be paid, and the greedy way -/
/-- The least of a step and what is left behind it. -/
def bkBest (st : Int → Int → Int) (a : Int) : List (Pnt × Int) → Int → Int
  | [], b => b
  | (q, v) :: l, b => bkBest st a l (if 0 ≤ st a q.stop ∧ 0 ≤ v then lessE b (st a q.stop + v) else b)
def bkAt (st : Int → Int → Int) (g : List Pnt) (nx : Option (List (Pnt × Int))) (p : Pnt) : Int :=
  let b := match nx with | none => 0 | some l => bkBest st p.stop l (-1)
  if 0 ≤ b then b + (sqE g p.stop).1 else -1
/-- What is left to be paid from each point of the first row on. -/
def bkL (st : Int → Int → Int) : List (List Pnt) → List Int
  | [] => []
  | [g] => g.map (bkAt st g none)
  | g :: h :: rest => g.map (bkAt st g (some (h.zip (bkL st (h :: rest)))))
/-- One point more: the best one yet, and its stop. -/
def pickAt (st : Int → Int → Int) (prev : Option Int) (p : Pnt) (v : Int) (bs : Int × Int) : Int × Int :=
  match prev with
  | none => if 0 ≤ v ∧ (bs.1 < 0 ∨ v < bs.1 ∨ v = bs.1 ∧ p.stop < bs.2) then (v, p.stop) else bs
  | some o => if 0 ≤ v then (if st o p.stop < 0 then bs else if bs.1 < 0 ∨ v + st o p.stop < bs.1 ∨ v + st o p.stop = bs.1 ∧ p.stop < bs.2 then (v + st o p.stop, p.stop) else bs) else bs
def pickG (st : Int → Int → Int) (prev : Option Int) : List (Pnt × Int) → Int × Int → Int × Int
  | [], bs => bs
  | (p, v) :: l, bs => pickG st prev l (pickAt st prev p v bs)
def pickE (st : Int → Int → Int) (prev : Option Int) (gs : List (List Pnt)) : Int × Int := pickG st prev ((gs.headD []).zip (bkL st gs)) (-1, 0)
/-- The stops that are picked; none: there are none. -/
def goE (st : Int → Int → Int) : List (List Pnt) → Option Int → Option (List Int)
  | [], _ => some []
  | g :: gs, prev => if (pickE st prev (g :: gs)).1 < 0 then none else (goE st gs (some (pickE st prev (g :: gs)).2)).map ((pickE st prev (g :: gs)).2 :: ·)

/-! ### Sequences -/
/-- What a sequence costs behind a stop: -1 if it can't be. -/
def toE (st : Int → Int → Int) (prev : Option Int) (s : Int) : Int := match prev with | none => 0 | some o => st o s
def tcE (st : Int → Int → Int) : Option Int → List (List Pnt) → List Int → Int
  | _, [], [] => 0
  | prev, g :: gs, s :: ss => if toE st prev s < 0 ∨ ptE g s < 0 ∨ tcE st (some s) gs ss < 0 then -1 else toE st prev s + ptE g s + tcE st (some s) gs ss
  | _, _, _ => -1
theorem tcE_cons (st : Int → Int → Int) (prev : Option Int) (g : List Pnt) (gs : List (List Pnt)) (s : Int) (ss : List Int) : tcE st prev (g :: gs) (s :: ss) = if toE st prev s < 0 ∨ ptE g s < 0 ∨ tcE st (some s) gs ss < 0 then -1 else toE st prev s + ptE g s + tcE st (some s) gs ss := by
  cases gs <;> rfl
def aheadE : List Int → List Int → Bool
  | x :: xs, y :: ys => if x = y then aheadE xs ys else decide (x < y)
  | _, _ => false

def okRow (g : List Pnt) : Prop := ∀ p ∈ g, 0 ≤ p.sq ∧ p.sq ≤ 1099511627776

theorem sqE_mem : ∀ (g : List Pnt) (s : Int), (sqE g s).2 = true → ∃ p ∈ g, p.stop = s ∧ (sqE g s).1 = p.sq
  | [], s, h => by cases h
  | p :: g, s, h => by
    unfold sqE at h ⊢
    by_cases e : p.stop = s
    · rw [if_pos e]; exact ⟨p, by simp, e, rfl⟩
    · rw [if_neg e] at h ⊢
      obtain ⟨q, h1, h2⟩ := sqE_mem g s h
      exact ⟨q, by simp [h1], h2⟩
theorem sqE_of : ∀ (g : List Pnt) (p : Pnt), p ∈ g → (sqE g p.stop).2 = true
  | q :: g, p, h => by
    unfold sqE
    by_cases e : q.stop = p.stop
    · rw [if_pos e]
    · rw [if_neg e]
      rcases List.mem_cons.1 h with h | h
      · subst h; exact absurd rfl e
      · exact sqE_of g p h
theorem ptE_of {g : List Pnt} (hg : okRow g) {p : Pnt} (hp : p ∈ g) : ptE g p.stop = (sqE g p.stop).1 ∧ 0 ≤ ptE g p.stop := by
  have h1 := sqE_of g p hp
  obtain ⟨q, h2, h3, h4⟩ := sqE_mem g p.stop h1
  have := hg q h2
  have e : ptE g p.stop = (sqE g p.stop).1 := by unfold ptE; rw [if_pos ⟨h1, by omega, by omega⟩]
  exact ⟨e, by omega⟩
theorem ptE_mem {g : List Pnt} {s : Int} (h : 0 ≤ ptE g s) : ∃ p ∈ g, p.stop = s := by
  unfold ptE at h
  split at h
  · next h2 => obtain ⟨p, h3, h4, -⟩ := sqE_mem g s h2.1; exact ⟨p, h3, h4⟩
  · omega

/-- The least of a step and what is left: as low as any, and one's. -/
theorem bkBest_low (st : Int → Int → Int) (a : Int) : ∀ (l : List (Pnt × Int)) (b : Int), -1 ≤ b → -1 ≤ bkBest st a l b ∧ (0 ≤ b → 0 ≤ bkBest st a l b ∧ bkBest st a l b ≤ b) ∧
    (∀ q v, (q, v) ∈ l → 0 ≤ st a q.stop → 0 ≤ v → 0 ≤ bkBest st a l b ∧ bkBest st a l b ≤ st a q.stop + v) ∧
    (0 ≤ bkBest st a l b → bkBest st a l b = b ∨ ∃ q v, (q, v) ∈ l ∧ 0 ≤ st a q.stop ∧ 0 ≤ v ∧ bkBest st a l b = st a q.stop + v)
  | [], b, hb => ⟨hb, (fun h => ⟨h, Int.le_refl _⟩), (fun q v h => nomatch h), (fun _ => .inl rfl)⟩
  | (q, v) :: l, b, hb => by
    unfold bkBest
    by_cases h : 0 ≤ st a q.stop ∧ 0 ≤ v
    · rw [if_pos h]
      have hl : 0 ≤ lessE b (st a q.stop + v) ∧ lessE b (st a q.stop + v) ≤ st a q.stop + v ∧ (0 ≤ b → lessE b (st a q.stop + v) ≤ b) ∧ (lessE b (st a q.stop + v) = b ∨ lessE b (st a q.stop + v) = st a q.stop + v) := by
        unfold lessE; split <;> omega
      obtain ⟨h1, h2, h3, h4⟩ := bkBest_low st a l (lessE b (st a q.stop + v)) (by omega)
      obtain ⟨h5, h6⟩ := h2 hl.1
      refine ⟨h1, fun hb0 => ⟨h5, by have := hl.2.2.1 hb0; omega⟩, fun q' v' hm hs hv => ?_, fun h0 => ?_⟩
      · rcases List.mem_cons.1 hm with e | e
        · cases e; exact ⟨h5, by omega⟩
        · exact h3 q' v' e hs hv
      · rcases h4 h0 with e | ⟨q', v', e1, e2⟩
        · rcases hl.2.2.2 with e' | e'
          · exact .inl (by omega)
          · exact .inr ⟨q, v, by simp, h.1, h.2, by omega⟩
        · exact .inr ⟨q', v', by simp [e1], e2⟩
    · rw [if_neg h]
      obtain ⟨h1, h2, h3, h4⟩ := bkBest_low st a l b hb
      refine ⟨h1, h2, fun q' v' hm hs hv => ?_, fun h0 => ?_⟩
      · rcases List.mem_cons.1 hm with e | e
        · cases e; exact absurd ⟨hs, hv⟩ h
        · exact h3 q' v' e hs hv
      · rcases h4 h0 with e | ⟨q', v', e1, e2⟩
        · exact .inl e
        · exact .inr ⟨q', v', by simp [e1], e2⟩

theorem bkL_len (st : Int → Int → Int) : ∀ gs : List (List Pnt), (bkL st gs).length = (gs.headD []).length
  | [] => rfl
  | [g] => by unfold bkL; simp
  | g :: h :: rest => by unfold bkL; simp
/-- What stands beside a point. -/
theorem bkL_zip (st : Int → Int → Int) (g : List Pnt) (gs : List (List Pnt)) (q : Pnt) (v : Int) : (q, v) ∈ g.zip (bkL st (g :: gs)) ↔ q ∈ g ∧ v = bkAt st g (match gs with | [] => none | h :: rest => some (h.zip (bkL st (h :: rest)))) q := by
  have key : ∀ (f : Pnt → Int) (l : List Pnt), (q, v) ∈ l.zip (l.map f) ↔ q ∈ l ∧ v = f q := by
    intro f l
    induction l with
    | nil => simp
    | cons x l ih =>
      rw [List.map_cons, List.zip_cons_cons, List.mem_cons, List.mem_cons, ih]
      constructor
      · rintro (h | ⟨h1, h2⟩)
        · cases h; exact ⟨.inl rfl, rfl⟩
        · exact ⟨.inr h1, h2⟩
      · rintro ⟨rfl | h1, h2⟩
        · exact .inl (by rw [h2])
        · exact .inr ⟨h1, h2⟩
  cases gs with
  | nil => exact key (bkAt st g none) g
  | cons h rest => exact key (bkAt st g (some (h.zip (bkL st (h :: rest))))) g

/-- What is left to be paid if a stop is the first one. -/
def lfE (st : Int → Int → Int) (g : List Pnt) (gs : List (List Pnt)) (s : Int) : Int := bkAt st g (match gs with | [] => none | h :: rest => some (h.zip (bkL st (h :: rest)))) ⟨s, 0⟩
theorem bkAt_stop (st : Int → Int → Int) (g : List Pnt) (nx : Option (List (Pnt × Int))) (p : Pnt) : bkAt st g nx p = bkAt st g nx ⟨p.stop, 0⟩ := rfl

/-- No sequence costs less. -/
theorem lf_low (st : Int → Int → Int) : ∀ (gs : List (List Pnt)) (g : List Pnt) (s : Int) (ss : List Int) (prev : Option Int), (∀ r ∈ g :: gs, okRow r) → 0 ≤ tcE st prev (g :: gs) (s :: ss) →
    0 ≤ toE st prev s ∧ 0 ≤ lfE st g gs s ∧ toE st prev s + lfE st g gs s ≤ tcE st prev (g :: gs) (s :: ss) := by
  intro gs
  induction gs with
  | nil =>
    intro g s ss prev hok h
    unfold tcE at h ⊢
    split at h
    · omega
    next hh =>
    rw [if_neg hh]
    obtain ⟨p, hp, rfl⟩ := ptE_mem (g := g) (s := s) (by omega)
    obtain ⟨e1, e2⟩ := ptE_of (hok g (by simp)) hp
    have hl : lfE st g [] p.stop = (sqE g p.stop).1 := by
      unfold lfE bkAt; simp
    rw [hl, ← e1]; omega
  | cons h rest ih =>
    intro g s ss prev hok hc
    unfold tcE at hc ⊢
    split at hc
    · omega
    next hh =>
    rw [if_neg hh]
    obtain ⟨p, hp, rfl⟩ := ptE_mem (g := g) (s := s) (by omega)
    obtain ⟨e1, e2⟩ := ptE_of (hok g (by simp)) hp
    cases ss with
    | nil => unfold tcE at hh; omega
    | cons s' ss' =>
      obtain ⟨i1, i2, i3⟩ := ih h s' ss' (some p.stop) (fun r hr => hok r (by simp at hr ⊢; exact .inr hr)) (by omega)
      have hpt : 0 ≤ ptE h s' := by
        have : 0 ≤ tcE st (some p.stop) (h :: rest) (s' :: ss') := by omega
        unfold tcE at this
        split at this
        · omega
        · omega
      obtain ⟨q, hq, rfl⟩ := ptE_mem hpt
      have hz : (q, lfE st h rest q.stop) ∈ h.zip (bkL st (h :: rest)) := (bkL_zip st h rest q _).2 ⟨hq, rfl⟩
      obtain ⟨b1, b2, b3, b4⟩ := bkBest_low st p.stop (h.zip (bkL st (h :: rest))) (-1) (by omega)
      obtain ⟨b5, b6⟩ := b3 q _ hz i1 i2
      have hl : lfE st g (h :: rest) p.stop = bkBest st p.stop (h.zip (bkL st (h :: rest))) (-1) + (sqE g p.stop).1 := by
        unfold lfE bkAt; simp only []; rw [if_pos b5]
      have i3' : st p.stop q.stop + lfE st h rest q.stop ≤ tcE st (some p.stop) (h :: rest) (q.stop :: ss') := i3
      rw [hl, ← e1]; omega

/-- The best one of a row: as low as any; of equal ones the lesser stop; and one's. -/
structure Picked (st : Int → Int → Int) (prev : Option Int) (l : List (Pnt × Int)) (bs0 bs : Int × Int) : Prop where
  no : 0 ≤ bs0.1 → 0 ≤ bs.1 ∧ bs.1 ≤ bs0.1 ∧ (bs.1 = bs0.1 → bs.2 ≤ bs0.2)
  low : ∀ p v, (p, v) ∈ l → 0 ≤ v → 0 ≤ toE st prev p.stop → 0 ≤ bs.1 ∧ bs.1 ≤ toE st prev p.stop + v ∧ (bs.1 = toE st prev p.stop + v → bs.2 ≤ p.stop)
  one : 0 ≤ bs.1 → bs = bs0 ∨ ∃ p v, (p, v) ∈ l ∧ 0 ≤ v ∧ 0 ≤ toE st prev p.stop ∧ bs.1 = toE st prev p.stop + v ∧ bs.2 = p.stop

theorem pickAt_eq (st : Int → Int → Int) (prev : Option Int) (p : Pnt) (v : Int) (bs : Int × Int) :
    pickAt st prev p v bs = if 0 ≤ v ∧ 0 ≤ toE st prev p.stop ∧ (bs.1 < 0 ∨ toE st prev p.stop + v < bs.1 ∨ toE st prev p.stop + v = bs.1 ∧ p.stop < bs.2) then (toE st prev p.stop + v, p.stop) else bs := by
  unfold pickAt toE
  cases prev with
  | none =>
    simp only [Int.zero_add]
    by_cases h : 0 ≤ v ∧ (bs.1 < 0 ∨ v < bs.1 ∨ v = bs.1 ∧ p.stop < bs.2)
    · rw [if_pos h, if_pos ⟨h.1, by omega, h.2⟩]
    · rw [if_neg h, if_neg (fun q => h ⟨q.1, q.2.2⟩)]
  | some o =>
    simp only []
    rw [Int.add_comm v]
    by_cases h0 : 0 ≤ v
    · rw [if_pos h0]
      by_cases h1 : st o p.stop < 0
      · rw [if_pos h1, if_neg (fun q => by omega)]
      · rw [if_neg h1]
        by_cases h2 : bs.1 < 0 ∨ st o p.stop + v < bs.1 ∨ st o p.stop + v = bs.1 ∧ p.stop < bs.2
        · rw [if_pos h2, if_pos ⟨h0, by omega, h2⟩]
        · rw [if_neg h2, if_neg (fun q => h2 q.2.2)]
    · rw [if_neg h0, if_neg (fun q => h0 q.1)]

theorem pickG_ok (st : Int → Int → Int) (prev : Option Int) : ∀ (l : List (Pnt × Int)) (bs : Int × Int), -1 ≤ bs.1 → -1 ≤ (pickG st prev l bs).1 ∧ Picked st prev l bs (pickG st prev l bs)
  | [], bs, h => ⟨h, (fun h => ⟨h, Int.le_refl _, (fun _ => Int.le_refl _)⟩), (fun p v h => nomatch h), (fun _ => .inl rfl)⟩
  | (p, v) :: l, bs, hb => by
    unfold pickG
    rw [pickAt_eq]
    split
    · next h =>
      obtain ⟨h1, h2, h3⟩ := h
      obtain ⟨i1, i2⟩ := pickG_ok st prev l (toE st prev p.stop + v, p.stop) (by show -1 ≤ _ + _; omega)
      obtain ⟨j1, j2, j3⟩ := i2.no (by show 0 ≤ _ + _; omega)
      simp only [] at j2 j3
      refine ⟨i1, fun hb0 => ⟨j1, by omega, fun e => ?_⟩, fun q u hm hu ht => ?_, fun h0 => ?_⟩
      · have := j3 (by omega); omega
      · rcases List.mem_cons.1 hm with e | e
        · cases e; exact ⟨j1, j2, j3⟩
        · exact i2.low q u e hu ht
      · rcases i2.one h0 with e | ⟨q, u, e1, e2⟩
        · exact .inr ⟨p, v, by simp, h1, h2, by rw [e], by rw [e]⟩
        · exact .inr ⟨q, u, by simp [e1], e2⟩
    · next h =>
      obtain ⟨i1, i2⟩ := pickG_ok st prev l bs hb
      refine ⟨i1, i2.no, fun q u hm hu ht => ?_, fun h0 => ?_⟩
      · rcases List.mem_cons.1 hm with e | e
        · cases e
          have hb1 : 0 ≤ bs.1 := by omega
          obtain ⟨j1, j2, j3⟩ := i2.no hb1
          refine ⟨j1, by omega, fun e => ?_⟩
          have := j3 (by omega); omega
        · exact i2.low q u e hu ht
      · rcases i2.one h0 with e | ⟨q, u, e1, e2⟩
        · exact .inl e
        · exact .inr ⟨q, u, by simp [e1], e2⟩

theorem pickE_ok (st : Int → Int → Int) (prev : Option Int) (g : List Pnt) (gs : List (List Pnt)) : -1 ≤ (pickE st prev (g :: gs)).1 ∧
    (∀ s, (∃ p ∈ g, p.stop = s) → 0 ≤ lfE st g gs s → 0 ≤ toE st prev s → 0 ≤ (pickE st prev (g :: gs)).1 ∧ (pickE st prev (g :: gs)).1 ≤ toE st prev s + lfE st g gs s ∧ ((pickE st prev (g :: gs)).1 = toE st prev s + lfE st g gs s → (pickE st prev (g :: gs)).2 ≤ s)) ∧
    (0 ≤ (pickE st prev (g :: gs)).1 → (∃ p ∈ g, p.stop = (pickE st prev (g :: gs)).2) ∧ 0 ≤ lfE st g gs (pickE st prev (g :: gs)).2 ∧ 0 ≤ toE st prev (pickE st prev (g :: gs)).2 ∧ (pickE st prev (g :: gs)).1 = toE st prev (pickE st prev (g :: gs)).2 + lfE st g gs (pickE st prev (g :: gs)).2) := by
  obtain ⟨h1, h2⟩ := pickG_ok st prev (g.zip (bkL st (g :: gs))) (-1, 0) (by simp)
  refine ⟨h1, fun s hs hl ht => ?_, fun h0 => ?_⟩
  · obtain ⟨p, hp, rfl⟩ := hs
    exact h2.low p _ ((bkL_zip st g gs p _).2 ⟨hp, rfl⟩) hl ht
  · rcases h2.one h0 with e | ⟨p, v, hm, hv, ht, e1, e2⟩
    · have : (pickE st prev (g :: gs)).1 = -1 := congrArg Prod.fst e
      omega
    · obtain ⟨m1, m2⟩ := (bkL_zip st g gs p v).1 hm
      have e2' : (pickE st prev (g :: gs)).2 = p.stop := e2
      have m2' : v = lfE st g gs p.stop := m2
      rw [e2']
      exact ⟨⟨p, m1, rfl⟩, by rw [← m2']; exact hv, ht, by rw [← m2']; exact e1⟩

/-- What is left at a stop goes on. -/
theorem lf_next (st : Int → Int → Int) (g h : List Pnt) (rest : List (List Pnt)) (p : Pnt) (hp : p ∈ g) (hg : okRow g) (h0 : 0 ≤ lfE st g (h :: rest) p.stop) :
    ∃ q ∈ h, 0 ≤ st p.stop q.stop ∧ 0 ≤ lfE st h rest q.stop ∧ lfE st g (h :: rest) p.stop = st p.stop q.stop + lfE st h rest q.stop + ptE g p.stop := by
  obtain ⟨b1, b2, b3, b4⟩ := bkBest_low st p.stop (h.zip (bkL st (h :: rest))) (-1) (by omega)
  obtain ⟨e1, e2⟩ := ptE_of hg hp
  have hl : lfE st g (h :: rest) p.stop = if 0 ≤ bkBest st p.stop (h.zip (bkL st (h :: rest))) (-1) then bkBest st p.stop (h.zip (bkL st (h :: rest))) (-1) + (sqE g p.stop).1 else -1 := rfl
  rw [hl] at h0 ⊢
  split at h0
  · next hb =>
    rw [if_pos hb]
    rcases b4 hb with e | ⟨q, v, m, h1, h2, h3⟩
    · omega
    · obtain ⟨m1, m2⟩ := (bkL_zip st h rest q v).1 m
      have m2' : v = lfE st h rest q.stop := m2
      exact ⟨q, m1, h1, by omega, by omega⟩
  · omega

/-- The picked ones: they cost the least, and none that costs as much comes ahead. -/
theorem go_ok (st : Int → Int → Int) : ∀ (gs : List (List Pnt)) (g : List Pnt) (prev : Option Int), (∀ r ∈ g :: gs, okRow r) → 0 ≤ (pickE st prev (g :: gs)).1 →
    ∃ l, goE st (g :: gs) prev = some l ∧ l.length = (g :: gs).length ∧ tcE st prev (g :: gs) l = (pickE st prev (g :: gs)).1 ∧
      ∀ ss, 0 ≤ tcE st prev (g :: gs) ss → (pickE st prev (g :: gs)).1 ≤ tcE st prev (g :: gs) ss ∧ ((pickE st prev (g :: gs)).1 = tcE st prev (g :: gs) ss → aheadE ss l = false) := by
  intro gs
  induction gs with
  | nil =>
    intro g prev hok h0
    obtain ⟨-, k2, k3⟩ := pickE_ok st prev g []
    obtain ⟨⟨p, hp, e⟩, k5, k6, k7⟩ := k3 h0
    obtain ⟨e1, e2⟩ := ptE_of (hok g (by simp)) hp
    have hlf : lfE st g [] p.stop = ptE g p.stop := by rw [e1]; unfold lfE bkAt; simp
    refine ⟨[(pickE st prev [g]).2], ?_, rfl, ?_, fun ss hs => ?_⟩
    · unfold goE; rw [if_neg (by omega)]; rfl
    · unfold tcE
      have : tcE st (some (pickE st prev [g]).2) [] [] = 0 := by unfold tcE; rfl
      rw [this, if_neg (by rw [← e] at k6 ⊢; omega), k7, ← e, hlf]; omega
    · cases ss with
      | nil => unfold tcE at hs; omega
      | cons s ss =>
        obtain ⟨m1, m2, m3⟩ := lf_low st [] g s ss prev hok hs
        have hpt : 0 ≤ ptE g s := by unfold tcE at hs; split at hs <;> omega
        obtain ⟨n1, n2, n3⟩ := k2 s (ptE_mem hpt) m2 m1
        refine ⟨by omega, fun he => ?_⟩
        have := n3 (by omega)
        unfold aheadE
        split
        · next hh =>
          cases ss <;> rfl
        · simp; omega
  | cons h rest ih =>
    intro g prev hok h0
    obtain ⟨-, k2, k3⟩ := pickE_ok st prev g (h :: rest)
    obtain ⟨⟨p, hp, e⟩, k5, k6, k7⟩ := k3 h0
    obtain ⟨P, hP⟩ : ∃ P, (pickE st prev (g :: h :: rest)) = P := ⟨_, rfl⟩
    rw [hP] at h0 k2 k5 k6 k7 e ⊢
    obtain ⟨e1, e2⟩ := ptE_of (hok g (by simp)) hp
    rw [← e] at k5
    obtain ⟨q, q1, q2, q3, q4⟩ := lf_next st g h rest p hp (hok g (by simp)) k5
    obtain ⟨l0, l2, l3⟩ := pickE_ok st (some P.2) h rest
    obtain ⟨l4, l5, -⟩ := l2 q.stop ⟨q, q1, rfl⟩ q3 (by show 0 ≤ st P.2 q.stop; rw [← e]; exact q2)
    obtain ⟨l, i1, i2, i3, i4⟩ := ih h (some P.2) (fun r hr => hok r (by simp at hr ⊢; exact .inr hr)) l4
    have hlow : lfE st g (h :: rest) p.stop = (pickE st (some P.2) (h :: rest)).1 + ptE g p.stop := by
      have a1 : (pickE st (some P.2) (h :: rest)).1 ≤ st p.stop q.stop + lfE st h rest q.stop := by rw [e]; exact l5
      obtain ⟨⟨q', hq', eq'⟩, c2, c3, c4⟩ := l3 l4
      obtain ⟨b1, b2, b3, b4⟩ := bkBest_low st p.stop (h.zip (bkL st (h :: rest))) (-1) (by omega)
      obtain ⟨b5, b6⟩ := b3 q' (lfE st h rest q'.stop) ((bkL_zip st h rest q' _).2 ⟨hq', rfl⟩) (by rw [eq', e]; exact c3) (by rw [eq']; exact c2)
      have hl : lfE st g (h :: rest) p.stop = if 0 ≤ bkBest st p.stop (h.zip (bkL st (h :: rest))) (-1) then bkBest st p.stop (h.zip (bkL st (h :: rest))) (-1) + (sqE g p.stop).1 else -1 := rfl
      rw [if_pos b5] at hl
      have c4' : (pickE st (some P.2) (h :: rest)).1 = st P.2 (pickE st (some P.2) (h :: rest)).2 + lfE st h rest (pickE st (some P.2) (h :: rest)).2 := c4
      rw [eq'] at b6
      rw [e] at hl b6 q4 a1 e1 ⊢
      omega
    have e2' : 0 ≤ ptE g P.2 := by rw [← e]; exact e2
    refine ⟨P.2 :: l, ?_, by simp [i2], ?_, fun ss hs => ?_⟩
    · unfold goE; rw [hP, if_neg (by omega), i1]; rfl
    · rw [e] at hlow; rw [tcE_cons, i3, if_neg (by omega), k7, hlow]; omega
    · cases ss with
      | nil => unfold tcE at hs; omega
      | cons s ss =>
        obtain ⟨m1, m2, m3⟩ := lf_low st (h :: rest) g s ss prev hok hs
        have hu : ¬ (toE st prev s < 0 ∨ ptE g s < 0 ∨ tcE st (some s) (h :: rest) ss < 0) ∧ tcE st prev (g :: h :: rest) (s :: ss) = toE st prev s + ptE g s + tcE st (some s) (h :: rest) ss := by
          rw [tcE_cons] at hs ⊢
          split at hs
          · omega
          · next hh => exact ⟨hh, by rw [if_neg hh]⟩
        obtain ⟨n1, n2, n3⟩ := k2 s (ptE_mem (by omega)) m2 m1
        refine ⟨by omega, fun he => ?_⟩
        have hle := n3 (by omega)
        unfold aheadE
        split
        · next hh =>
          subst hh
          refine (i4 ss (by omega)).2 ?_
          have := (i4 ss (by omega)).1
          rw [e] at hlow
          omega
        · simp; omega
end Go.Proofs.YtlfbbahihenilaaGreat.Ne

namespace Go.Proofs.YtlfbbahihenilaaGreat.Ne
open Go.RowKit Go.V Go.Proofs

set_option maxHeartbeats 400000 in
theorem few_any (n : Net) (hs hl : Hdr) (w : World) : Calls Tryz.prog 7 #[n.val hs hl] w fun e w' => e = .returned (.bool (decide (hs.n ≤ 60 ∧ hl.n ≤ 120))) ∧ Below w.heap.size w w' := by
  obtain ⟨sa, k, sc⟩ := hs
  obtain ⟨la, m, lc⟩ := hl
  have HX := Lib.hid (box_new w (n.box ⟨sa, k, sc⟩ ⟨la, m, lc⟩))
  obtain ⟨c0, c1, c2, -, -, -⟩ := box3_cells HX.out
  have hB : Below w.heap.size w (w.alloc (n.box ⟨sa, k, sc⟩ ⟨la, m, lc⟩)) := (Below.refl _ _).alloc (Nat.le_refl _) _
  by_cases h1 : (k : Int) ≤ 60
  · by_cases h2 : (m : Int) ≤ 120
    · go_enter Tryz.func7, Tryz.ntmps7
      go_wp2
      go_ret
      have e1 : k ≤ 60 := by omega
      have e2 : m ≤ 120 := by omega
      exact ⟨by simp [e1, e2], hB⟩
    · have h3 : decide ((m : Int) ≤ 120) = false := decide_eq_false h2
      go_enter Tryz.func7, Tryz.ntmps7
      go_wp2
      go_ret
      have e2 : ¬ m ≤ 120 := by omega
      exact ⟨by simp [e2], hB⟩
  · have h3 : decide ((k : Int) ≤ 60) = false := decide_eq_false h1
    go_enter Tryz.func7, Tryz.ntmps7
    go_wp2
    go_ret
    have e1 : ¬ k ≤ 60 := by omega
    exact ⟨by simp [e1], hB⟩

theorem infoStp : (Tryz.prog.info? 70).map (fun i => (i.zero, i.size, i.bytes)) = some (some (.agg #[.int .i64 0, .int .i64 0]), 2, 16) := by kernel_rfl
/-- make([]api.Stop, n), n a number. -/
theorem make_stops (n : Nat) (hn : n ≤ 1000) (w : World) : (Instr.makeSlice 22 (.int .i64 (n : Int)) (.int .i64 (n : Int))).run Tryz.prog w = .ok (.slice (some ⟨w.heap.size, 0, none⟩) n n) (w.alloc (.cells (madeCells #[.int .i64 0, .int .i64 0] (n * 2)) 70)) := by
  obtain ⟨i, hi, hz, hs, hb⟩ := info_parts infoStp
  have hr := run_make (P := Tryz.prog) w 22 70 i (.agg #[.int .i64 0, .int .i64 0]) Tryz.underlying22 hi hz .i64 .i64 n n (by omega) (Int.le_refl _) (by rw [hb]; omega) (by omega)
  simp only [Int.toNat_natCast, hs] at hr
  exact hr

end Go.Proofs.YtlfbbahihenilaaGreat.Ne

namespace Go.Proofs.YtlfbbahihenilaaGreat.Ne
open Go.RowKit Go.V Go.Proofs Go.Sort Go.Maps

def fewG (g : List Pnt) : Bool := decide (g.length ≤ 30)
def fewP (gs : List (List Pnt)) : Bool := gs.all fewG && decide (gs.length ≤ 40)
end Go.Proofs.YtlfbbahihenilaaGreat.Ne

namespace Go.Proofs.YtlfbbahihenilaaGreat.Ne
open Go.RowKit Go.V Go.Proofs Go.Sort Go.Maps

theorem getD_drop0 {α : Type} (l : List α) (i : Nat) (d : α) : l.getD i d = (l.drop i).headD d := by
  rw [List.getD_eq_getElem?_getD, List.headD_eq_head?_getD, List.head?_drop]
/-- The sum that goes on is what is behind. -/
theorem sumGo_tc (n : Net) (k : Nat) (x : Wgh) (gs : List (List Pnt)) (ss : List Int) (hl : gs.length = ss.length) : ∀ (c i : Nat) (all : Int), i + c = ss.length → -1 ≤ tcE (stepE n k x) (if i = 0 then none else some (ss.getD (i - 1) 0)) (gs.drop i) (ss.drop i) ∧
    sumGo (costAt n k x gs ss) c i all = if tcE (stepE n k x) (if i = 0 then none else some (ss.getD (i - 1) 0)) (gs.drop i) (ss.drop i) < 0 then -1 else all + tcE (stepE n k x) (if i = 0 then none else some (ss.getD (i - 1) 0)) (gs.drop i) (ss.drop i)
  | 0, i, all, h => by
    have e1 : gs.drop i = [] := List.drop_eq_nil_of_le (by omega)
    have e2 : ss.drop i = [] := List.drop_eq_nil_of_le (by omega)
    rw [e1, e2]
    have : ∀ p, tcE (stepE n k x) p [] [] = 0 := fun p => by unfold tcE; rfl
    rw [this]
    refine ⟨by omega, ?_⟩
    rw [if_neg (by omega)]
    show all = _
    omega
  | c + 1, i, all, h => by
    have h1 : i < ss.length := by omega
    have h2 : i < gs.length := by omega
    have e1 : gs.drop i = gs[i] :: gs.drop (i + 1) := List.drop_eq_getElem_cons h2
    have e2 : ss.drop i = ss[i] :: ss.drop (i + 1) := List.drop_eq_getElem_cons h1
    have g1 : gs.getD i [] = gs[i] := by rw [List.getD_eq_getElem?_getD, List.getElem?_eq_getElem h2]; rfl
    have g2 : ss.getD i 0 = ss[i] := by rw [List.getD_eq_getElem?_getD, List.getElem?_eq_getElem h1]; rfl
    have hw : wayE n k x ss i = toE (stepE n k x) (if i = 0 then none else some (ss.getD (i - 1) 0)) ss[i] := by
      unfold wayE toE
      by_cases h0 : i = 0
      · rw [if_pos h0, if_pos h0]
      · rw [if_neg h0, if_neg h0, g2]
    obtain ⟨i1, i2⟩ := sumGo_tc n k x gs ss hl c (i + 1) (all + costAt n k x gs ss i) (by omega)
    have hp : (if i + 1 = 0 then none else some (ss.getD (i + 1 - 1) 0)) = some ss[i] := by rw [if_neg (by omega), Nat.add_sub_cancel, g2]
    rw [hp] at i1 i2
    rw [e1, e2, tcE_cons]
    have hc : costAt n k x gs ss i = if ptE gs[i] ss[i] < 0 then -1 else if toE (stepE n k x) (if i = 0 then none else some (ss.getD (i - 1) 0)) ss[i] < 0 then -1 else ptE gs[i] ss[i] + toE (stepE n k x) (if i = 0 then none else some (ss.getD (i - 1) 0)) ss[i] := by
      unfold costAt; rw [hw, g1, g2]
    have hs : sumGo (costAt n k x gs ss) (c + 1) i all = if costAt n k x gs ss i < 0 then -1 else sumGo (costAt n k x gs ss) c (i + 1) (all + costAt n k x gs ss i) := rfl
    rw [hs, i2, hc]
    generalize toE (stepE n k x) (if i = 0 then none else some (ss.getD (i - 1) 0)) ss[i] = T at *
    generalize ptE gs[i] ss[i] = U at *
    generalize tcE (stepE n k x) (some ss[i]) (gs.drop (i + 1)) (ss.drop (i + 1)) = V at *
    constructor
    · split <;> omega
    · repeat' split
      all_goals omega
theorem tc_len (st : Int → Int → Int) : ∀ (gs : List (List Pnt)) (ss : List Int) (prev : Option Int), 0 ≤ tcE st prev gs ss → gs.length = ss.length
  | [], [], _, _ => rfl
  | [], s :: ss, _, h => by unfold tcE at h; omega
  | g :: gs, [], _, h => by unfold tcE at h; omega
  | g :: gs, s :: ss, prev, h => by
    rw [tcE_cons] at h
    split at h
    · omega
    · have := tc_len st gs ss (some s) (by omega)
      simp [this]
/-- A sequence's cost in a table. -/
theorem seq_tc (n : Net) (k : Nat) (x : Wgh) (gs : List (List Pnt)) (ss : List Int) (hm : mayW x = true) (h8 : gs.length ≤ 2048) : seqE n k x gs ss = (if tcE (stepE n k x) none gs ss < 0 then -1 else tcE (stepE n k x) none gs ss) := by
  unfold seqE
  by_cases hl : gs.length = ss.length
  · rw [if_pos ⟨hl, h8, hm⟩]
    have := (sumGo_tc n k x gs ss hl ss.length 0 0 (by omega)).2
    rw [if_pos rfl] at this
    rw [this]
    simp
  · rw [if_neg (fun q => hl q.1), if_pos]
    apply Int.not_le.1
    intro h
    exact hl (tc_len _ _ _ _ h)
/-- What is left is no more than so much. -/
theorem bkL_in (st : Int → Int → Int) (M : Int) (hM : 0 ≤ M) (hst : ∀ a b, st a b ≤ M) : ∀ gs : List (List Pnt), (∀ r ∈ gs, okRow r) → ∀ v ∈ bkL st gs, -1 ≤ v ∧ v ≤ gs.length * (M + 1099511627776)
  | [], _, v, h => by cases h
  | [g], hok, v, h => by
    obtain ⟨p, hp, rfl⟩ := List.mem_map.1 (show v ∈ g.map (bkAt st g none) from h)
    obtain ⟨q, hq, -, e⟩ := sqE_mem g p.stop (sqE_of g p hp)
    have := hok g (by simp) q hq
    have e2 : bkAt st g none p = (sqE g p.stop).1 := by unfold bkAt; simp
    rw [e2, e]
    simp only [List.length_singleton]
    omega
  | g :: h :: rest, hok, v, hv => by
    obtain ⟨p, hp, rfl⟩ := List.mem_map.1 (show v ∈ g.map (bkAt st g (some (h.zip (bkL st (h :: rest))))) from hv)
    obtain ⟨q, hq, -, e⟩ := sqE_mem g p.stop (sqE_of g p hp)
    have h1 := hok g (by simp) q hq
    have ih := bkL_in st M hM hst (h :: rest) (fun r hr => hok r (by simp at hr ⊢; exact .inr hr))
    obtain ⟨b1, b2, b3, b4⟩ := bkBest_low st p.stop (h.zip (bkL st (h :: rest))) (-1) (by omega)
    have e2 : bkAt st g (some (h.zip (bkL st (h :: rest)))) p = if 0 ≤ bkBest st p.stop (h.zip (bkL st (h :: rest))) (-1) then bkBest st p.stop (h.zip (bkL st (h :: rest))) (-1) + (sqE g p.stop).1 else -1 := rfl
    have hlen : ((g :: h :: rest).length : Int) * (M + 1099511627776) = (h :: rest).length * (M + 1099511627776) + (M + 1099511627776) := by
      rw [show (g :: h :: rest).length = (h :: rest).length + 1 from rfl, Int.natCast_add, Int.add_mul]; simp
    rw [e2, hlen, e]
    have hpos : 0 ≤ ((h :: rest).length : Int) * (M + 1099511627776) := Int.mul_nonneg (by omega) (by omega)
    split
    · next hb =>
      rcases b4 hb with e3 | ⟨q', v', m, m1, m2, m3⟩
      · omega
      · have := ih v' (List.of_mem_zip m).2
        have := hst p.stop q'.stop
        omega
    · omega
end Go.Proofs.YtlfbbahihenilaaGreat.Ne

namespace Go.V
open Go.RowKit Go

theorem wpListIn_load_mid {F : Fence} {n : Nat} {P : Program} {ops : Array Oper} {rest : List Oper} {op : Oper} {a : Act} {w : World} {Q : Exit → Act → World → Prop} (hgd : op.guard = none) (ty : TypeId) (x : Operand) (ho : op.op = .load ty x)
    (b o : Nat) (hx : a.eval x = .pointer (some ⟨b, o, none⟩)) (cs : List Value) (d : TypeDesc) (hc : w.rangeAt b o cs)
    (hu : P.underlying ty = some d) (hd : d.isRow = true) (hi : (P.info? ty).map (·.size) = some cs.length)
    (h : wpListIn F n P ops Q rest (a.put op.dst (.agg cs.toArray)) w) : wpListIn F n P ops Q (op :: rest) a w := by
  refine wpListIn_plain hgd fun K hK' => ?_
  unfold Oper.wpIn
  refine ⟨?_, ?_⟩
  · simp [Oper.about, ho]
  · rw [Oper.semAt_plain F _ _ (by rw [ho]; intro c hc'; cases hc')]
    simp only [execOp, ho, hx, Instr.loadAt, Instr.sureAddr, Sem.run_bind, Sem.run_pure, Result.andThen_ok, run_loadVar_mid w b o ty cs d hc hu hd hi]
    exact hK' _ _ h
theorem wpListIn_store_mid {F : Fence} {n : Nat} {P : Program} {ops : Array Oper} {rest : List Oper} {op : Oper} {a : Act} {w : World} {Q : Exit → Act → World → Prop} (hgd : op.guard = none) (ty : TypeId) (x y : Operand) (ho : op.op = .store ty x y)
    (b o : Nat) (cells : Array Value) (hx : a.eval x = .pointer (some ⟨b, o, none⟩)) (hy : a.eval y = .agg cells)
    (ht : w.there b o cells.size) (hi : (P.info? ty).map (·.size) = some cells.size) (h1 : cells.all (·.oneCell') = true)
    (h : wpListIn F n P ops Q rest (a.put op.dst undef) (w.setCells b o cells.toList)) : wpListIn F n P ops Q (op :: rest) a w := by
  refine wpListIn_plain hgd fun K hK' => ?_
  unfold Oper.wpIn
  refine ⟨?_, ?_⟩
  · simp [Oper.about, ho]
  · rw [Oper.semAt_plain F _ _ (by rw [ho]; intro c hc'; cases hc')]
    simp only [execOp, ho, hx, hy, Instr.storeAt, Instr.sureAddr, Sem.run_bind, Sem.run_pure, Result.andThen_ok, run_storeVar_mid w b o ty cells ht hi h1]
    exact hK' _ _ h

/-- A block of one's own, put anew from its begin on. -/
theorem setCells_block {w : World} {b : Nat} {C : Array Value} {t : TypeId} (hb : w.heap[b]? = some (.cells C t (0, 0))) : ∀ (vs : List Value), vs.length = C.size → (w.setCells b 0 vs).heap[b]? = some (.cells vs.toArray t (0, 0)) := by
  have key : ∀ (vs : List Value) (o : Nat) (w : World) (C : Array Value), w.heap[b]? = some (.cells C t (0, 0)) → o + vs.length = C.size → ∃ D : Array Value, (w.setCells b o vs).heap[b]? = some (.cells D t (0, 0)) ∧ D.size = C.size ∧ (∀ j, j < o → D[j]? = C[j]?) ∧ ∀ j v, vs[j]? = some v → D[o + j]? = some v := by
    intro vs
    induction vs with
    | nil => intro o w C h hl; exact ⟨C, h, rfl, fun _ _ => rfl, fun j v hv => by simp at hv⟩
    | cons x vs ih =>
      intro o w C h hl
      have h1 : (w.setCell ⟨b, o, none⟩ x).heap[b]? = some (.cells (C.setIfInBounds o x) t (0, 0)) := heap_setCell_same w b o C t x h
      obtain ⟨D, d1, d2, d3, d4⟩ := ih (o + 1) _ _ h1 (by simp at hl ⊢; omega)
      refine ⟨D, d1, by rw [d2]; simp, fun j hj => ?_, fun j v hv => ?_⟩
      · rw [d3 j (by omega), Array.getElem?_setIfInBounds_ne (by omega)]
      · cases j with
        | zero =>
          simp at hv; subst hv
          rw [Nat.add_zero, d3 o (by omega), Array.getElem?_setIfInBounds_self_of_lt (by simp at hl; omega)]
        | succ j =>
          have := d4 j v (by simpa using hv)
          rw [show o + (j + 1) = o + 1 + j by omega]; exact this
  intro vs hl
  obtain ⟨D, d1, d2, -, d4⟩ := key vs 0 w C hb (by omega)
  rw [d1]
  congr 2
  apply Array.ext_getElem?
  intro j
  by_cases hj : j < vs.length
  · have := d4 j vs[j] (List.getElem?_eq_getElem hj)
    rw [Nat.zero_add] at this
    rw [this]; simp [hj]
  · rw [Array.getElem?_eq_none (by omega)]
    symm; rw [Array.getElem?_eq_none (by simp; omega)]
theorem setCells_other {b k : Nat} (h : k ≠ b) : ∀ (vs : List Value) (o : Nat) (w : World), (w.setCells b o vs).heap[k]? = w.heap[k]?
  | [], _, _ => rfl
  | x :: vs, o, w => (setCells_other h vs (o + 1) (w.setCell ⟨b, o, none⟩ x)).trans (heap_setCell_other w ⟨b, o, none⟩ k x h)
theorem setCells_rest (b : Nat) : ∀ (vs : List Value) (o : Nat) (w : World), (w.setCells b o vs).os = w.os ∧ (w.setCells b o vs).tape = w.tape ∧ (w.setCells b o vs).output = w.output ∧ (w.setCells b o vs).heap.size = w.heap.size
  | [], _, _ => ⟨rfl, rfl, rfl, rfl⟩
  | x :: vs, o, w => by
    have h := setCells_rest b vs (o + 1) (w.setCell ⟨b, o, none⟩ x)
    exact ⟨h.1, h.2.1, h.2.2.1, h.2.2.2.trans (by simp)⟩
end Go.V
