/- Networks: viterbi: all sequences gone through, and what the iterator tells: the same best one, and the same that is left to be paid: plain. -/
/- Networks: viterbi: all sequences, by definition: walked. -/
import Derived.Test.YtlfbbahihenilaaGreatMg23
import Derived.Test.YtlfbbahihenilaaGreatMg00
import Derived.Test.YtlfbbahihenilaaGreatMg19
namespace Go.Proofs.YtlfbbahihenilaaGreat.Ne
/-! ### All sequences -/
/-- Each sequence with each point's stop behind it. -/
def extE (out : List (List Int)) (g : List Pnt) : List (List Int) := out.flatMap fun s => g.map fun p => s ++ [p.stop]
def allE : List (List Int) → List (List Pnt) → List (List Int)
  | out, [] => out
  | out, g :: gs => allE (extE out g) gs
/-- Behind a start: a stop of each row. -/
def isSeq : List (List Pnt) → List Int → Prop
  | [], [] => True
  | g :: gs, s :: ss => (∃ p ∈ g, p.stop = s) ∧ isSeq gs ss
  | _, _ => False
theorem ext_mem (out : List (List Int)) (g : List Pnt) (ss : List Int) : ss ∈ extE out g ↔ ∃ s ∈ out, ∃ p ∈ g, ss = s ++ [p.stop] := by
  unfold extE
  rw [List.mem_flatMap]
  constructor
  · rintro ⟨s, hs, h⟩
    obtain ⟨p, hp, rfl⟩ := List.mem_map.1 h
    exact ⟨s, hs, p, hp, rfl⟩
  · rintro ⟨s, hs, p, hp, rfl⟩
    exact ⟨s, hs, List.mem_map.2 ⟨p, hp, rfl⟩⟩
theorem all_mem : ∀ (gs : List (List Pnt)) (out : List (List Int)) (ss : List Int), ss ∈ allE out gs ↔ ∃ a ∈ out, ∃ b, isSeq gs b ∧ ss = a ++ b
  | [], out, ss => by
    unfold allE
    constructor
    · intro h; exact ⟨ss, h, [], trivial, by simp⟩
    · rintro ⟨a, ha, b, hb, rfl⟩
      cases b with
      | nil => simpa using ha
      | cons x b => exact absurd hb (by simp [isSeq])
  | g :: gs, out, ss => by
    unfold allE
    rw [all_mem gs]
    constructor
    · rintro ⟨a, ha, b, hb, rfl⟩
      obtain ⟨s, hs, p, hp, rfl⟩ := (ext_mem out g a).1 ha
      exact ⟨s, hs, p.stop :: b, ⟨⟨p, hp, rfl⟩, hb⟩, by simp⟩
    · rintro ⟨a, ha, b, hb, rfl⟩
      cases b with
      | nil => exact absurd hb (by simp [isSeq])
      | cons x b =>
        obtain ⟨⟨p, hp, rfl⟩, h2⟩ := hb
        exact ⟨a ++ [p.stop], (ext_mem out g _).2 ⟨a, ha, p, hp, rfl⟩, b, h2, by simp⟩
theorem all_seq (gs : List (List Pnt)) (ss : List Int) : ss ∈ allE [[]] gs ↔ isSeq gs ss := by
  rw [all_mem]
  constructor
  · rintro ⟨a, ha, b, hb, rfl⟩
    simp at ha; subst ha; simpa using hb
  · intro h; exact ⟨[], by simp, ss, h, by simp⟩
theorem isSeq_len : ∀ (gs : List (List Pnt)) (ss : List Int), isSeq gs ss → ss.length = gs.length
  | [], [], _ => rfl
  | [], s :: ss, h => by simp [isSeq] at h
  | g :: gs, [], h => by simp [isSeq] at h
  | g :: gs, s :: ss, h => by simp [isSeq_len gs ss h.2]
theorem tc_seq (st : Int → Int → Int) : ∀ (gs : List (List Pnt)) (ss : List Int) (prev : Option Int), 0 ≤ tcE st prev gs ss → isSeq gs ss
  | [], [], _, _ => trivial
  | [], s :: ss, _, h => by unfold tcE at h; omega
  | g :: gs, [], _, h => by unfold tcE at h; omega
  | g :: gs, s :: ss, prev, h => by
    rw [tcE_cons] at h
    split at h
    · omega
    · next hh => exact ⟨ptE_mem (by omega), tc_seq st gs ss (some s) (by omega)⟩
theorem ext_len (out : List (List Int)) (g : List Pnt) : (extE out g).length = out.length * g.length := by
  unfold extE
  induction out with
  | nil => simp
  | cons s out ih => rw [List.flatMap_cons, List.length_append, ih, List.length_map, List.length_cons, Nat.succ_mul, Nat.add_comm]
/-- How many there are, up to a limit: as it is told. -/
def countGo (most : Nat) : List (List Pnt) → Nat → Nat
  | [], n => n
  | g :: gs, n => if most < n * g.length then n * g.length else countGo most gs (n * g.length)
/-- No sequence is longer, and there are no more of them on the way. -/
theorem count_ok (most : Nat) : ∀ (gs : List (List Pnt)) (out : List (List Int)), countGo most gs out.length ≤ most → ∀ i, 0 < i → i ≤ gs.length → (allE out (gs.take i)).length ≤ most
  | [], out, _, i, h0, hi => by simp at hi; omega
  | g :: gs, out, h, i, h0, hi => by
    unfold countGo at h
    split at h
    · next hh => omega
    next hh =>
    obtain ⟨j, rfl⟩ : ∃ j, i = j + 1 := ⟨i - 1, by omega⟩
    rw [List.take_succ_cons]
    unfold allE
    by_cases hj : j = 0
    · subst hj
      rw [List.take_zero]; unfold allE
      rw [ext_len]; omega
    · exact count_ok most gs (extE out g) (by rw [ext_len]; exact h) j (by omega) (by simp at hi; omega)
theorem all_snoc : ∀ (gs : List (List Pnt)) (g : List Pnt) (out : List (List Int)), allE out (gs ++ [g]) = extE (allE out gs) g
  | [], _, _ => rfl
  | h :: gs, g, out => all_snoc gs g (extE out h)

/-! ### The best one of all -/
def bestAt (c : List Int → Int) (s : List Int) (o : List Int × Int) : List Int × Int := if 0 ≤ c s ∧ (o.2 < 0 ∨ c s < o.2 ∨ c s = o.2 ∧ aheadE s o.1 = true) then (s, c s) else o
def bestGo (c : List Int → Int) : List (List Int) → List Int × Int → List Int × Int
  | [], o => o
  | s :: l, o => bestGo c l (bestAt c s o)
theorem ahead_tri : ∀ (a b : List Int), a.length = b.length → a ≠ b → aheadE a b = false → aheadE b a = true
  | [], [], _, h, _ => absurd rfl h
  | x :: xs, [], h, _, _ => by simp at h
  | [], y :: ys, h, _, _ => by simp at h
  | x :: xs, y :: ys, hl, hne, h => by
    rw [ahead_cons] at h ⊢
    by_cases e : x = y
    · subst e
      rw [if_pos rfl] at h ⊢
      exact ahead_tri xs ys (by simpa using hl) (fun q => hne (by rw [q])) h
    · rw [if_neg e] at h
      rw [if_neg (fun q => e q.symm)]
      have := of_decide_eq_false h
      exact decide_eq_true (by omega)
theorem best_none (c : List Int → Int) : ∀ (l : List (List Int)), (∀ s ∈ l, c s < 0) → ∀ o, bestGo c l o = o
  | [], _, o => rfl
  | s :: l, h, o => by
    unfold bestGo bestAt
    rw [if_neg (fun q => by have := h s (by simp); omega)]
    exact best_none c l (fun x hx => h x (by simp [hx])) o
/-- The one that none costs less than, and none that costs as much comes ahead of, is found. -/
theorem best_stay (c : List Int → Int) (b : List Int) (C : Int) (h0 : 0 ≤ C) (hc : c b = C) : ∀ (l : List (List Int)), (∀ s ∈ l, c s < 0 ∨ C < c s ∨ C = c s ∧ aheadE s b = false) → bestGo c l (b, C) = (b, C)
  | [], _ => rfl
  | s :: l, h => by
    unfold bestGo
    have e : bestAt c s (b, C) = (b, C) := by
      unfold bestAt
      rw [if_neg]
      rintro ⟨h1, h2⟩
      rcases h s (by simp) with q | q | ⟨q1, q2⟩
      · omega
      · simp only [] at h2; omega
      · simp only [] at h2
        rcases h2 with h2 | h2 | ⟨-, h2⟩
        · omega
        · omega
        · rw [q2] at h2; cases h2
    rw [e]
    exact best_stay c b C h0 hc l (fun x hx => h x (by simp [hx]))
theorem best_find (c : List Int → Int) (b : List Int) (C : Int) (h0 : 0 ≤ C) (hc : c b = C) (m : Nat) (hb : b.length = m) : ∀ (l : List (List Int)), b ∈ l → (∀ s ∈ l, s.length = m ∧ (c s < 0 ∨ C < c s ∨ C = c s ∧ aheadE s b = false)) →
    ∀ o : List Int × Int, o.2 < 0 ∨ o.1.length = m ∧ c o.1 = o.2 ∧ (C < o.2 ∨ C = o.2 ∧ aheadE o.1 b = false) → bestGo c l o = (b, C)
  | s :: l, hm, h, o, ho => by
    unfold bestGo
    by_cases e : s = b
    · subst e
      have e2 : bestAt c s o = (s, C) := by
        unfold bestAt
        rw [hc]
        split
        · rfl
        · next hh =>
          have hh : ¬ (o.2 < 0 ∨ C < o.2 ∨ C = o.2 ∧ aheadE s o.1 = true) := fun q => hh ⟨h0, q⟩
          rcases ho with q | ⟨q1, q2, q | ⟨q, q3⟩⟩
          · exact absurd (.inl q) hh
          · exact absurd (.inr (.inl q)) hh
          · by_cases e3 : o.1 = s
            · cases o; simp at e3 q ⊢; exact ⟨e3, q.symm⟩
            · have := ahead_tri o.1 s (by rw [q1, hb]) e3 q3
              exact absurd (.inr (.inr ⟨q, this⟩)) hh
      rw [e2]
      exact best_stay c s C h0 hc l (fun x hx => (h x (by simp [hx])).2)
    · have hm2 : b ∈ l := by rcases List.mem_cons.1 hm with q | q; exact absurd q.symm e; exact q
      refine best_find c b C h0 hc m hb l hm2 (fun x hx => h x (by simp [hx])) _ ?_
      unfold bestAt
      split
      · next hh =>
        obtain ⟨k1, k2⟩ := h s (by simp)
        refine .inr ⟨k1, rfl, ?_⟩
        rcases k2 with q | q | q
        · omega
        · exact .inl q
        · exact .inr q
      · exact ho

/-! ### What is left from each point -/
def leastAt (c : List Int → Int) (s0 : Int) (s : List Int) (b : Int) : Int := if s.headD 0 = s0 ∧ 0 ≤ c s ∧ (b < 0 ∨ c s < b) then c s else b
def leastGo (c : List Int → Int) (s0 : Int) : List (List Int) → Int → Int
  | [], b => b
  | s :: l, b => leastGo c s0 l (leastAt c s0 s b)
theorem least_ok (c : List Int → Int) (s0 : Int) : ∀ (l : List (List Int)) (b : Int), -1 ≤ b → -1 ≤ leastGo c s0 l b ∧ (0 ≤ b → 0 ≤ leastGo c s0 l b ∧ leastGo c s0 l b ≤ b) ∧
    (∀ s ∈ l, s.headD 0 = s0 → 0 ≤ c s → 0 ≤ leastGo c s0 l b ∧ leastGo c s0 l b ≤ c s) ∧ (0 ≤ leastGo c s0 l b → leastGo c s0 l b = b ∨ ∃ s ∈ l, s.headD 0 = s0 ∧ leastGo c s0 l b = c s)
  | [], b, hb => ⟨hb, (fun h => ⟨h, Int.le_refl _⟩), (fun s h => nomatch h), (fun _ => .inl rfl)⟩
  | s :: l, b, hb => by
    unfold leastGo
    have hl : -1 ≤ leastAt c s0 s b ∧ (0 ≤ b → 0 ≤ leastAt c s0 s b ∧ leastAt c s0 s b ≤ b) ∧ (s.headD 0 = s0 → 0 ≤ c s → 0 ≤ leastAt c s0 s b ∧ leastAt c s0 s b ≤ c s) ∧ (leastAt c s0 s b = b ∨ s.headD 0 = s0 ∧ leastAt c s0 s b = c s) := by
      unfold leastAt
      split
      · next h => exact ⟨by omega, fun _ => by omega, fun _ _ => by omega, .inr ⟨h.1, rfl⟩⟩
      · next h => exact ⟨hb, fun h0 => ⟨h0, Int.le_refl _⟩, fun q1 q2 => by omega, .inl rfl⟩
    obtain ⟨l1, l2, l3, l4⟩ := hl
    obtain ⟨i1, i2, i3, i4⟩ := least_ok c s0 l (leastAt c s0 s b) l1
    refine ⟨i1, fun h0 => ?_, fun x hx e1 e2 => ?_, fun h0 => ?_⟩
    · have := l2 h0; have := i2 this.1; omega
    · rcases List.mem_cons.1 hx with q | q
      · subst q
        have := l3 e1 e2; have := i2 this.1; omega
      · exact i3 x q e1 e2
    · rcases i4 h0 with q | ⟨x, hx, e1, e2⟩
      · rcases l4 with r | ⟨r1, r2⟩
        · exact .inl (by omega)
        · exact .inr ⟨s, by simp, r1, by omega⟩
      · exact .inr ⟨x, by simp [hx], e1, e2⟩

/-- A sequence that costs what is left. -/
theorem lf_wit (st : Int → Int → Int) : ∀ (gs : List (List Pnt)) (g : List Pnt) (s : Int) (prev : Option Int), (∀ r ∈ g :: gs, okRow r) → (∃ p ∈ g, p.stop = s) → 0 ≤ toE st prev s → 0 ≤ lfE st g gs s →
    ∃ ss, tcE st prev (g :: gs) (s :: ss) = toE st prev s + lfE st g gs s
  | [], g, s, prev, hok, hs, ht, hl => by
    obtain ⟨p, hp, rfl⟩ := hs
    obtain ⟨e1, e2⟩ := ptE_of (hok g (by simp)) hp
    have hl2 : lfE st g [] p.stop = (sqE g p.stop).1 := by unfold lfE bkAt; simp
    refine ⟨[], ?_⟩
    rw [tcE_cons]
    have e3 : tcE st (some p.stop) [] [] = 0 := rfl
    rw [e3, if_neg (by omega), hl2, ← e1]
    omega
  | h :: rest, g, s, prev, hok, hs, ht, hl => by
    obtain ⟨p, hp, rfl⟩ := hs
    obtain ⟨e1, e2⟩ := ptE_of (hok g (by simp)) hp
    obtain ⟨q, hq, n1, n2, n3⟩ := lf_next st g h rest p hp (hok g (by simp)) hl
    obtain ⟨ss, hss⟩ := lf_wit st rest h q.stop (some p.stop) (fun r hr => hok r (by simp at hr ⊢; exact .inr hr)) ⟨q, hq, rfl⟩ n1 n2
    have hto : toE st (some p.stop) q.stop = st p.stop q.stop := rfl
    rw [hto] at hss
    refine ⟨q.stop :: ss, ?_⟩
    rw [tcE_cons, hss, if_neg (by omega)]
    omega
theorem bkAt_neg {st : Int → Int → Int} {g : List Pnt} {nx : Option (List (Pnt × Int))} {p : Pnt} (hg : okRow g) (hp : p ∈ g) (h : ¬ 0 ≤ bkAt st g nx ⟨p.stop, 0⟩) : bkAt st g nx ⟨p.stop, 0⟩ = -1 := by
  have := ptE_of hg hp
  have e : ∃ b, bkAt st g nx ⟨p.stop, 0⟩ = if 0 ≤ b then b + (sqE g p.stop).1 else -1 := ⟨_, rfl⟩
  obtain ⟨b, e⟩ := e
  rw [e] at h ⊢
  split
  · next hb => rw [if_pos hb] at h; omega
  · rfl
/-- What is left from a point on is the least of all sequences that begin there. -/
theorem least_eq (st : Int → Int → Int) (g : List Pnt) (gs : List (List Pnt)) (hok : ∀ r ∈ g :: gs, okRow r) (c : List Int → Int) (hc : ∀ ss, c ss = if tcE st none (g :: gs) ss < 0 then -1 else tcE st none (g :: gs) ss) (p : Pnt) (hp : p ∈ g) :
    leastGo c p.stop (allE [[]] (g :: gs)) (-1) = lfE st g gs p.stop := by
  obtain ⟨l1, -, l3, l4⟩ := least_ok c p.stop (allE [[]] (g :: gs)) (-1) (by omega)
  by_cases hv : 0 ≤ lfE st g gs p.stop
  · obtain ⟨ss, hss⟩ := lf_wit st gs g p.stop none hok ⟨p, hp, rfl⟩ (by show (0 : Int) ≤ 0; omega) hv
    have hto : toE st none p.stop = 0 := rfl
    rw [hto] at hss
    have hcs : c (p.stop :: ss) = lfE st g gs p.stop := by rw [hc, hss, if_neg (by omega)]; omega
    have hm : (p.stop :: ss) ∈ allE [[]] (g :: gs) := (all_seq _ _).2 (tc_seq st _ _ none (by omega))
    obtain ⟨m1, m2⟩ := l3 _ hm rfl (by omega)
    rcases l4 m1 with q | ⟨x, hx, e1, e2⟩
    · omega
    · cases x with
      | nil => have := isSeq_len _ _ ((all_seq _ _).1 hx); simp at this
      | cons y ys =>
        simp at e1; subst e1
        have h0 : 0 ≤ tcE st none (g :: gs) (p.stop :: ys) := by
          apply Int.not_lt.1
          intro hh
          rw [hc, if_pos hh] at e2; omega
        obtain ⟨-, k2, k3⟩ := lf_low st gs g p.stop ys none hok h0
        have hto : toE st none p.stop = 0 := rfl
        rw [hc, if_neg (by omega)] at e2
        omega
  · have hlf : lfE st g gs p.stop = -1 := bkAt_neg (hok g (by simp)) hp hv
    rw [hlf]
    by_cases h0 : 0 ≤ leastGo c p.stop (allE [[]] (g :: gs)) (-1)
    · exfalso
      rcases l4 h0 with q | ⟨x, hx, e1, e2⟩
      · omega
      · cases x with
        | nil => have := isSeq_len _ _ ((all_seq _ _).1 hx); simp at this
        | cons y ys =>
          simp at e1; subst e1
          have h0 : 0 ≤ tcE st none (g :: gs) (p.stop :: ys) := by
            apply Int.not_lt.1
            intro hh
            rw [hc, if_pos hh] at e2; omega
          obtain ⟨-, k2, k3⟩ := lf_low st gs g p.stop ys none hok h0
          omega
    · omega
/-- All of a row's. -/
def leastL (c : List Int → Int) (gs : List (List Pnt)) (g : List Pnt) : List Int := g.map fun p => leastGo c p.stop (allE [[]] gs) (-1)
theorem leastL_eq (st : Int → Int → Int) (g : List Pnt) (gs : List (List Pnt)) (hok : ∀ r ∈ g :: gs, okRow r) (c : List Int → Int) (hc : ∀ ss, c ss = if tcE st none (g :: gs) ss < 0 then -1 else tcE st none (g :: gs) ss) :
    leastL c (g :: gs) g = bkL st (g :: gs) := by
  have e : ∃ nx, bkL st (g :: gs) = g.map (bkAt st g nx) ∧ ∀ p : Pnt, lfE st g gs p.stop = bkAt st g nx p := by
    cases gs
    · exact ⟨none, rfl, fun _ => rfl⟩
    · exact ⟨some _, rfl, fun _ => rfl⟩
  obtain ⟨nx, e1, e2⟩ := e
  rw [e1]
  exact List.map_congr_left fun p hp => (least_eq st g gs hok c hc p hp).trans (e2 p)
/-- The best of all is the one that is picked. -/
theorem bestGo_eq {n : Net} {k : Nat} {x : Wgh} {gs : List (List Pnt)} (hv : vmayE x gs = 0) :
    (goE (stepE n k x) gs none = none → bestGo (seqE n k x gs) (allE [[]] gs) ([], -1) = ([], -1)) ∧
    (∀ l, goE (stepE n k x) gs none = some l → bestGo (seqE n k x gs) (allE [[]] gs) ([], -1) = (l, (pickE (stepE n k x) none gs).1) ∧ 0 ≤ (pickE (stepE n k x) none gs).1) := by
  obtain ⟨b1, b2⟩ := best_seq (n := n) (k := k) hv
  obtain ⟨o1, o2, o3, o4⟩ := vmay_ok hv
  refine ⟨fun h => best_none _ _ (fun s _ => by rw [b1 h s]; omega) _, fun l h => ?_⟩
  obtain ⟨c1, c2, c3, c4⟩ := b2 l h
  refine ⟨best_find _ l _ c3 c2 gs.length c1 _ ?_ (fun s hs => ⟨isSeq_len _ _ ((all_seq _ _).1 hs), c4 s⟩) _ (.inl (by simp)), c3⟩
  have h0 : 0 ≤ tcE (stepE n k x) none gs l := by
    rw [seq_tc n k x gs l o1 o2] at c2
    apply Int.not_lt.1
    intro hh
    rw [if_pos hh] at c2; omega
  exact (all_seq _ _).2 (tc_seq _ _ _ none h0)
end Go.Proofs.YtlfbbahihenilaaGreat.Ne

namespace Go.V
open Go.RowKit
/-- Rows that a call made, in a row that it made. -/
structure OwnL {α : Type} (e1 e2 : TypeId) (c : Cod α) (base : Nat) (w : World) (v : Value) (hs : List Hdr) (gs : List (List α)) : Prop where
  own : Own e2 Hdr.cod base w v hs
  len : hs.length = gs.length
  each : ∀ (i : Nat) (h : Hdr) (g : List α), hs[i]? = some h → gs[i]? = some g → Own e1 c base w h.val g
section
variable {α : Type} {e1 e2 : TypeId} {c : Cod α} {base : Nat} {w : World} {v : Value} {hs : List Hdr} {gs : List (List α)}
theorem OwnL.nil : OwnL e1 e2 c base w (.slice none 0 0) [] [] := ⟨Own.nil, rfl, (fun i h g h1 => by simp at h1)⟩
theorem OwnL.below (h : OwnL e1 e2 c base w v hs gs) {w' : World} (hb : Below w.heap.size w w') : OwnL e1 e2 c base w' v hs gs :=
  ⟨h.own.below hb, h.len, fun i hh g h1 h2 => (h.each i hh g h1 h2).below hb⟩
theorem OwnL.lower (h : OwnL e1 e2 c base w v hs gs) {base' : Nat} (hb : base' ≤ base) : OwnL e1 e2 c base' w v hs gs :=
  ⟨h.own.lower hb, h.len, fun i hh g h1 h2 => (h.each i hh g h1 h2).lower hb⟩
theorem OwnL.sls (h : OwnL e1 e2 c base w v hs gs) : ∃ a cap, v = .slice a gs.length cap ∧ Sls c w a gs.length cap hs gs := by
  obtain ⟨a, cap, h1, h2, -⟩ := h.own.slice
  rw [h.len] at h1 h2
  refine ⟨a, cap, h1, h2, h.len, fun i hh g g1 g2 => ?_⟩
  obtain ⟨a', cap', e', hs', -⟩ := (h.each i hh g g1 g2).slice
  obtain ⟨x, y, z⟩ := hh
  simp only [Hdr.val, Value.slice.injEq] at e'
  obtain ⟨rfl, rfl, rfl⟩ := e'
  exact hs'
theorem OwnL.push (hne : e1 ≠ e2) (h : OwnL e1 e2 c base w v hs gs) {w' : World} {v' : Value} {hh : Hdr} {g : List α} (ho : Own e1 c base w hh.val g) (hgr : w.grownBy w' v.ownBlock) (hv : Own e2 Hdr.cod base w' v' (hs ++ [hh])) :
    OwnL e1 e2 c base w' v' (hs ++ [hh]) (gs ++ [g]) := by
  refine ⟨hv, by simp [h.len], fun i x y h1 h2 => ?_⟩
  by_cases hi : i < hs.length
  · rw [List.getElem?_append_left hi] at h1
    rw [List.getElem?_append_left (by rw [← h.len]; exact hi)] at h2
    have k1 := h.each i x y h1 h2
    exact k1.kept hgr (own_apart hne k1 h.own)
  · rw [List.getElem?_append_right (by omega)] at h1
    rw [List.getElem?_append_right (by rw [← h.len]; omega), ← h.len] at h2
    have : i - hs.length = 0 := by have := (List.getElem?_eq_some_iff.1 h1).1; simp at this; omega
    rw [this] at h1 h2
    simp at h1 h2
    subst h1; subst h2
    exact ho.kept hgr (own_apart hne ho h.own)
end
end Go.V
namespace Go.Proofs.YtlfbbahihenilaaGreat.Ne
open Go.RowKit Go.V Go.Proofs Go.Sort Go.Maps

theorem eltRows : Elt Tryz.prog 125 35 Hdr.cod 24 := Elt.of (z := .slice none 0 0) Tryz.underlying125 (by kernel_rfl) rfl (by decide)
abbrev SeqsOwn (base : Nat) (w : World) (v : Value) (hs : List Hdr) (ls : List (List Int)) : Prop := OwnL 3 35 icod base w v hs ls

set_option maxHeartbeats 4000000 in
set_option maxRecDepth 100000 in
theorem rall_any (pa : Option Addr) (pn pc : Nat) (gs : List (List Pnt)) (w : World) (h : PtsIn w pa pn pc gs) (h40 : gs.length ≤ 60) (h16 : ∀ r ∈ gs, r.length ≤ 16) (hc : ∀ i, i ≤ gs.length → (allE [[]] (gs.take i)).length ≤ 150) :
    Calls Tryz.prog 62 #[.slice pa pn pc] w fun e w' => ∃ v hs, e = .returned v ∧ SeqsOwn w.heap.size w' v hs (allE [[]] gs) ∧ Below w.heap.size w w' := by
  have HP := Lib.hid h
  obtain ⟨hl, hn⟩ := h.len
  have HL := Lib.hid hl
  have H16 := Lib.hid h16
  have HC := Lib.hid hc
  have hpn : pn ≤ 60 := by omega
  clear h hl hn h16 hc h40
  have HO0 : Hid (SeqsOwn w.heap.size (w.alloc (.cells #[.slice none 0 0] 35)) (.slice (some ⟨w.heap.size, 0, none⟩) 1 1) [⟨none, 0, 0⟩] [[]]) :=
    ⟨own_new (c := Hdr.cod) w _ _ _ [⟨none, 0, 0⟩] 1 rfl (Nat.le_refl _) (by unfold maxLen; omega) rfl, rfl, fun i h g h1 h2 => by
      have hi : i = 0 := by have := (List.getElem?_eq_some_iff.1 h1).1; simp at this; omega
      subst hi; cases h1; cases h2; exact Own.nil⟩
  have HB0 : Hid (Below w.heap.size w (w.alloc (.cells #[.slice none 0 0] 35))) := (Below.refl _ _).alloc (Nat.le_refl _) _
  go_enter Tryz.func62, Tryz.ntmps62
  go_wp2_with fail
  go_loopw [3, 4] (fun v i wr => ∃ (j : Nat) (hs : List Hdr), i = .int .i64 j ∧ j ≤ pn ∧ Hid (SeqsOwn w.heap.size wr v hs (allE [[]] (gs.take j))) ∧ Hid (Below w.heap.size w wr)) (fun _ i _ => pn - (intOf i).toNat)
  case atStart => exact ⟨0, _, by go_num, by omega, HO0.out, HB0.out⟩
  case round =>
    clear HO0 HB0
    obtain ⟨i, hs, rfl, hi, HO, HB⟩ := hrel
    obtain ⟨Wo, rfl⟩ : ∃ Wo : World, Wo = wr := ⟨_, rfl⟩
    by_cases hlt : i < pn
    case neg =>
      have hin : pn = i := by omega
      subst hin
      have ha := HO.out
      rw [List.take_of_length_le (by rw [← HL.out]; exact Nat.le_refl _)] at ha
      have HA := Lib.hid ha
      clear ha
      go_wp2_with fail
      go_ret
      exact ⟨_, _, rfl, HA.out, HB.out⟩
    obtain ⟨b, off, hd, g, e1, hbl, hg, p0, hsl⟩ := (HP.out.below HB.out).at hlt
    have e1 : pa = _ := e1
    subst e1
    obtain ⟨ra, rn, rc⟩ := hd
    have hii : (i : Int) < (pn : Int) := by omega
    have HG := Lib.hid hg
    have HS := Lib.hid hsl
    have HRL : Hid (rn = g.length) := hsl.hlen
    have hr16 : rn ≤ 16 := by have := H16.out g (List.mem_of_getElem? hg); have : rn = g.length := hsl.hlen; omega
    obtain ⟨oa, oc, rfl, hos⟩ := HO.out.sls
    obtain ⟨oE, hoE⟩ : ∃ oE, allE [[]] (gs.take i) = oE := ⟨_, rfl⟩
    rw [hoE] at hos ⊢
    have HEX : Hid (allE [[]] (gs.take (i + 1)) = extE oE g) := by show _ = _; rw [take_at hg, all_snoc, hoE]
    have HLS : Hid (∀ s ∈ oE, s.length ≤ 60) := by
      intro s hs
      rw [← hoE] at hs
      have := isSeq_len _ _ ((all_seq _ _).1 hs)
      rw [this, List.length_take]; have := HL.out; omega
    obtain ⟨on, hon⟩ : ∃ on, oE.length = on := ⟨_, rfl⟩
    have HON := Lib.hid hon
    have hon150 : on ≤ 150 := by have := HC.out i (by have := HL.out; omega); rw [hoE] at this; omega
    rw [hon] at hos ⊢
    have HOS := Lib.hid hos
    clear hg hsl hos hon hoE HO
    go_wp2_with fail
    go_loopw [5, 6] (fun v i wm => ∃ (j : Nat) (hn : List Hdr), i = .int .i64 j ∧ j ≤ on ∧ Hid (SeqsOwn Wo.heap.size wm v hn (extE (oE.take j) g)) ∧ Hid (Below Wo.heap.size Wo wm)) (fun _ i _ => on - (intOf i).toNat)
    case atStart => exact ⟨0, [], by go_num, by omega, OwnL.nil, Below.refl _ _⟩
    case round =>
      obtain ⟨j, hn, rfl, hj, HN, HBM⟩ := hrel
      obtain ⟨Wm, rfl⟩ : ∃ Wm : World, Wm = wr := ⟨_, rfl⟩
      by_cases hjo : j < on
      case neg =>
        have hjn : on = j := by omega
        subst hjn
        have ha := HN.out
        rw [List.take_of_length_le (by rw [HON.out]; exact Nat.le_refl _), ← HEX.out] at ha
        have HA : Hid (SeqsOwn w.heap.size _ _ _ _) := ha.lower HB.out.size
        clear ha
        have HBW := Lib.hid (HB.out.trans (HBM.out.mono HB.out.size))
        go_wp2_with fail
        go_roundw
        case rel => exact ⟨i + 1, _, by go_num, by omega, HA.out, HBW.out⟩
        case measure => simp [intOf]; omega
      have hji : (j : Int) < (on : Int) := by omega
      go_wp2_with fail
      go_loopw [5, 7] (fun v i wq => ∃ (k : Nat) (hn : List Hdr), i = .int .i64 k ∧ k ≤ rn ∧ Hid (SeqsOwn Wo.heap.size wq v hn (extE (oE.take j) g ++ (g.take k).map fun p => (oE.getD j []) ++ [p.stop])) ∧ Hid (Below Wo.heap.size Wo wq)) (fun _ i _ => rn - (intOf i).toNat)
      case atStart => exact ⟨0, hn, by go_num, by omega, by rw [List.take_zero, List.map_nil, List.append_nil]; exact HN.out, HBM.out⟩
      case round =>
        clear HN HBM
        obtain ⟨k, hn', rfl, hk, HN, HBM⟩ := hrel
        obtain ⟨b', off', hd', s, e2, hbl', hh', hs', c0, hsl'⟩ := (HOS.out.below HBM.out).at hjo
        subst e2
        have HBX := Lib.hid (HB.out.trans (HBM.out.mono HB.out.size))
        have y0 := (HBM.out.cell (p := ⟨b, off + i, none⟩) hbl).trans p0
        obtain ⟨sa, sn, sc⟩ := hd'
        have HGS : Hid (oE.getD j [] = s) := by show _ = _; rw [List.getD_eq_getElem?_getD, hs']; rfl
        by_cases hkr : k < rn
        case neg =>
          have hkn : rn = k := by omega
          subst hkn
          have ha := HN.out
          rw [List.take_of_length_le (l := g) (by rw [← HRL.out]; exact Nat.le_refl _)] at ha
          have e3 : extE (oE.take j) g ++ g.map (fun p => oE.getD j [] ++ [p.stop]) = extE (oE.take (j + 1)) g := by
            rw [take_at hs', HGS.out]; unfold extE; rw [List.flatMap_append]; simp
          rw [e3] at ha
          have HA := Lib.hid ha
          clear ha e3 hh' hs' hsl'
          go_wp2_with fail
          go_roundw
          case rel => exact ⟨j + 1, _, by go_num, by omega, HA.out, HBM.out⟩
          case measure => simp [intOf]; omega
        obtain ⟨b2, off2, q, e3, hbl2, hq, q0, q1⟩ := pnt_at (HS.out.below HBM.out) hkr
        have e3 : ra = _ := e3
        subst e3
        obtain ⟨qs, qq⟩ := q
        have hki : (k : Int) < (rn : Int) := by omega
        have HQ := Lib.hid hq
        have HSL := Lib.hid hsl'
        have HSN : Hid (sn = s.length) := hsl'.hlen
        have hsn : sn ≤ 60 := by have := HLS.out s (List.mem_of_getElem? hs'); have : sn = s.length := hsl'.hlen; omega
        have HNL : Hid (hn'.length ≤ 2416) := by
          have e4 := HN.out.len
          rw [List.length_append, ext_len, List.length_map, List.length_take, List.length_take] at e4
          have e5 : min j oE.length * g.length ≤ 150 * 16 := Nat.mul_le_mul (by have := HON.out; omega) (by have := HRL.out; omega)
          have := HRL.out
          show _ ≤ _
          omega
        have hws : Wo.heap.size ≤ wr.heap.size := HBM.out.size
        have hbw : b < wr.heap.size := by omega
        clear hq hsl' hh' hs'
        have y0 : wr.cell? ⟨b, off + i, none⟩ = some (.slice (some ⟨b2, off2, none⟩) rn rc) := y0
        go_wp2_with (first
          | (at_builtin; refine wpList_app eltI rfl (.tmp 31) (.tmp 35) rfl (base := wr.heap.size) _ ([] : List Int) rfl Own.nil _ sn sc s rfl HSL.out (by unfold maxLen; simp; omega) (by simp; omega) (Nat.le_refl _) ?_; intro v1 w1 ho1 hg1; rw [List.nil_append] at ho1; obtain ⟨a1, c1, rfl, -, -⟩ := ho1.slice; have HO1 := Lib.hid ho1; have HB1 : Hid (Below wr.heap.size wr w1) := (Below.refl _ _).grown hg1 (Nat.le_refl _) (fun g e => nomatch (show (none : Option Nat) = some g from e)); have z0 := (HB1.out.cell (p := ⟨b, off + i, none⟩) hbw).trans y0; have z1 := (HB1.out.cell (p := ⟨b2, off2 + k * 2, none⟩) hbl2).trans q0; clear ho1 hg1)
          | (at_builtin; refine wpList_app eltI rfl (.tmp 38) (.tmp 47) rfl (base := wr.heap.size) _ s rfl (HO1.out.alloc _) _ 1 1 [qs] rfl (sl_new (c := icod) _ #[.int .i64 qs] 3 [qs] 1 rfl (by unfold maxLen; omega) rfl) (by have := HSN.out; unfold maxLen; omega) (by have := HSN.out; omega) (by have := HB1.out.size; simp; omega) ?_; intro v2 w2 ho2 hg2; obtain ⟨a2, c2, rfl, -, -⟩ := ho2.slice; rw [show (s ++ [qs]).length = s.length + 1 from by simp] at ho2 ⊢; have HO2 := Lib.hid ho2; have HB2 : Hid (Below wr.heap.size wr w2) := (HB1.out.alloc HB1.out.size _).grown hg2 (by have := HB1.out.size; simp; omega) (fun g e => (World.ownsRow.lt HO1.out g e).1); clear ho2 hg2)
          | (at_builtin; refine wpList_app eltRows rfl (.tmp 37) (.tmp 49) rfl (base := Wo.heap.size) _ hn' rfl ((HN.out.below HB2.out).own.alloc _) _ 1 1 [⟨a2, s.length + 1, c2⟩] rfl (sl_new (c := Hdr.cod) _ #[.slice a2 (s.length + 1) c2] 35 [⟨a2, s.length + 1, c2⟩] 1 rfl (by unfold maxLen; omega) rfl) (by have := HNL.out; unfold maxLen; omega) (by have := HNL.out; omega) (by have := HB2.out.size; simp; omega) ?_; intro v3 w3 ho3 hg3; have HN3 := Lib.hid (((HN.out.below HB2.out).below ((Below.refl _ _).alloc (Nat.le_refl _) _)).push (by decide) ((HO2.out.lower hws).alloc _) hg3 ho3); have HB3 : Hid (Below Wo.heap.size Wo w3) := (HBM.out.trans ((HB2.out.alloc HB2.out.size _).mono hws)).grown hg3 (by have := HB2.out.size; simp; omega) (fun g e => (World.ownsRow.lt HN.out.own g e).1); clear ho3 hg3))
        go_roundw
        case rel => exact ⟨k + 1, _, by go_num, by omega, by have h9 := HN3.out; rw [List.append_assoc] at h9; rw [take_at HQ.out, List.map_append, HGS.out]; rw [HGS.out] at h9; exact h9, HB3.out⟩
        case measure => simp [intOf]; omega
end Go.Proofs.YtlfbbahihenilaaGreat.Ne
