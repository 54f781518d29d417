/- Networks: viterbi: all sequences gone through, and what the iterator tells: the same best one, and the same that is left to be paid: plain. -/
/- Networks: viterbi: all sequences, by definition: walked. -/
/- Networks: viterbi: whether rows may be, and how many sequences there are, by definition: walked. -/
/- Networks: viterbi: the best sequence, and what is left, by definition: walked. -/
/- Networks: viterbi: what is left to be paid, by definition: walked. -/
/- Networks: viterbi: what is left to be paid, as the program tells it: walked. -/
/- Networks: viterbi: the best sequence and what is left are the document's: the law walked. -/
/- ViterbiBest answers true, whatever comes in, and what came in reads as it did; no condition. -/
import Derived.Test.YthhpgahnhpgmeaaNxH
import Derived.Test.YthhpgahnhpgmeaaBase5
import Derived.Test.YthhpgahnhpgmeaaNeO
import Derived.Test.YthhpgahnhpgmeaaNoE
import Derived.Test.YthhpgahnhpgmeaaNxF
import Derived.Test.YthhpgahnhpgmeaaNeR
import Derived.Test.YthhpgahnhpgmeaaIs
import Derived.Test.YthhpgahnhpgmeaaNeE
import Derived.Test.YthhpgahnhpgmeaaRows
import Derived.Test.YthhpgahnhpgmeaaNoR
namespace Go.Proofs.Ythhpgahnhpgmeaa.Ne
/-! ### All sequences -/
/-- Each sequence with each point's stop behind it. -/
def extE (out : List (List Int)) (g : List Pnt) : List (List Int) := out.flatMap fun s => g.map fun p => s ++ [p.stop]
def allE : List (List Int) → List (List Pnt) → List (List Int)
  | out, [] => out
  | out, g :: gs => allE (extE out g) gs
/-- Behind a start: a stop of each row. -/
def isSeq : List (List Pnt) → List Int → Prop
  | [], [] => True
  | g :: gs, s :: ss => (∃ p ∈ g, p.stop = s) ∧ isSeq gs ss
  | _, _ => False
theorem ext_mem (out : List (List Int)) (g : List Pnt) (ss : List Int) : ss ∈ extE out g ↔ ∃ s ∈ out, ∃ p ∈ g, ss = s ++ [p.stop] := by
  unfold extE
  rw [List.mem_flatMap]
  constructor
  · rintro ⟨s, hs, h⟩
    obtain ⟨p, hp, rfl⟩ := List.mem_map.1 h
    exact ⟨s, hs, p, hp, rfl⟩
  · rintro ⟨s, hs, p, hp, rfl⟩
    exact ⟨s, hs, List.mem_map.2 ⟨p, hp, rfl⟩⟩
theorem all_mem : ∀ (gs : List (List Pnt)) (out : List (List Int)) (ss : List Int), ss ∈ allE out gs ↔ ∃ a ∈ out, ∃ b, isSeq gs b ∧ ss = a ++ b
  | [], out, ss => by
    unfold allE
    constructor
    · intro h; exact ⟨ss, h, [], trivial, by simp⟩
    · rintro ⟨a, ha, b, hb, rfl⟩
      cases b with
      | nil => simpa using ha
      | cons x b => exact absurd hb (by simp [isSeq])
  | g :: gs, out, ss => by
    unfold allE
    rw [all_mem gs]
    constructor
    · rintro ⟨a, ha, b, hb, rfl⟩
      obtain ⟨s, hs, p, hp, rfl⟩ := (ext_mem out g a).1 ha
      exact ⟨s, hs, p.stop :: b, ⟨⟨p, hp, rfl⟩, hb⟩, by simp⟩
    · rintro ⟨a, ha, b, hb, rfl⟩
      cases b with
      | nil => exact absurd hb (by simp [isSeq])
      | cons x b =>
        obtain ⟨⟨p, hp, rfl⟩, h2⟩ := hb
        exact ⟨a ++ [p.stop], (ext_mem out g _).2 ⟨a, ha, p, hp, rfl⟩, b, h2, by simp⟩
theorem all_seq (gs : List (List Pnt)) (ss : List Int) : ss ∈ allE [[]] gs ↔ isSeq gs ss := by
  rw [all_mem]
  constructor
  · rintro ⟨a, ha, b, hb, rfl⟩
    simp at ha; subst ha; simpa using hb
  · intro h; exact ⟨[], by simp, ss, h, by simp⟩
theorem isSeq_len : ∀ (gs : List (List Pnt)) (ss : List Int), isSeq gs ss → ss.length = gs.length
  | [], [], _ => rfl
  | [], s :: ss, h => by simp [isSeq] at h
  | g :: gs, [], h => by simp [isSeq] at h
  | g :: gs, s :: ss, h => by simp [isSeq_len gs ss h.2]
theorem tc_seq (st : Int → Int → Int) : ∀ (gs : List (List Pnt)) (ss : List Int) (prev : Option Int), 0 ≤ tcE st prev gs ss → isSeq gs ss
  | [], [], _, _ => trivial
  | [], s :: ss, _, h => by unfold tcE at h; omega
  | g :: gs, [], _, h => by unfold tcE at h; omega
  | g :: gs, s :: ss, prev, h => by
    rw [tcE_cons] at h
    split at h
    · omega
    · next hh => exact ⟨ptE_mem (by omega), tc_seq st gs ss (some s) (by omega)⟩
theorem ext_len (out : List (List Int)) (g : List Pnt) : (extE out g).length = out.length * g.length := by
  unfold extE
  induction out with
  | nil => simp
  | cons s out ih => rw [List.flatMap_cons, List.length_append, ih, List.length_map, List.length_cons, Nat.succ_mul, Nat.add_comm]
/-- How many there are, up to a limit: as it is told. -/
def countGo (most : Nat) : List (List Pnt) → Nat → Nat
  | [], n => n
  | g :: gs, n => if most < n * g.length then n * g.length else countGo most gs (n * g.length)
/-- No sequence is longer, and there are no more of them on the way. -/
theorem count_ok (most : Nat) : ∀ (gs : List (List Pnt)) (out : List (List Int)), countGo most gs out.length ≤ most → ∀ i, 0 < i → i ≤ gs.length → (allE out (gs.take i)).length ≤ most
  | [], out, _, i, h0, hi => by simp at hi; omega
  | g :: gs, out, h, i, h0, hi => by
    unfold countGo at h
    split at h
    · next hh => omega
    next hh =>
    obtain ⟨j, rfl⟩ : ∃ j, i = j + 1 := ⟨i - 1, by omega⟩
    rw [List.take_succ_cons]
    unfold allE
    by_cases hj : j = 0
    · subst hj
      rw [List.take_zero]; unfold allE
      rw [ext_len]; omega
    · exact count_ok most gs (extE out g) (by rw [ext_len]; exact h) j (by omega) (by simp at hi; omega)
theorem all_snoc : ∀ (gs : List (List Pnt)) (g : List Pnt) (out : List (List Int)), allE out (gs ++ [g]) = extE (allE out gs) g
  | [], _, _ => rfl
  | h :: gs, g, out => all_snoc gs g (extE out h)

/-! ### The best one of all -/
def bestAt (c : List Int → Int) (s : List Int) (o : List Int × Int) : List Int × Int := if 0 ≤ c s ∧ (o.2 < 0 ∨ c s < o.2 ∨ c s = o.2 ∧ aheadE s o.1 = true) then (s, c s) else o
def bestGo (c : List Int → Int) : List (List Int) → List Int × Int → List Int × Int
  | [], o => o
  | s :: l, o => bestGo c l (bestAt c s o)
theorem ahead_tri : ∀ (a b : List Int), a.length = b.length → a ≠ b → aheadE a b = false → aheadE b a = true
  | [], [], _, h, _ => absurd rfl h
  | x :: xs, [], h, _, _ => by simp at h
  | [], y :: ys, h, _, _ => by simp at h
  | x :: xs, y :: ys, hl, hne, h => by
    rw [ahead_cons] at h ⊢
    by_cases e : x = y
    · subst e
      rw [if_pos rfl] at h ⊢
      exact ahead_tri xs ys (by simpa using hl) (fun q => hne (by rw [q])) h
    · rw [if_neg e] at h
      rw [if_neg (fun q => e q.symm)]
      have := of_decide_eq_false h
      exact decide_eq_true (by omega)
theorem best_none (c : List Int → Int) : ∀ (l : List (List Int)), (∀ s ∈ l, c s < 0) → ∀ o, bestGo c l o = o
  | [], _, o => rfl
  | s :: l, h, o => by
    unfold bestGo bestAt
    rw [if_neg (fun q => by have := h s (by simp); omega)]
    exact best_none c l (fun x hx => h x (by simp [hx])) o
/-- The one that none costs less than, and none that costs as much comes ahead of, is found. -/
theorem best_stay (c : List Int → Int) (b : List Int) (C : Int) (h0 : 0 ≤ C) (hc : c b = C) : ∀ (l : List (List Int)), (∀ s ∈ l, c s < 0 ∨ C < c s ∨ C = c s ∧ aheadE s b = false) → bestGo c l (b, C) = (b, C)
  | [], _ => rfl
  | s :: l, h => by
    unfold bestGo
    have e : bestAt c s (b, C) = (b, C) := by
      unfold bestAt
      rw [if_neg]
      rintro ⟨h1, h2⟩
      rcases h s (by simp) with q | q | ⟨q1, q2⟩
      · omega
      · simp only [] at h2; omega
      · simp only [] at h2
        rcases h2 with h2 | h2 | ⟨-, h2⟩
        · omega
        · omega
        · rw [q2] at h2; cases h2
    rw [e]
    exact best_stay c b C h0 hc l (fun x hx => h x (by simp [hx]))
theorem best_find (c : List Int → Int) (b : List Int) (C : Int) (h0 : 0 ≤ C) (hc : c b = C) (m : Nat) (hb : b.length = m) : ∀ (l : List (List Int)), b ∈ l → (∀ s ∈ l, s.length = m ∧ (c s < 0 ∨ C < c s ∨ C = c s ∧ aheadE s b = false)) →
    ∀ o : List Int × Int, o.2 < 0 ∨ o.1.length = m ∧ c o.1 = o.2 ∧ (C < o.2 ∨ C = o.2 ∧ aheadE o.1 b = false) → bestGo c l o = (b, C)
  | s :: l, hm, h, o, ho => by
    unfold bestGo
    by_cases e : s = b
    · subst e
      have e2 : bestAt c s o = (s, C) := by
        unfold bestAt
        rw [hc]
        split
        · rfl
        · next hh =>
          have hh : ¬ (o.2 < 0 ∨ C < o.2 ∨ C = o.2 ∧ aheadE s o.1 = true) := fun q => hh ⟨h0, q⟩
          rcases ho with q | ⟨q1, q2, q | ⟨q, q3⟩⟩
          · exact absurd (.inl q) hh
          · exact absurd (.inr (.inl q)) hh
          · by_cases e3 : o.1 = s
            · cases o; simp at e3 q ⊢; exact ⟨e3, q.symm⟩
            · have := ahead_tri o.1 s (by rw [q1, hb]) e3 q3
              exact absurd (.inr (.inr ⟨q, this⟩)) hh
      rw [e2]
      exact best_stay c s C h0 hc l (fun x hx => (h x (by simp [hx])).2)
    · have hm2 : b ∈ l := by rcases List.mem_cons.1 hm with q | q; exact absurd q.symm e; exact q
      refine best_find c b C h0 hc m hb l hm2 (fun x hx => h x (by simp [hx])) _ ?_
      unfold bestAt
      split
      · next hh =>
        obtain ⟨k1, k2⟩ := h s (by simp)
        refine .inr ⟨k1, rfl, ?_⟩
        rcases k2 with q | q | q
        · omega
        · exact .inl q
        · exact .inr q
      · exact ho

/-! ### What is left from each point -/
def leastAt (c : List Int → Int) (s0 : Int) (s : List Int) (b : Int) : Int := if s.headD 0 = s0 ∧ 0 ≤ c s ∧ (b < 0 ∨ c s < b) then c s else b
def leastGo (c : List Int → Int) (s0 : Int) : List (List Int) → Int → Int
  | [], b => b
  | s :: l, b => leastGo c s0 l (leastAt c s0 s b)
theorem least_ok (c : List Int → Int) (s0 : Int) : ∀ (l : List (List Int)) (b : Int), -1 ≤ b → -1 ≤ leastGo c s0 l b ∧ (0 ≤ b → 0 ≤ leastGo c s0 l b ∧ leastGo c s0 l b ≤ b) ∧
    (∀ s ∈ l, s.headD 0 = s0 → 0 ≤ c s → 0 ≤ leastGo c s0 l b ∧ leastGo c s0 l b ≤ c s) ∧ (0 ≤ leastGo c s0 l b → leastGo c s0 l b = b ∨ ∃ s ∈ l, s.headD 0 = s0 ∧ leastGo c s0 l b = c s)
  | [], b, hb => ⟨hb, (fun h => ⟨h, Int.le_refl _⟩), (fun s h => nomatch h), (fun _ => .inl rfl)⟩
  | s :: l, b, hb => by
    unfold leastGo
    have hl : -1 ≤ leastAt c s0 s b ∧ (0 ≤ b → 0 ≤ leastAt c s0 s b ∧ leastAt c s0 s b ≤ b) ∧ (s.headD 0 = s0 → 0 ≤ c s → 0 ≤ leastAt c s0 s b ∧ leastAt c s0 s b ≤ c s) ∧ (leastAt c s0 s b = b ∨ s.headD 0 = s0 ∧ leastAt c s0 s b = c s) := by
      unfold leastAt
      split
      · next h => exact ⟨by omega, fun _ => by omega, fun _ _ => by omega, .inr ⟨h.1, rfl⟩⟩
      · next h => exact ⟨hb, fun h0 => ⟨h0, Int.le_refl _⟩, fun q1 q2 => by omega, .inl rfl⟩
    obtain ⟨l1, l2, l3, l4⟩ := hl
    obtain ⟨i1, i2, i3, i4⟩ := least_ok c s0 l (leastAt c s0 s b) l1
    refine ⟨i1, fun h0 => ?_, fun x hx e1 e2 => ?_, fun h0 => ?_⟩
    · have := l2 h0; have := i2 this.1; omega
    · rcases List.mem_cons.1 hx with q | q
      · subst q
        have := l3 e1 e2; have := i2 this.1; omega
      · exact i3 x q e1 e2
    · rcases i4 h0 with q | ⟨x, hx, e1, e2⟩
      · rcases l4 with r | ⟨r1, r2⟩
        · exact .inl (by omega)
        · exact .inr ⟨s, by simp, r1, by omega⟩
      · exact .inr ⟨x, by simp [hx], e1, e2⟩

/-- A sequence that costs what is left. -/
theorem lf_wit (st : Int → Int → Int) : ∀ (gs : List (List Pnt)) (g : List Pnt) (s : Int) (prev : Option Int), (∀ r ∈ g :: gs, okRow r) → (∃ p ∈ g, p.stop = s) → 0 ≤ toE st prev s → 0 ≤ lfE st g gs s →
    ∃ ss, tcE st prev (g :: gs) (s :: ss) = toE st prev s + lfE st g gs s
  | [], g, s, prev, hok, hs, ht, hl => by
    obtain ⟨p, hp, rfl⟩ := hs
    obtain ⟨e1, e2⟩ := ptE_of (hok g (by simp)) hp
    have hl2 : lfE st g [] p.stop = (sqE g p.stop).1 := by unfold lfE bkAt; simp
    refine ⟨[], ?_⟩
    rw [tcE_cons]
    have e3 : tcE st (some p.stop) [] [] = 0 := rfl
    rw [e3, if_neg (by omega), hl2, ← e1]
    omega
  | h :: rest, g, s, prev, hok, hs, ht, hl => by
    obtain ⟨p, hp, rfl⟩ := hs
    obtain ⟨e1, e2⟩ := ptE_of (hok g (by simp)) hp
    obtain ⟨q, hq, n1, n2, n3⟩ := lf_next st g h rest p hp (hok g (by simp)) hl
    obtain ⟨ss, hss⟩ := lf_wit st rest h q.stop (some p.stop) (fun r hr => hok r (by simp at hr ⊢; exact .inr hr)) ⟨q, hq, rfl⟩ n1 n2
    have hto : toE st (some p.stop) q.stop = st p.stop q.stop := rfl
    rw [hto] at hss
    refine ⟨q.stop :: ss, ?_⟩
    rw [tcE_cons, hss, if_neg (by omega)]
    omega
theorem bkAt_neg {st : Int → Int → Int} {g : List Pnt} {nx : Option (List (Pnt × Int))} {p : Pnt} (hg : okRow g) (hp : p ∈ g) (h : ¬ 0 ≤ bkAt st g nx ⟨p.stop, 0⟩) : bkAt st g nx ⟨p.stop, 0⟩ = -1 := by
  have := ptE_of hg hp
  have e : ∃ b, bkAt st g nx ⟨p.stop, 0⟩ = if 0 ≤ b then b + (sqE g p.stop).1 else -1 := ⟨_, rfl⟩
  obtain ⟨b, e⟩ := e
  rw [e] at h ⊢
  split
  · next hb => rw [if_pos hb] at h; omega
  · rfl
/-- What is left from a point on is the least of all sequences that begin there. -/
theorem least_eq (st : Int → Int → Int) (g : List Pnt) (gs : List (List Pnt)) (hok : ∀ r ∈ g :: gs, okRow r) (c : List Int → Int) (hc : ∀ ss, c ss = if tcE st none (g :: gs) ss < 0 then -1 else tcE st none (g :: gs) ss) (p : Pnt) (hp : p ∈ g) :
    leastGo c p.stop (allE [[]] (g :: gs)) (-1) = lfE st g gs p.stop := by
  obtain ⟨l1, -, l3, l4⟩ := least_ok c p.stop (allE [[]] (g :: gs)) (-1) (by omega)
  by_cases hv : 0 ≤ lfE st g gs p.stop
  · obtain ⟨ss, hss⟩ := lf_wit st gs g p.stop none hok ⟨p, hp, rfl⟩ (by show (0 : Int) ≤ 0; omega) hv
    have hto : toE st none p.stop = 0 := rfl
    rw [hto] at hss
    have hcs : c (p.stop :: ss) = lfE st g gs p.stop := by rw [hc, hss, if_neg (by omega)]; omega
    have hm : (p.stop :: ss) ∈ allE [[]] (g :: gs) := (all_seq _ _).2 (tc_seq st _ _ none (by omega))
    obtain ⟨m1, m2⟩ := l3 _ hm rfl (by omega)
    rcases l4 m1 with q | ⟨x, hx, e1, e2⟩
    · omega
    · cases x with
      | nil => have := isSeq_len _ _ ((all_seq _ _).1 hx); simp at this
      | cons y ys =>
        simp at e1; subst e1
        have h0 : 0 ≤ tcE st none (g :: gs) (p.stop :: ys) := by
          apply Int.not_lt.1
          intro hh
          rw [hc, if_pos hh] at e2; omega
        obtain ⟨-, k2, k3⟩ := lf_low st gs g p.stop ys none hok h0
        have hto : toE st none p.stop = 0 := rfl
        rw [hc, if_neg (by omega)] at e2
        omega
  · have hlf : lfE st g gs p.stop = -1 := bkAt_neg (hok g (by simp)) hp hv
    rw [hlf]
    by_cases h0 : 0 ≤ leastGo c p.stop (allE [[]] (g :: gs)) (-1)
    · exfalso
      rcases l4 h0 with q | ⟨x, hx, e1, e2⟩
      · omega
      · cases x with
        | nil => have := isSeq_len _ _ ((all_seq _ _).1 hx); simp at this
        | cons y ys =>
          simp at e1; subst e1
          have h0 : 0 ≤ tcE st none (g :: gs) (p.stop :: ys) := by
            apply Int.not_lt.1
            intro hh
            rw [hc, if_pos hh] at e2; omega
          obtain ⟨-, k2, k3⟩ := lf_low st gs g p.stop ys none hok h0
          omega
    · omega
/-- All of a row's. -/
def leastL (c : List Int → Int) (gs : List (List Pnt)) (g : List Pnt) : List Int := g.map fun p => leastGo c p.stop (allE [[]] gs) (-1)
theorem leastL_eq (st : Int → Int → Int) (g : List Pnt) (gs : List (List Pnt)) (hok : ∀ r ∈ g :: gs, okRow r) (c : List Int → Int) (hc : ∀ ss, c ss = if tcE st none (g :: gs) ss < 0 then -1 else tcE st none (g :: gs) ss) :
    leastL c (g :: gs) g = bkL st (g :: gs) := by
  have e : ∃ nx, bkL st (g :: gs) = g.map (bkAt st g nx) ∧ ∀ p : Pnt, lfE st g gs p.stop = bkAt st g nx p := by
    cases gs
    · exact ⟨none, rfl, fun _ => rfl⟩
    · exact ⟨some _, rfl, fun _ => rfl⟩
  obtain ⟨nx, e1, e2⟩ := e
  rw [e1]
  exact List.map_congr_left fun p hp => (least_eq st g gs hok c hc p hp).trans (e2 p)
/-- The best of all is the one that is picked. -/
theorem bestGo_eq {n : Net} {k : Nat} {x : Wgh} {gs : List (List Pnt)} (hv : vmayE x gs = 0) :
    (goE (stepE n k x) gs none = none → bestGo (seqE n k x gs) (allE [[]] gs) ([], -1) = ([], -1)) ∧
    (∀ l, goE (stepE n k x) gs none = some l → bestGo (seqE n k x gs) (allE [[]] gs) ([], -1) = (l, (pickE (stepE n k x) none gs).1) ∧ 0 ≤ (pickE (stepE n k x) none gs).1) := by
  obtain ⟨b1, b2⟩ := best_seq (n := n) (k := k) hv
  obtain ⟨o1, o2, o3, o4⟩ := vmay_ok hv
  refine ⟨fun h => best_none _ _ (fun s _ => by rw [b1 h s]; omega) _, fun l h => ?_⟩
  obtain ⟨c1, c2, c3, c4⟩ := b2 l h
  refine ⟨best_find _ l _ c3 c2 gs.length c1 _ ?_ (fun s hs => ⟨isSeq_len _ _ ((all_seq _ _).1 hs), c4 s⟩) _ (.inl (by simp)), c3⟩
  have h0 : 0 ≤ tcE (stepE n k x) none gs l := by
    rw [seq_tc n k x gs l o1 o2] at c2
    apply Int.not_lt.1
    intro hh
    rw [if_pos hh] at c2; omega
  exact (all_seq _ _).2 (tc_seq _ _ _ none h0)
end Go.Proofs.Ythhpgahnhpgmeaa.Ne

namespace Go.V
open Go.RowKit
/-- Rows that a call made, in a row that it made. -/
structure OwnL {α : Type} (e1 e2 : TypeId) (c : Cod α) (base : Nat) (w : World) (v : Value) (hs : List Hdr) (gs : List (List α)) : Prop where
  own : Own e2 Hdr.cod base w v hs
  len : hs.length = gs.length
  each : ∀ (i : Nat) (h : Hdr) (g : List α), hs[i]? = some h → gs[i]? = some g → Own e1 c base w h.val g
section
variable {α : Type} {e1 e2 : TypeId} {c : Cod α} {base : Nat} {w : World} {v : Value} {hs : List Hdr} {gs : List (List α)}
theorem OwnL.nil : OwnL e1 e2 c base w (.slice none 0 0) [] [] := ⟨Own.nil, rfl, (fun i h g h1 => by simp at h1)⟩
theorem OwnL.below (h : OwnL e1 e2 c base w v hs gs) {w' : World} (hb : Below w.heap.size w w') : OwnL e1 e2 c base w' v hs gs :=
  ⟨h.own.below hb, h.len, fun i hh g h1 h2 => (h.each i hh g h1 h2).below hb⟩
theorem OwnL.lower (h : OwnL e1 e2 c base w v hs gs) {base' : Nat} (hb : base' ≤ base) : OwnL e1 e2 c base' w v hs gs :=
  ⟨h.own.lower hb, h.len, fun i hh g h1 h2 => (h.each i hh g h1 h2).lower hb⟩
theorem OwnL.sls (h : OwnL e1 e2 c base w v hs gs) : ∃ a cap, v = .slice a gs.length cap ∧ Sls c w a gs.length cap hs gs := by
  obtain ⟨a, cap, h1, h2, -⟩ := h.own.slice
  rw [h.len] at h1 h2
  refine ⟨a, cap, h1, h2, h.len, fun i hh g g1 g2 => ?_⟩
  obtain ⟨a', cap', e', hs', -⟩ := (h.each i hh g g1 g2).slice
  obtain ⟨x, y, z⟩ := hh
  simp only [Hdr.val, Value.slice.injEq] at e'
  obtain ⟨rfl, rfl, rfl⟩ := e'
  exact hs'
theorem OwnL.push (hne : e1 ≠ e2) (h : OwnL e1 e2 c base w v hs gs) {w' : World} {v' : Value} {hh : Hdr} {g : List α} (ho : Own e1 c base w hh.val g) (hgr : w.grownBy w' v.ownBlock) (hv : Own e2 Hdr.cod base w' v' (hs ++ [hh])) :
    OwnL e1 e2 c base w' v' (hs ++ [hh]) (gs ++ [g]) := by
  refine ⟨hv, by simp [h.len], fun i x y h1 h2 => ?_⟩
  by_cases hi : i < hs.length
  · rw [List.getElem?_append_left hi] at h1
    rw [List.getElem?_append_left (by rw [← h.len]; exact hi)] at h2
    have k1 := h.each i x y h1 h2
    exact k1.kept hgr (own_apart hne k1 h.own)
  · rw [List.getElem?_append_right (by omega)] at h1
    rw [List.getElem?_append_right (by rw [← h.len]; omega), ← h.len] at h2
    have : i - hs.length = 0 := by have := (List.getElem?_eq_some_iff.1 h1).1; simp at this; omega
    rw [this] at h1 h2
    simp at h1 h2
    subst h1; subst h2
    exact ho.kept hgr (own_apart hne ho h.own)
end
end Go.V
namespace Go.Proofs.Ythhpgahnhpgmeaa.Ne
open Go.RowKit Go.V Go.Proofs Go.Sort Go.Maps

theorem eltRows : Elt Try.prog 121 56 Hdr.cod 24 := Elt.of (z := .slice none 0 0) Try.underlying121 (by kernel_rfl) rfl (by decide)
abbrev SeqsOwn (base : Nat) (w : World) (v : Value) (hs : List Hdr) (ls : List (List Int)) : Prop := OwnL 3 56 icod base w v hs ls

set_option maxHeartbeats 4000000 in
set_option maxRecDepth 100000 in
theorem rall_any (pa : Option Addr) (pn pc : Nat) (gs : List (List Pnt)) (w : World) (h : PtsIn w pa pn pc gs) (h40 : gs.length ≤ 40) (h16 : ∀ r ∈ gs, r.length ≤ 16) (hc : ∀ i, i ≤ gs.length → (allE [[]] (gs.take i)).length ≤ 150) :
    Calls Try.prog 53 #[.slice pa pn pc] w fun e w' => ∃ v hs, e = .returned v ∧ SeqsOwn w.heap.size w' v hs (allE [[]] gs) ∧ Below w.heap.size w w' := by
  have HP := Lib.hid h
  obtain ⟨hl, hn⟩ := h.len
  have HL := Lib.hid hl
  have H16 := Lib.hid h16
  have HC := Lib.hid hc
  have hpn : pn ≤ 40 := by omega
  clear h hl hn h16 hc h40
  have HO0 : Hid (SeqsOwn w.heap.size (w.alloc (.cells #[.slice none 0 0] 56)) (.slice (some ⟨w.heap.size, 0, none⟩) 1 1) [⟨none, 0, 0⟩] [[]]) :=
    ⟨own_new (c := Hdr.cod) w _ _ _ [⟨none, 0, 0⟩] 1 rfl (Nat.le_refl _) (by unfold maxLen; omega) rfl, rfl, fun i h g h1 h2 => by
      have hi : i = 0 := by have := (List.getElem?_eq_some_iff.1 h1).1; simp at this; omega
      subst hi; cases h1; cases h2; exact Own.nil⟩
  have HB0 : Hid (Below w.heap.size w (w.alloc (.cells #[.slice none 0 0] 56))) := (Below.refl _ _).alloc (Nat.le_refl _) _
  go_enter Try.func53, Try.ntmps53
  go_wp2_with fail
  go_loopw [3, 4] (fun v i wr => ∃ (j : Nat) (hs : List Hdr), i = .int .i64 j ∧ j ≤ pn ∧ Hid (SeqsOwn w.heap.size wr v hs (allE [[]] (gs.take j))) ∧ Hid (Below w.heap.size w wr)) (fun _ i _ => pn - (intOf i).toNat)
  case atStart => exact ⟨0, _, by go_num, by omega, HO0.out, HB0.out⟩
  case round =>
    clear HO0 HB0
    obtain ⟨i, hs, rfl, hi, HO, HB⟩ := hrel
    obtain ⟨Wo, rfl⟩ : ∃ Wo : World, Wo = wr := ⟨_, rfl⟩
    by_cases hlt : i < pn
    case neg =>
      have hin : pn = i := by omega
      subst hin
      have ha := HO.out
      rw [List.take_of_length_le (by rw [← HL.out]; exact Nat.le_refl _)] at ha
      have HA := Lib.hid ha
      clear ha
      go_wp2_with fail
      go_ret
      exact ⟨_, _, rfl, HA.out, HB.out⟩
    obtain ⟨b, off, hd, g, e1, hbl, hg, p0, hsl⟩ := (HP.out.below HB.out).at hlt
    have e1 : pa = _ := e1
    subst e1
    obtain ⟨ra, rn, rc⟩ := hd
    have hii : (i : Int) < (pn : Int) := by omega
    have HG := Lib.hid hg
    have HS := Lib.hid hsl
    have HRL : Hid (rn = g.length) := hsl.hlen
    have hr16 : rn ≤ 16 := by have := H16.out g (List.mem_of_getElem? hg); have : rn = g.length := hsl.hlen; omega
    obtain ⟨oa, oc, rfl, hos⟩ := HO.out.sls
    obtain ⟨oE, hoE⟩ : ∃ oE, allE [[]] (gs.take i) = oE := ⟨_, rfl⟩
    rw [hoE] at hos ⊢
    have HEX : Hid (allE [[]] (gs.take (i + 1)) = extE oE g) := by show _ = _; rw [take_at hg, all_snoc, hoE]
    have HLS : Hid (∀ s ∈ oE, s.length ≤ 40) := by
      intro s hs
      rw [← hoE] at hs
      have := isSeq_len _ _ ((all_seq _ _).1 hs)
      rw [this, List.length_take]; have := HL.out; omega
    obtain ⟨on, hon⟩ : ∃ on, oE.length = on := ⟨_, rfl⟩
    have HON := Lib.hid hon
    have hon150 : on ≤ 150 := by have := HC.out i (by have := HL.out; omega); rw [hoE] at this; omega
    rw [hon] at hos ⊢
    have HOS := Lib.hid hos
    clear hg hsl hos hon hoE HO
    go_wp2_with fail
    go_loopw [5, 6] (fun v i wm => ∃ (j : Nat) (hn : List Hdr), i = .int .i64 j ∧ j ≤ on ∧ Hid (SeqsOwn Wo.heap.size wm v hn (extE (oE.take j) g)) ∧ Hid (Below Wo.heap.size Wo wm)) (fun _ i _ => on - (intOf i).toNat)
    case atStart => exact ⟨0, [], by go_num, by omega, OwnL.nil, Below.refl _ _⟩
    case round =>
      obtain ⟨j, hn, rfl, hj, HN, HBM⟩ := hrel
      obtain ⟨Wm, rfl⟩ : ∃ Wm : World, Wm = wr := ⟨_, rfl⟩
      by_cases hjo : j < on
      case neg =>
        have hjn : on = j := by omega
        subst hjn
        have ha := HN.out
        rw [List.take_of_length_le (by rw [HON.out]; exact Nat.le_refl _), ← HEX.out] at ha
        have HA : Hid (SeqsOwn w.heap.size _ _ _ _) := ha.lower HB.out.size
        clear ha
        have HBW := Lib.hid (HB.out.trans (HBM.out.mono HB.out.size))
        go_wp2_with fail
        go_roundw
        case rel => exact ⟨i + 1, _, by go_num, by omega, HA.out, HBW.out⟩
        case measure => simp [intOf]; omega
      have hji : (j : Int) < (on : Int) := by omega
      go_wp2_with fail
      go_loopw [5, 7] (fun v i wq => ∃ (k : Nat) (hn : List Hdr), i = .int .i64 k ∧ k ≤ rn ∧ Hid (SeqsOwn Wo.heap.size wq v hn (extE (oE.take j) g ++ (g.take k).map fun p => (oE.getD j []) ++ [p.stop])) ∧ Hid (Below Wo.heap.size Wo wq)) (fun _ i _ => rn - (intOf i).toNat)
      case atStart => exact ⟨0, hn, by go_num, by omega, by rw [List.take_zero, List.map_nil, List.append_nil]; exact HN.out, HBM.out⟩
      case round =>
        clear HN HBM
        obtain ⟨k, hn', rfl, hk, HN, HBM⟩ := hrel
        obtain ⟨b', off', hd', s, e2, hbl', hh', hs', c0, hsl'⟩ := (HOS.out.below HBM.out).at hjo
        subst e2
        have HBX := Lib.hid (HB.out.trans (HBM.out.mono HB.out.size))
        have y0 := (HBM.out.cell (p := ⟨b, off + i, none⟩) hbl).trans p0
        obtain ⟨sa, sn, sc⟩ := hd'
        have HGS : Hid (oE.getD j [] = s) := by show _ = _; rw [List.getD_eq_getElem?_getD, hs']; rfl
        by_cases hkr : k < rn
        case neg =>
          have hkn : rn = k := by omega
          subst hkn
          have ha := HN.out
          rw [List.take_of_length_le (l := g) (by rw [← HRL.out]; exact Nat.le_refl _)] at ha
          have e3 : extE (oE.take j) g ++ g.map (fun p => oE.getD j [] ++ [p.stop]) = extE (oE.take (j + 1)) g := by
            rw [take_at hs', HGS.out]; unfold extE; rw [List.flatMap_append]; simp
          rw [e3] at ha
          have HA := Lib.hid ha
          clear ha e3 hh' hs' hsl'
          go_wp2_with fail
          go_roundw
          case rel => exact ⟨j + 1, _, by go_num, by omega, HA.out, HBM.out⟩
          case measure => simp [intOf]; omega
        obtain ⟨b2, off2, q, e3, hbl2, hq, q0, q1⟩ := pnt_at (HS.out.below HBM.out) hkr
        have e3 : ra = _ := e3
        subst e3
        obtain ⟨qs, qq⟩ := q
        have hki : (k : Int) < (rn : Int) := by omega
        have HQ := Lib.hid hq
        have HSL := Lib.hid hsl'
        have HSN : Hid (sn = s.length) := hsl'.hlen
        have hsn : sn ≤ 40 := by have := HLS.out s (List.mem_of_getElem? hs'); have : sn = s.length := hsl'.hlen; omega
        have HNL : Hid (hn'.length ≤ 2416) := by
          have e4 := HN.out.len
          rw [List.length_append, ext_len, List.length_map, List.length_take, List.length_take] at e4
          have e5 : min j oE.length * g.length ≤ 150 * 16 := Nat.mul_le_mul (by have := HON.out; omega) (by have := HRL.out; omega)
          have := HRL.out
          show _ ≤ _
          omega
        have hws : Wo.heap.size ≤ wr.heap.size := HBM.out.size
        have hbw : b < wr.heap.size := by omega
        clear hq hsl' hh' hs'
        have y0 : wr.cell? ⟨b, off + i, none⟩ = some (.slice (some ⟨b2, off2, none⟩) rn rc) := y0
        go_wp2_with (first
          | (at_builtin; refine wpList_app eltI rfl (.tmp 31) (.tmp 35) rfl (base := wr.heap.size) _ ([] : List Int) rfl Own.nil _ sn sc s rfl HSL.out (by unfold maxLen; simp; omega) (by simp; omega) (Nat.le_refl _) ?_; intro v1 w1 ho1 hg1; rw [List.nil_append] at ho1; obtain ⟨a1, c1, rfl, -, -⟩ := ho1.slice; have HO1 := Lib.hid ho1; have HB1 : Hid (Below wr.heap.size wr w1) := (Below.refl _ _).grown hg1 (Nat.le_refl _) (fun g e => nomatch (show (none : Option Nat) = some g from e)); have z0 := (HB1.out.cell (p := ⟨b, off + i, none⟩) hbw).trans y0; have z1 := (HB1.out.cell (p := ⟨b2, off2 + k * 2, none⟩) hbl2).trans q0; clear ho1 hg1)
          | (at_builtin; refine wpList_app eltI rfl (.tmp 38) (.tmp 47) rfl (base := wr.heap.size) _ s rfl (HO1.out.alloc _) _ 1 1 [qs] rfl (sl_new (c := icod) _ #[.int .i64 qs] 3 [qs] 1 rfl (by unfold maxLen; omega) rfl) (by have := HSN.out; unfold maxLen; omega) (by have := HSN.out; omega) (by have := HB1.out.size; simp; omega) ?_; intro v2 w2 ho2 hg2; obtain ⟨a2, c2, rfl, -, -⟩ := ho2.slice; rw [show (s ++ [qs]).length = s.length + 1 from by simp] at ho2 ⊢; have HO2 := Lib.hid ho2; have HB2 : Hid (Below wr.heap.size wr w2) := (HB1.out.alloc HB1.out.size _).grown hg2 (by have := HB1.out.size; simp; omega) (fun g e => (World.ownsRow.lt HO1.out g e).1); clear ho2 hg2)
          | (at_builtin; refine wpList_app eltRows rfl (.tmp 37) (.tmp 49) rfl (base := Wo.heap.size) _ hn' rfl ((HN.out.below HB2.out).own.alloc _) _ 1 1 [⟨a2, s.length + 1, c2⟩] rfl (sl_new (c := Hdr.cod) _ #[.slice a2 (s.length + 1) c2] 56 [⟨a2, s.length + 1, c2⟩] 1 rfl (by unfold maxLen; omega) rfl) (by have := HNL.out; unfold maxLen; omega) (by have := HNL.out; omega) (by have := HB2.out.size; simp; omega) ?_; intro v3 w3 ho3 hg3; have HN3 := Lib.hid (((HN.out.below HB2.out).below ((Below.refl _ _).alloc (Nat.le_refl _) _)).push (by decide) ((HO2.out.lower hws).alloc _) hg3 ho3); have HB3 : Hid (Below Wo.heap.size Wo w3) := (HBM.out.trans ((HB2.out.alloc HB2.out.size _).mono hws)).grown hg3 (by have := HB2.out.size; simp; omega) (fun g e => (World.ownsRow.lt HN.out.own g e).1); clear ho3 hg3))
        go_roundw
        case rel => exact ⟨k + 1, _, by go_num, by omega, by have h9 := HN3.out; rw [List.append_assoc] at h9; rw [take_at HQ.out, List.map_append, HGS.out]; rw [HGS.out] at h9; exact h9, HB3.out⟩
        case measure => simp [intOf]; omega
end Go.Proofs.Ythhpgahnhpgmeaa.Ne

namespace Go.Proofs.Ythhpgahnhpgmeaa.Ne
open Go.RowKit Go.V Go.Proofs Go.Sort Go.Maps

set_option maxHeartbeats 2000000 in
set_option maxRecDepth 100000 in
theorem rvmay_any (x : Wgh) (pa : Option Addr) (pn pc : Nat) (gs : List (List Pnt)) (w : World) (h : PtsIn w pa pn pc gs) :
    Calls Try.prog 23 #[x.val, .slice pa pn pc] w fun e w' => e = .returned (.int .i64 (vmayE x gs)) ∧ Below w.heap.size w w' := by
  have HP := Lib.hid h
  obtain ⟨hl, hn⟩ := h.len
  have HL := Lib.hid hl
  obtain ⟨xr, xm, xf, xc⟩ := x
  obtain ⟨mw, hmw⟩ : ∃ mw, mayW ⟨xr, xm, xf, xc⟩ = mw := ⟨_, rfl⟩
  obtain ⟨ve, hve⟩ : ∃ ve, vmayE ⟨xr, xm, xf, xc⟩ gs = ve := ⟨_, rfl⟩
  have HMW := Lib.hid hmw
  have HVE := Lib.hid hve
  rw [hve]
  clear h hl hmw hve
  have HX0 := Lib.hid (box_new w (Wgh.mk xr xm xf xc).box)
  have HB0 : Hid (Below w.heap.size w (w.alloc (Wgh.mk xr xm xf xc).box)) := (Below.refl _ _).alloc (Nat.le_refl _) _
  obtain ⟨c0, c1, c2, c3⟩ := box4_cells HX0.out
  cases mw with
  | false =>
    have hz : 2 = ve := by rw [← HVE.out]; exact (if_neg (by rw [HMW.out]; simp)).symm
    subst hz
    go_enter Try.func23, Try.ntmps23
    go_wp2_with (go_at_call 52; go_loud (refine (rcmay_any ⟨xr, xm, xf, xc⟩ _).mono ?_); rintro e w1 ⟨rfl, hb1⟩; rw [HMW.out]; have HB1 := Lib.hid (HB0.out.trans (hb1.mono HB0.out.size)); clear hb1)
    go_ret
    exact ⟨rfl, HB1.out⟩
  | true =>
    by_cases hbig : (2048 : Int) < (pn : Int)
    · have hz : 3 = ve := by rw [← HVE.out]; unfold vmayE; rw [if_pos HMW.out, if_pos (by have := HL.out; omega)]
      subst hz
      go_enter Try.func23, Try.ntmps23
      go_wp2_with (go_at_call 52; go_loud (refine (rcmay_any ⟨xr, xm, xf, xc⟩ _).mono ?_); rintro e w1 ⟨rfl, hb1⟩; rw [HMW.out]; have HB1 := Lib.hid (HB0.out.trans (hb1.mono HB0.out.size)); clear hb1)
      go_ret
      exact ⟨rfl, HB1.out⟩
    · have hp2 : pn ≤ 2048 := by omega
      have HEV : Hid (∀ b, gs.all rowOk = b → (if b = true then (if gs.length = 0 then 31 else 0) else 2) = ve) := by
        intro b hb
        rw [← HVE.out]; unfold vmayE
        have k1 : ¬ (2048 < gs.length) := by have := HL.out; omega
        rw [if_pos HMW.out, if_neg k1, hb]
      go_enter Try.func23, Try.ntmps23
      go_wp2_with (go_at_call 52; go_loud (refine (rcmay_any ⟨xr, xm, xf, xc⟩ _).mono ?_); rintro e w1 ⟨rfl, hb1⟩; rw [HMW.out]; have HB1 := Lib.hid (HB0.out.trans (hb1.mono HB0.out.size)); clear hb1)
      clear c0 c1 c2 c3
      go_loopw [5] (fun i wr => ∃ j : Nat, i = .int .i64 j ∧ j ≤ pn ∧ Hid (Below w.heap.size w wr) ∧ Hid ((gs.take j).all rowOk = true)) (fun i _ => pn - (intOf i).toNat)
      case atStart => exact ⟨0, by go_num, by omega, HB1.out, rfl⟩
      case round =>
        clear HB1
        obtain ⟨j, rfl, hj, HBr, HAL⟩ := hrel
        by_cases hlt : j < pn
        · obtain ⟨b, off, hd, g, e1, hbl, hg, p0, hsl⟩ := (HP.out.below HBr.out).at hlt
          have e1 : pa = _ := e1
          subst e1
          obtain ⟨ra, rn, rc⟩ := hd
          have p0 : wr.cell? ⟨b, off + j, none⟩ = some (.slice ra rn rc) := p0
          have hji : (j : Int) < (pn : Int) := by omega
          have HG := Lib.hid hg
          have HS := Lib.hid hsl
          have HRL : Hid (rn = g.length) := hsl.hlen
          clear hg hsl
          by_cases h16 : (16 : Int) < (rn : Int)
          · have hz : 2 = ve := by
              have := HEV.out false (all_no HG.out (by unfold rowOk; rw [decide_eq_false (by have := HRL.out; omega)]; rfl))
              exact this
            subst hz
            go_wp2_with fail
            go_ret
            exact ⟨rfl, HBr.out⟩
          · have hr16 : rn ≤ 16 := by omega
            go_wp2_with fail
            go_loopw [6] (fun i wq => ∃ k : Nat, i = .int .i64 k ∧ k ≤ rn ∧ Hid (wq = wr) ∧ Hid ((g.take k).all sqOk = true)) (fun i _ => rn - (intOf i).toNat)
            case atStart => exact ⟨0, by go_num, by omega, rfl, rfl⟩
            case round =>
              obtain ⟨k, rfl, hk, HWQ, HAK⟩ := hrel
              have hwq := HWQ.out
              clear HWQ
              subst hwq
              by_cases hltk : k < rn
              · obtain ⟨b2, off2, q, e2, hbl2, hq, q0, q1⟩ := pnt_at HS.out hltk
                have e2 : ra = _ := e2
                subst e2
                have hki : (k : Int) < (rn : Int) := by omega
                have HQ := Lib.hid hq
                clear hq
                obtain ⟨st, sq⟩ := q
                by_cases x1 : sq < 0
                · have hz : 2 = ve := HEV.out false (all_no HG.out (by unfold rowOk; rw [all_no HQ.out (show sqOk ⟨st, sq⟩ = false from decide_eq_false (by show ¬ (0 ≤ sq ∧ sq ≤ _); omega))]; simp))
                  subst hz
                  go_wp2_with fail
                  go_ret
                  exact ⟨rfl, HBr.out⟩
                · have x1b : decide (sq < 0) = false := decide_eq_false x1
                  by_cases x2 : 1099511627776 < sq
                  · have hz : 2 = ve := HEV.out false (all_no HG.out (by unfold rowOk; rw [all_no HQ.out (show sqOk ⟨st, sq⟩ = false from decide_eq_false (by show ¬ (0 ≤ sq ∧ sq ≤ _); omega))]; simp))
                    subst hz
                    go_wp2_with fail
                    go_ret
                    exact ⟨rfl, HBr.out⟩
                  · have HK : Hid (sqOk ⟨st, sq⟩ = true) := decide_eq_true (by show 0 ≤ sq ∧ sq ≤ _; omega)
                    have x2b : decide (1099511627776 < sq) = false := decide_eq_false x2
                    go_wp2_with fail
                    go_roundw
                    case rel => exact ⟨k + 1, by go_num, by omega, Lib.hid trivial, all_take_snoc HQ.out HK.out HAK.out⟩
                    case measure => simp [intOf]; omega
              · have hkr : rn = k := by omega
                subst hkr
                have HRO : Hid (rowOk g = true) := by
                  have := HAK.out
                  rw [List.take_of_length_le (by rw [← HRL.out]; exact Nat.le_refl _)] at this
                  show _ = _
                  unfold rowOk; rw [decide_eq_true (by have := HRL.out; omega), this]; rfl
                go_wp2_with fail
                go_roundw
                case rel => exact ⟨j + 1, by go_num, by omega, HBr.out, all_take_snoc HG.out HRO.out HAL.out⟩
                case measure => simp [intOf]; omega
        · have hjn : pn = j := by omega
          subst hjn
          have hall : gs.all rowOk = true := by
            have := HAL.out
            rwa [List.take_of_length_le (by rw [← HL.out]; exact Nat.le_refl _)] at this
          have HVA := Lib.hid (HEV.out true hall)
          by_cases h0 : pn = 0
          · have hz : 31 = ve := by rw [← HVA.out, if_pos rfl, if_pos (by have := HL.out; omega)]
            subst hz
            have h0b : ((pn : Int) == 0) = true := by simp; omega
            clear hall
            go_wp2_with fail
            go_ret
            exact ⟨rfl, HBr.out⟩
          · have hz : 0 = ve := by rw [← HVA.out, if_pos rfl, if_neg (by have := HL.out; omega)]
            subst hz
            have h0b : ((pn : Int) == 0) = false := by simp; omega
            clear hall
            go_wp2_with fail
            go_ret
            exact ⟨rfl, HBr.out⟩

set_option maxHeartbeats 2000000 in
theorem rcount_any (pa : Option Addr) (pn pc : Nat) (gs : List (List Pnt)) (w : World) (h : PtsIn w pa pn pc gs) (h16 : ∀ r ∈ gs, r.length ≤ 16) :
    Calls Try.prog 24 #[.slice pa pn pc, .int .i64 150] w fun e w' => e = .returned (.int .i64 (countGo 150 gs 1 : Nat)) ∧ w' = w := by
  have HP := Lib.hid h
  obtain ⟨hl, hn⟩ := h.len
  have HL := Lib.hid hl
  have H16 := Lib.hid h16
  obtain ⟨r, hr⟩ : ∃ r, countGo 150 gs 1 = r := ⟨_, rfl⟩
  have HR := Lib.hid hr
  rw [hr]
  clear h hl h16 hr
  go_enter Try.func24, Try.ntmps24
  go_wp2_with fail
  go_loopw [5, 6] (fun v i wr => ∃ (j c : Nat), i = .int .i64 j ∧ v = .int .i64 c ∧ j ≤ pn ∧ c ≤ 150 ∧ Hid (countGo 150 (gs.drop j) c = r) ∧ Hid (wr = w)) (fun _ i _ => pn - (intOf i).toNat)
  case atStart => exact ⟨0, 1, by go_num, by go_num, by omega, by omega, HR.out, rfl⟩
  case round =>
    obtain ⟨j, c, rfl, rfl, hj, hc, HC, HW⟩ := hrel
    have hw := HW.out
    clear HW
    subst hw
    by_cases hlt : j < pn
    case neg =>
      have hjn : pn = j := by omega
      subst hjn
      have hz := HC.out
      rw [List.drop_of_length_le (by rw [← HL.out]; exact Nat.le_refl _)] at hz
      have hz : c = r := hz
      subst hz
      go_wp2_with fail
      go_ret
      exact ⟨rfl, rfl⟩
    obtain ⟨b, off, hd, g, e1, hbl, hg, p0, hsl⟩ := HP.out.at hlt
    have e1 : pa = _ := e1
    subst e1
    obtain ⟨ra, rn, rc⟩ := hd
    have p0 : wr.cell? ⟨b, off + j, none⟩ = some (.slice ra rn rc) := p0
    have hji : (j : Int) < (pn : Int) := by omega
    have hrl : rn = g.length := hsl.hlen
    have hr16 : rn ≤ 16 := by have := H16.out g (List.mem_of_getElem? hg); omega
    obtain ⟨m, hm⟩ : ∃ m, c * rn = m := ⟨_, rfl⟩
    have hm2 : m ≤ 2400 := by rw [← hm]; exact Nat.mul_le_mul hc hr16
    have hmi : (c : Int) * (rn : Int) = (m : Int) := by rw [← hm]; simp
    have hwr : IntKind.i64.wrap ((c : Int) * (rn : Int)) = (m : Int) := by rw [hmi, IntKind.wrap_i64]; omega
    have hz := HC.out
    rw [drop_at hg] at hz
    unfold countGo at hz
    rw [← hrl, hm] at hz
    clear hg hsl hrl hm hmi
    by_cases hb : 150 < m
    · rw [if_pos hb] at hz
      subst hz
      have hbi : (150 : Int) < (m : Int) := by omega
      go_wp2_with fail
      go_ret
      exact ⟨rfl, rfl⟩
    · rw [if_neg hb] at hz
      have HZ := Lib.hid hz
      have hbi : decide ((150 : Int) < (m : Int)) = false := decide_eq_false (by omega)
      clear hz
      go_wp2_with fail
      go_roundw
      case rel => exact ⟨j + 1, m, by go_num, rfl, by omega, by omega, HZ.out, Lib.hid trivial⟩
      case measure => simp [intOf]; omega
end Go.Proofs.Ythhpgahnhpgmeaa.Ne

namespace Go.Proofs.Ythhpgahnhpgmeaa.Ne
open Go.RowKit Go.V Go.Proofs Go.Sort Go.Maps

/-- A network and a weighing in boxes of their own. -/
structure NX (w : World) (g : Nat) (n : Net) (hs hl : Hdr) (x : Wgh) : Prop where
  n : w.heap[g]? = some (n.box hs hl)
  x : w.heap[g + 1]? = some x.box
theorem NX.below {w w' : World} {g : Nat} {n : Net} {hs hl : Hdr} {x : Wgh} (h : NX w g n hs hl x) (hb : Below w.heap.size w w') : NX w' g n hs hl x := ⟨box_below h.n hb, box_below h.x hb⟩
theorem NX.cells {w : World} {g : Nat} {n : Net} {hs hl : Hdr} {x : Wgh} (h : NX w g n hs hl x) :
    w.cell? ⟨g, 0, none⟩ = some (.int .i64 n.ver) ∧ w.cell? ⟨g, 1, none⟩ = some (.slice hs.a hs.n hs.cap) ∧ w.cell? ⟨g, 2, none⟩ = some (.slice hl.a hl.n hl.cap) ∧
    w.cell? ⟨g + 1, 0, none⟩ = some (.int .i64 x.reach) ∧ w.cell? ⟨g + 1, 1, none⟩ = some (.int .i64 x.most) ∧ w.cell? ⟨g + 1, 2, none⟩ = some (.int .i64 x.factor) ∧ w.cell? ⟨g + 1, 3, none⟩ = some (.int .i64 x.change) :=
  ⟨(box_cell h.n 0).1, (box_cell h.n 1).1, (box_cell h.n 2).1, (box_cell h.x 0).1, (box_cell h.x 1).1, (box_cell h.x 2).1, (box_cell h.x 3).1⟩
theorem NX.new (w : World) (n : Net) (hs hl : Hdr) (x : Wgh) : NX ((w.alloc (n.box hs hl)).alloc x.box) w.heap.size n hs hl x := by
  refine ⟨box_alloc (box_new _ _), ?_⟩
  have := box_new (w.alloc (n.box hs hl)) x.box
  simpa using this

set_option maxHeartbeats 8000000 in
set_option maxRecDepth 100000 in
theorem rbest_any (w : World) (n : Net) (hs hl : Hdr) (x : Wgh) (hp : Hdr) (gs : List (List Pnt)) (h : NetIn w n hs hl) (hok : checkE n = 0) (h60 : hs.n ≤ 60) (h120 : hl.n ≤ 120) (hP : PtsIn w hp.a hp.n hp.cap gs)
    (h40 : gs.length ≤ 40) (h16 : ∀ r ∈ gs, r.length ≤ 16) (hc : ∀ i, i ≤ gs.length → (allE [[]] (gs.take i)).length ≤ 150) (O : List Int × Int) (hO : bestGo (seqE n hs.n x gs) (allE [[]] gs) ([], -1) = O) :
    Calls Try.prog 25 #[n.val hs hl, x.val, .slice hp.a hp.n hp.cap] w fun e w' => ∃ (a : Option Addr) (m cap : Nat), e = .returned (.tuple #[.slice a m cap, .int .i64 O.2]) ∧ SlQ icod w' a m cap O.1 ∧ m ≤ 1000000 ∧ Below w.heap.size w w' := by
  obtain ⟨xr, xm, xf, xc⟩ := x
  obtain ⟨pa, pn, pc⟩ := hp
  obtain ⟨sa, k, sc⟩ := hs
  obtain ⟨la, m, lc⟩ := hl
  obtain ⟨W, hWe⟩ : ∃ W, (w.alloc (n.box ⟨sa, k, sc⟩ ⟨la, m, lc⟩)).alloc (Wgh.mk xr xm xf xc).box = W := ⟨_, rfl⟩
  have HB : Hid (Below w.heap.size w W) := by
    rw [← hWe]; exact ((Below.refl _ _).alloc (Nat.le_refl _) _).alloc (by simp) _
  have HX : Hid (NX W w.heap.size n ⟨sa, k, sc⟩ ⟨la, m, lc⟩ ⟨xr, xm, xf, xc⟩) := by rw [← hWe]; exact NX.new _ _ _ _ _
  obtain ⟨c, hcf⟩ : ∃ c, seqE n k ⟨xr, xm, xf, xc⟩ gs = c := ⟨_, rfl⟩
  obtain ⟨L, hL⟩ : ∃ L, allE [[]] gs = L := ⟨_, rfl⟩
  have hO1 : bestGo c L ([], -1) = O := by rw [← hcf, ← hL]; exact hO
  have HO1 := Lib.hid hO1
  have HCF := Lib.hid hcf
  have hL150 : L.length ≤ 150 := by have := hc gs.length (Nat.le_refl _); rw [List.take_length, hL] at this; exact this
  have HLL : Hid (∀ s ∈ L, s.length ≤ 40) := by
    intro s hs
    rw [← hL] at hs
    have := isSeq_len _ _ ((all_seq _ _).1 hs)
    omega
  have HLE := Lib.hid hL
  have HH := Lib.hid (h.below HB.out)
  have HOK := Lib.hid hok
  have HP := Lib.hid (hP.below HB.out)
  have H40 := Lib.hid h40
  have H16 := Lib.hid h16
  have HC := Lib.hid hc
  have h60 : k ≤ 60 := h60
  have h120 : m ≤ 120 := h120
  clear h hok hP hO hO1 hcf hL h40 h16 hc
  go_enter Try.func25, Try.ntmps25
  go_upto_region 4 with (go_at_call 53; go_loud (refine (rall_any pa pn pc gs _ HP.out H40.out H16.out HC.out).mono ?_); rintro e w1 ⟨v, hs, rfl, ho, hb1⟩; rw [HLE.out] at ho; obtain ⟨oa, oc, rfl, hsl⟩ := ho.sls; have HS := Lib.hid hsl; have HB1 := Lib.hid hb1; clear ho hb1 hsl)
  obtain ⟨on, hon⟩ : ∃ on, L.length = on := ⟨_, rfl⟩
  have HON := Lib.hid hon
  rw [hon] at HS hL150 ⊢
  have HX1 := Lib.hid (HX.out.below HB1.out)
  clear hon HX hWe
  go_wp2_with fail
  go_loopw [8, 9, 11] (fun v bv i wr => ∃ (j : Nat) (a : Option Addr) (qn cap : Nat) (o : List Int) (b : Int), i = .int .i64 j ∧ j ≤ on ∧ v = .slice a qn cap ∧ bv = .int .i64 b ∧ qn ≤ 40 ∧ Hid (SlQ icod wr a qn cap o) ∧ Hid (bestGo c (L.drop j) (o, b) = O) ∧ Hid (Below w1.heap.size w1 wr)) (fun _ _ i _ => on - (intOf i).toNat)
  case atStart => exact ⟨0, none, 0, 0, [], -1, by go_num, by omega, rfl, rfl, by omega, ⟨rfl, Nat.le_refl _, Nat.zero_le _, fun h => absurd h (Nat.lt_irrefl 0)⟩, HO1.out, Below.refl _ _⟩
  case round =>
    obtain ⟨j, a, qn, cap, o, b, rfl, hj, rfl, rfl, hq40, HQ, HGO, HBR⟩ := hrel
    by_cases hlt : j < on
    case neg =>
      have hjn : on = j := by omega
      subst hjn
      have hz := HGO.out
      rw [List.drop_of_length_le (by rw [HON.out]; exact Nat.le_refl _)] at hz
      have hz : (o, b) = O := hz
      subst hz
      go_wp2_with fail
      go_ret2
      exact ⟨a, qn, cap, rfl, HQ.out, by omega, HB.out.trans ((HB1.out.trans (HBR.out.mono HB1.out.size)).mono HB.out.size)⟩
    obtain ⟨b', off', hd', s, e2, hbl', hh', hs', c0, hsl'⟩ := (HS.out.below HBR.out).at hlt
    subst e2
    obtain ⟨a2, n2, c2⟩ := hd'
    have c0 : wr.cell? ⟨b', off' + j, none⟩ = some (.slice a2 n2 c2) := c0
    have HX2 := Lib.hid (HX1.out.below HBR.out)
    obtain ⟨x0, x1, x2, x3, x4, x5, x6⟩ := HX2.out.cells
    have x0 : wr.cell? ⟨w.heap.size, 0, none⟩ = some (.int .i64 n.ver) := x0
    have HWR : Hid (Below W.heap.size W wr) := HB1.out.trans (HBR.out.mono HB1.out.size)
    have HNI := Lib.hid (HH.out.below HWR.out)
    have HPI := Lib.hid (HP.out.below HWR.out)
    have hn2 : n2 ≤ 40 := by have := HLL.out s (List.mem_of_getElem? hs'); have : n2 = s.length := hsl'.hlen; omega
    have HSQ := Lib.hid hsl'.q
    have hz := HGO.out
    rw [drop_at hs'] at hz
    have hz : bestGo c (L.drop (j + 1)) (bestAt c s (o, b)) = O := hz
    have HCS : Hid (seqE n k ⟨xr, xm, xf, xc⟩ gs s = c s) := congrFun HCF.out s
    have hji : (j : Int) < (on : Int) := by omega
    clear hh' hs' hsl'
    have hbw : b' < wr.heap.size := World.block_lt_of_cell? wr _ c0
    go_upto_region 7 with fail
    go_region_held3 (fun w' => w'.cell? ⟨w.heap.size, 0, none⟩ = some (.int .i64 n.ver) ∧ w'.cell? ⟨w.heap.size, 1, none⟩ = some (.slice sa k sc) ∧ w'.cell? ⟨w.heap.size, 2, none⟩ = some (.slice la m lc) ∧ w'.cell? ⟨w.heap.size + 1, 0, none⟩ = some (.int .i64 xr) ∧ w'.cell? ⟨w.heap.size + 1, 1, none⟩ = some (.int .i64 xm) ∧ w'.cell? ⟨w.heap.size + 1, 2, none⟩ = some (.int .i64 xf) ∧ w'.cell? ⟨w.heap.size + 1, 3, none⟩ = some (.int .i64 xc) ∧ w'.cell? ⟨b', off' + j, none⟩ = some (.slice a2 n2 c2)) (first | (exact HK4.out) | go_keep)
      (first | (go_at_call 54; go_loud (refine (rseq_any _ n ⟨sa, k, sc⟩ ⟨la, m, lc⟩ ⟨xr, xm, xf, xc⟩ ⟨pa, pn, pc⟩ ⟨a2, n2, c2⟩ gs s (HNI.out.below (Below.drew (Below.refl _ _))) HOK.out h60 h120 (HPI.out.below (Below.drew (Below.refl _ _))) (HSQ.out.below (Below.drew (Below.refl _ _)))).mono ?_); rintro e w4 ⟨rfl, hb4⟩; rw [HCS.out]; have HB4 : Hid (Below wr.heap.size wr w4) := (Below.drew (Below.refl _ _)).trans hb4; have hk4 := (HX2.out.below HB4.out).cells; have HK4 := Lib.hid (And.intro hk4.1 (And.intro hk4.2.1 (And.intro hk4.2.2.1 (And.intro hk4.2.2.2.1 (And.intro hk4.2.2.2.2.1 (And.intro hk4.2.2.2.2.2.1 (And.intro hk4.2.2.2.2.2.2 ((HB4.out.cell (p := ⟨b', off' + j, none⟩) hbw).trans c0)))))))); clear hb4 hk4))
    have c4 : w4.cell? ⟨b', off' + j, none⟩ = some (.slice a2 n2 c2) := HK4.out.2.2.2.2.2.2.2
    obtain ⟨C, hC⟩ : ∃ C, c s = C := ⟨_, rfl⟩
    have HBW4 := Lib.hid (HBR.out.trans (HB4.out.mono HBR.out.size))
    unfold bestAt at hz
    rw [hC] at hz ⊢
    clear c0 x0 x1 x2 x3 x4 x5 x6 hC HK4
    by_cases q0 : 0 ≤ C
    case neg =>
      rw [if_neg (fun h => q0 h.1)] at hz
      have HZ := Lib.hid hz
      have d0 : decide (0 ≤ C) = false := decide_eq_false q0
      clear hz
      go_wp2_with fail
      go_roundw
      case rel => exact ⟨j + 1, a, qn, cap, o, b, by go_num, by omega, rfl, rfl, by omega, HQ.out.below HB4.out, HZ.out, HBW4.out⟩
      case measure => simp [intOf]; omega
    have d0 : decide (0 ≤ C) = true := decide_eq_true q0
    by_cases qb : b < 0
    · rw [if_pos ⟨q0, .inl qb⟩] at hz
      have HZ := Lib.hid hz
      have d1 : decide (b < 0) = true := decide_eq_true qb
      clear hz
      go_wp2_with fail
      go_roundw
      case rel => exact ⟨j + 1, a2, n2, c2, s, C, by go_num, by omega, rfl, rfl, by omega, HSQ.out.below HB4.out, HZ.out, HBW4.out⟩
      case measure => simp [intOf]; omega
    have d1 : decide (b < 0) = false := decide_eq_false qb
    by_cases ql : C < b
    · rw [if_pos ⟨q0, .inr (.inl ql)⟩] at hz
      have HZ := Lib.hid hz
      have d2 : decide (C < b) = true := decide_eq_true ql
      clear hz
      go_wp2_with fail
      go_roundw
      case rel => exact ⟨j + 1, a2, n2, c2, s, C, by go_num, by omega, rfl, rfl, by omega, HSQ.out.below HB4.out, HZ.out, HBW4.out⟩
      case measure => simp [intOf]; omega
    have d2 : decide (C < b) = false := decide_eq_false ql
    by_cases qe : C = b
    case neg =>
      rw [if_neg (fun h => by rcases h.2 with q | q | q; exact qb q; exact ql q; exact qe q.1)] at hz
      have HZ := Lib.hid hz
      have d3 : (C == b) = false := by simpa using qe
      clear hz qe
      go_wp2_with fail
      go_roundw
      case rel => exact ⟨j + 1, a, qn, cap, o, b, by go_num, by omega, rfl, rfl, by omega, HQ.out.below HB4.out, HZ.out, HBW4.out⟩
      case measure => simp [intOf]; omega
    subst qe
    obtain ⟨A, hA⟩ : ∃ A, aheadE s o = A := ⟨_, rfl⟩
    have HA := Lib.hid hA
    have hz : bestGo c (L.drop (j + 1)) (if 0 ≤ C ∧ (C < 0 ∨ C < C ∨ C = C ∧ aheadE s o = true) then (s, C) else (o, C)) = O := hz
    rw [hA] at hz
    have d3 : (C == C) = true := by simp
    clear hA
    cases A with
    | true =>
      rw [if_pos ⟨q0, .inr (.inr ⟨rfl, rfl⟩)⟩] at hz
      have HZ := Lib.hid hz
      clear hz
      go_wp2_with (go_at_call 55; go_loud (refine (rahead_any a2 n2 c2 s a qn cap o _ (HSQ.out.below HB4.out) (HQ.out.below HB4.out) (by omega) (by omega)).mono ?_); rintro e w5 ⟨rfl, hb5⟩; rw [HA.out]; have HB5 : Hid (Below wr.heap.size wr w5) := HB4.out.trans (hb5.mono HB4.out.size); have c5 := (hb5.cell (p := ⟨b', off' + j, none⟩) (World.block_lt_of_cell? _ _ c4)).trans c4; clear hb5)
      go_roundw
      case rel => exact ⟨j + 1, a2, n2, c2, s, C, by go_num, by omega, rfl, rfl, by omega, HSQ.out.below HB5.out, HZ.out, HBR.out.trans (HB5.out.mono HBR.out.size)⟩
      case measure => simp [intOf]; omega
    | false =>
      rw [if_neg (fun h => by rcases h.2 with q | q | q; exact qb q; exact ql q; cases q.2)] at hz
      have HZ := Lib.hid hz
      clear hz
      go_wp2_with (go_at_call 55; go_loud (refine (rahead_any a2 n2 c2 s a qn cap o _ (HSQ.out.below HB4.out) (HQ.out.below HB4.out) (by omega) (by omega)).mono ?_); rintro e w5 ⟨rfl, hb5⟩; rw [HA.out]; have HB5 : Hid (Below wr.heap.size wr w5) := HB4.out.trans (hb5.mono HB4.out.size); clear hb5)
      go_roundw
      case rel => exact ⟨j + 1, a, qn, cap, o, C, by go_num, by omega, rfl, rfl, by omega, HQ.out.below HB5.out, HZ.out, HBR.out.trans (HB5.out.mono HBR.out.size)⟩
      case measure => simp [intOf]; omega
end Go.Proofs.Ythhpgahnhpgmeaa.Ne

namespace Go.Proofs.Ythhpgahnhpgmeaa.Ne
open Go.RowKit Go.V Go.Proofs Go.Sort Go.Maps

theorem head_of {s : List Int} {r : Int} (h : s[0]? = some r) : s.headD 0 = r := by
  cases s with
  | nil => cases h
  | cons x xs => simpa using h

set_option maxHeartbeats 8000000 in
set_option maxRecDepth 100000 in
theorem rleast_any (w : World) (n : Net) (hs hl : Hdr) (x : Wgh) (hp : Hdr) (g0 : List Pnt) (gs : List (List Pnt)) (h : NetIn w n hs hl) (hok : checkE n = 0) (h60 : hs.n ≤ 60) (h120 : hl.n ≤ 120) (hP : PtsIn w hp.a hp.n hp.cap (g0 :: gs))
    (h40 : (g0 :: gs).length ≤ 40) (h16 : ∀ r ∈ g0 :: gs, r.length ≤ 16) (hc : ∀ i, i ≤ (g0 :: gs).length → (allE [[]] ((g0 :: gs).take i)).length ≤ 150) :
    Calls Try.prog 27 #[n.val hs hl, x.val, .slice hp.a hp.n hp.cap] w fun e w' => ∃ v, e = .returned v ∧ Go.V.Own 3 icod w.heap.size w' v (leastL (seqE n hs.n x (g0 :: gs)) (g0 :: gs) g0) ∧ Below w.heap.size w w' := by
  obtain ⟨xr, xm, xf, xc⟩ := x
  obtain ⟨pa, pn, pc⟩ := hp
  obtain ⟨sa, k0, sc⟩ := hs
  obtain ⟨la, m, lc⟩ := hl
  obtain ⟨W, hWe⟩ : ∃ W, (w.alloc (n.box ⟨sa, k0, sc⟩ ⟨la, m, lc⟩)).alloc (Wgh.mk xr xm xf xc).box = W := ⟨_, rfl⟩
  have HB : Hid (Below w.heap.size w W) := by
    rw [← hWe]; exact ((Below.refl _ _).alloc (Nat.le_refl _) _).alloc (by simp) _
  have HX : Hid (NX W w.heap.size n ⟨sa, k0, sc⟩ ⟨la, m, lc⟩ ⟨xr, xm, xf, xc⟩) := by rw [← hWe]; exact NX.new _ _ _ _ _
  have HH := Lib.hid (h.below HB.out)
  have HOK := Lib.hid hok
  have HP := Lib.hid (hP.below HB.out)
  have H40 := Lib.hid h40
  have H16 := Lib.hid h16
  have HC := Lib.hid hc
  have h60 : k0 ≤ 60 := h60
  have h120 : m ≤ 120 := h120
  have hpl : pn = (g0 :: gs).length := hP.len.1
  have hpl0 : 0 < pn := by rw [hpl]; simp
  obtain ⟨b, off, hd, g, e1, hbl, hg, p0, hsl⟩ := HP.out.at (i := 0) hpl0
  have e1 : pa = _ := e1
  subst e1
  simp only [List.getElem?_cons_zero, Option.some.injEq] at hg
  subst hg
  obtain ⟨ra, rn, rc⟩ := hd
  rw [Nat.add_zero] at p0
  have p0 : W.cell? ⟨b, off, none⟩ = some (.slice ra rn rc) := p0
  have HRL : Hid (rn = g0.length) := hsl.hlen
  have hr16 : rn ≤ 16 := by have := h16 g0 (by simp); have : rn = g0.length := hsl.hlen; omega
  have HG := Lib.hid hsl
  obtain ⟨c, hcf⟩ : ∃ c, seqE n k0 ⟨xr, xm, xf, xc⟩ (g0 :: gs) = c := ⟨_, rfl⟩
  have HCF := Lib.hid hcf
  have hcf : seqE n (Hdr.mk sa k0 sc).n ⟨xr, xm, xf, xc⟩ (g0 :: gs) = c := hcf
  rw [hcf]
  obtain ⟨G, hG⟩ : ∃ G, g0 :: gs = G := ⟨_, rfl⟩
  have HGN : Hid (0 < G.length) := by rw [← hG]; show 0 < _; simp
  rw [hG] at HP H40 H16 HC HCF ⊢
  obtain ⟨L, hL⟩ : ∃ L, allE [[]] G = L := ⟨_, rfl⟩
  have hL150 : L.length ≤ 150 := by have := HC.out G.length (Nat.le_refl _); rw [List.take_length, hL] at this; exact this
  have HLL : Hid (∀ s ∈ L, s.length = G.length) := by
    intro s hs
    rw [← hL] at hs
    exact isSeq_len _ _ ((all_seq _ _).1 hs)
  have HLE := Lib.hid hL
  have HF : Hid (leastL c G g0 = g0.map fun p => leastGo c p.stop L (-1)) := by show _ = _; unfold leastL; rw [hL]
  rw [HF.out]
  have hpp : (0 : Int) < (pn : Int) := by omega
  have HWB := Lib.hid HB.out.size
  have hbW : b < W.heap.size := World.block_lt_of_cell? W _ p0
  clear h hok hP h40 h16 hc hcf hL hsl hG hpl HF
  go_enter Try.func27, Try.ntmps27
  go_wp2_with fail
  clear hWe
  go_loopw [7, 8] (fun v i wr => ∃ (k : Nat), i = .int .i64 k ∧ k ≤ rn ∧ Hid (Go.V.Own 3 icod W.heap.size wr v ((g0.take k).map fun p => leastGo c p.stop L (-1))) ∧ Hid (Below W.heap.size W wr)) (fun _ i _ => rn - (intOf i).toNat)
  case atStart => exact ⟨0, by go_num, by omega, Own.nil, Below.refl _ _⟩
  case round =>
    obtain ⟨k, rfl, hk, HO, HBR⟩ := hrel
    obtain ⟨Wo, rfl⟩ : ∃ Wo : World, Wo = wr := ⟨_, rfl⟩
    have y0 := (HBR.out.cell (p := ⟨b, off, none⟩) hbW).trans p0
    by_cases hlt : k < rn
    case neg =>
      have hin : rn = k := by omega
      subst hin
      have ha := HO.out
      rw [List.take_of_length_le (by rw [← HRL.out]; exact Nat.le_refl _)] at ha
      have HA := Lib.hid ha
      clear ha
      go_wp2_with fail
      go_ret
      exact ⟨_, rfl, HA.out.lower HWB.out, HB.out.trans (HBR.out.mono HWB.out)⟩
    obtain ⟨b2, off2, q, e2, hbl2, hq, q0, q1⟩ := pnt_at (HG.out.below HBR.out) hlt
    have e2 : ra = _ := e2
    subst e2
    obtain ⟨qs, qq⟩ := q
    have q0 : Wo.cell? ⟨b2, off2 + k * 2, none⟩ = some (.int .i64 qs) := q0
    have hki : (k : Int) < (rn : Int) := by omega
    have HQ := Lib.hid hq
    have hbo : b < Wo.heap.size := by have := HBR.out.size; omega
    clear hq q1
    obtain ⟨r, hr⟩ : ∃ r, leastGo c qs L (-1) = r := ⟨_, rfl⟩
    have HR := Lib.hid hr
    clear hr
    go_upto_region 7 with (go_at_call 53; go_loud (refine (rall_any _ pn pc G _ (HP.out.below HBR.out) H40.out H16.out HC.out).mono ?_); rintro e w1 ⟨v, hs, rfl, ho, hb1⟩; rw [HLE.out] at ho; obtain ⟨oa, oc, rfl, hsl⟩ := ho.sls; have HS := Lib.hid hsl; have HB1 := Lib.hid hb1; clear ho hb1 hsl)
    obtain ⟨on, hon⟩ : ∃ on, L.length = on := ⟨_, rfl⟩
    have HON := Lib.hid hon
    rw [hon] at HS hL150 ⊢
    clear hon
    have HO1 := Lib.hid (HO.out.below HB1.out)
    have z0 := (HB1.out.cell (p := ⟨b, off, none⟩) hbo).trans y0
    have z1 := (HB1.out.cell (p := ⟨b2, off2 + k * 2, none⟩) hbl2).trans q0
    have hb1 : b < w1.heap.size := by have := HB1.out.size; omega
    have hb2 : b2 < w1.heap.size := by have := HB1.out.size; omega
    go_wp2_with fail
    go_loopw [9, 11] (fun bv i wr => ∃ (j : Nat) (bb : Int), i = .int .i64 j ∧ j ≤ on ∧ bv = .int .i64 bb ∧ Hid (leastGo c qs (L.drop j) bb = r) ∧ Hid (Below w1.heap.size w1 wr)) (fun _ i _ => on - (intOf i).toNat)
    case atStart => exact ⟨0, -1, by go_num, by omega, rfl, HR.out, Below.refl _ _⟩
    case round =>
      obtain ⟨j, bb, rfl, hj, rfl, HGO, HBI⟩ := hrel
      by_cases hlj : j < on
      case neg =>
        have hjn : on = j := by omega
        subst hjn
        have hz := HGO.out
        rw [List.drop_of_length_le (by rw [HON.out]; exact Nat.le_refl _)] at hz
        have hz : bb = r := hz
        subst hz
        have HOI := Lib.hid (HO1.out.below HBI.out)
        have HLK : Hid ((((g0.take k).map fun p => leastGo c p.stop L (-1)) ++ [bb]) = (g0.take (k + 1)).map fun p => leastGo c p.stop L (-1)) := by
          show _ = _
          rw [take_at HQ.out, List.map_append, ← HR.out]; rfl
        have HLN : Hid (((g0.take k).map fun p => leastGo c p.stop L (-1)).length ≤ 16) := by show _ ≤ _; simp; omega
        have HBX := Lib.hid (HBR.out.trans ((HB1.out.trans (HBI.out.mono HB1.out.size)).mono HBR.out.size))
        go_wp2_with (at_builtin; refine wpList_app eltI rfl (.tmp 65) (.tmp 67) rfl (base := W.heap.size) _ _ rfl (HOI.out.alloc _) _ 1 1 [bb] rfl (sl_new (c := icod) _ #[.int .i64 bb] 3 [bb] 1 rfl (by unfold maxLen; omega) rfl) (by have := HLN.out; unfold maxLen; omega) (by have := HLN.out; omega) (by have := HBX.out.size; simp; omega) ?_; intro v2 w2 ho2 hg2; rw [HLK.out] at ho2; have HO2 := Lib.hid ho2; have HB2 : Hid (Below W.heap.size W w2) := (HBX.out.alloc HBX.out.size _).grown hg2 (by have := HBX.out.size; simp; omega) (fun g e => (World.ownsRow.lt HOI.out g e).1); clear ho2 hg2)
        go_roundw
        case rel => exact ⟨k + 1, by go_num, by omega, HO2.out, HB2.out⟩
        case measure => simp [intOf]; omega
      obtain ⟨b', off', hd', s, e3, hbl', hh', hs', c0, hsl'⟩ := (HS.out.below HBI.out).at hlj
      subst e3
      obtain ⟨a2, n2, c2⟩ := hd'
      have c0 : wr.cell? ⟨b', off' + j, none⟩ = some (.slice a2 n2 c2) := c0
      have hn2 : n2 = G.length := by rw [← HLL.out s (List.mem_of_getElem? hs')]; exact hsl'.hlen
      have hn20 : 0 < n2 := by have := HGN.out; omega
      obtain ⟨b3, off3, s0, e4, hbl3, hs0, d0⟩ := int_at hsl' hn20
      have e4 : a2 = _ := e4
      subst e4
      rw [Nat.add_zero] at d0
      have HS0 : Hid (s.headD 0 = s0) := head_of hs0
      have HWR : Hid (Below W.heap.size W wr) := HBR.out.trans ((HB1.out.trans (HBI.out.mono HB1.out.size)).mono HBR.out.size)
      have HX2 := Lib.hid (HX.out.below HWR.out)
      obtain ⟨x0, x1, x2, x3, x4, x5, x6⟩ := HX2.out.cells
      have HNI := Lib.hid (HH.out.below HWR.out)
      have HPI := Lib.hid (HP.out.below HWR.out)
      have HSQ := Lib.hid hsl'.q
      have hz := HGO.out
      rw [drop_at hs'] at hz
      have hz : leastGo c qs (L.drop (j + 1)) (leastAt c qs s bb) = r := hz
      have HCS : Hid (seqE n k0 ⟨xr, xm, xf, xc⟩ G s = c s) := congrFun HCF.out s
      have hji : (j : Int) < (on : Int) := by omega
      have hn0 : (0 : Int) < (n2 : Int) := by omega
      have t0 := (HBI.out.cell (p := ⟨b, off, none⟩) hb1).trans z0
      have t1 := (HBI.out.cell (p := ⟨b2, off2 + k * 2, none⟩) hb2).trans z1
      have hbw : b' < wr.heap.size := World.block_lt_of_cell? wr _ c0
      have hbwb : b < wr.heap.size := World.block_lt_of_cell? wr _ t0
      have hbwb2 : b2 < wr.heap.size := World.block_lt_of_cell? wr _ t1
      clear hh' hs' hsl' hs0 hn2
      go_upto_region 10 with fail
      go_region_held3 (fun w' => w'.cell? ⟨w.heap.size, 0, none⟩ = some (.int .i64 n.ver) ∧ w'.cell? ⟨w.heap.size, 1, none⟩ = some (.slice sa k0 sc) ∧ w'.cell? ⟨w.heap.size, 2, none⟩ = some (.slice la m lc) ∧ w'.cell? ⟨w.heap.size + 1, 0, none⟩ = some (.int .i64 xr) ∧ w'.cell? ⟨w.heap.size + 1, 1, none⟩ = some (.int .i64 xm) ∧ w'.cell? ⟨w.heap.size + 1, 2, none⟩ = some (.int .i64 xf) ∧ w'.cell? ⟨w.heap.size + 1, 3, none⟩ = some (.int .i64 xc) ∧ w'.cell? ⟨b', off' + j, none⟩ = some (.slice (some ⟨b3, off3, none⟩) n2 c2)) (first | (exact HK4.out) | go_keep)
        (first | (go_at_call 54; go_loud (refine (rseq_any _ n ⟨sa, k0, sc⟩ ⟨la, m, lc⟩ ⟨xr, xm, xf, xc⟩ ⟨_, pn, pc⟩ ⟨some ⟨b3, off3, none⟩, n2, c2⟩ G s (HNI.out.below (Below.drew (Below.refl _ _))) HOK.out h60 h120 (HPI.out.below (Below.drew (Below.refl _ _))) (HSQ.out.below (Below.drew (Below.refl _ _)))).mono ?_); rintro e w4 ⟨rfl, hb4⟩; rw [HCS.out]; have HB4 : Hid (Below wr.heap.size wr w4) := (Below.drew (Below.refl _ _)).trans hb4; have hk4 := (HX2.out.below HB4.out).cells; have HK4 := Lib.hid (And.intro hk4.1 (And.intro hk4.2.1 (And.intro hk4.2.2.1 (And.intro hk4.2.2.2.1 (And.intro hk4.2.2.2.2.1 (And.intro hk4.2.2.2.2.2.1 (And.intro hk4.2.2.2.2.2.2 ((HB4.out.cell (p := ⟨b', off' + j, none⟩) hbw).trans c0)))))))); clear hb4 hk4))
      have c4 : w4.cell? ⟨b', off' + j, none⟩ = some (.slice (some ⟨b3, off3, none⟩) n2 c2) := HK4.out.2.2.2.2.2.2.2
      have t4 : w4.cell? ⟨b, off, none⟩ = some (.slice (some ⟨b2, off2, none⟩) rn rc) := (HB4.out.cell (p := ⟨b, off, none⟩) hbwb).trans t0
      have u4 : w4.cell? ⟨b2, off2 + k * 2, none⟩ = some (.int .i64 qs) := (HB4.out.cell (p := ⟨b2, off2 + k * 2, none⟩) hbwb2).trans t1
      have d4 : w4.cell? ⟨b3, off3, none⟩ = some (.int .i64 s0) := (HB4.out.cell (p := ⟨b3, off3, none⟩) hbl3).trans d0
      obtain ⟨C, hC⟩ : ∃ C, c s = C := ⟨_, rfl⟩
      have HBW4 := Lib.hid (HBI.out.trans (HB4.out.mono HBI.out.size))
      unfold leastAt at hz
      rw [hC, HS0.out] at hz
      rw [hC]
      clear c0 x0 x1 x2 x3 x4 x5 x6 hC HK4 t0 t1 d0 z0 z1 y0 q0
      by_cases qh : s0 = qs
      case neg =>
        rw [if_neg (fun h => qh h.1)] at hz
        have dh : (s0 == qs) = false := by simpa using qh
        clear qh
        have HZ := Lib.hid hz
        clear hz
        go_wp2_with fail
        go_quiet (fail)
        go_wp2_with fail
        go_roundw
        case rel => exact ⟨j + 1, bb, by go_num, by omega, rfl, HZ.out, below_drewN HBW4.out _⟩
        case measure => simp [intOf]; omega
      have dh : (s0 == qs) = true := by simpa using qh
      by_cases q0 : 0 ≤ C
      case neg =>
        rw [if_neg (fun h => q0 h.2.1)] at hz
        have d0 : decide (0 ≤ C) = false := decide_eq_false q0
        clear qh
        have HZ := Lib.hid hz
        clear hz
        go_wp2_with fail
        go_quiet (fail)
        go_wp2_with fail
        go_roundw
        case rel => exact ⟨j + 1, bb, by go_num, by omega, rfl, HZ.out, below_drewN HBW4.out _⟩
        case measure => simp [intOf]; omega
      have d0 : decide (0 ≤ C) = true := decide_eq_true q0
      by_cases qb : bb < 0
      · rw [if_pos ⟨qh, q0, .inl qb⟩] at hz
        have d1 : decide (bb < 0) = true := decide_eq_true qb
        clear qh
        have HZ := Lib.hid hz
        clear hz
        go_wp2_with fail
        go_quiet (fail)
        go_wp2_with fail
        go_roundw
        case rel => exact ⟨j + 1, C, by go_num, by omega, rfl, HZ.out, below_drewN HBW4.out _⟩
        case measure => simp [intOf]; omega
      have d1 : decide (bb < 0) = false := decide_eq_false qb
      by_cases ql : C < bb
      · rw [if_pos ⟨qh, q0, .inr ql⟩] at hz
        have d2 : decide (C < bb) = true := decide_eq_true ql
        clear qh
        have HZ := Lib.hid hz
        clear hz
        go_wp2_with fail
        go_quiet (fail)
        go_wp2_with fail
        go_roundw
        case rel => exact ⟨j + 1, C, by go_num, by omega, rfl, HZ.out, below_drewN HBW4.out _⟩
        case measure => simp [intOf]; omega
      · rw [if_neg (fun h => by rcases h.2.2 with q | q; exact qb q; exact ql q)] at hz
        have d2 : decide (C < bb) = false := decide_eq_false ql
        clear qh
        have HZ := Lib.hid hz
        clear hz
        go_wp2_with fail
        go_quiet (fail)
        go_wp2_with fail
        go_roundw
        case rel => exact ⟨j + 1, bb, by go_num, by omega, rfl, HZ.out, below_drewN HBW4.out _⟩
        case measure => simp [intOf]; omega
end Go.Proofs.Ythhpgahnhpgmeaa.Ne

namespace Go.Proofs.Ythhpgahnhpgmeaa.Ne
open Go.RowKit Go.V Go.Shelf Go.Proofs Go.Sort Go.Maps
attribute [local go_sem] Oper.semAt_some

theorem make_ints (n : Nat) (hn : n ≤ 1000000) : ∀ w, (Instr.makeSlice 56 (.int .i64 (n : Int)) (.int .i64 (n : Int))).run Try.prog w = .ok (.slice (some ⟨w.heap.size, 0, none⟩) n n) (w.alloc (.cells (madeCells #[.int .i64 0] n) 3)) :=
  fun w => run_make_row' (P := Try.prog) 56 3 (.int .i64 0) 8 Try.underlying56 infoI rfl .i64 .i64 n (by omega) (by omega) w
def intsV (l : List Int) : List Value := l.map fun x => Value.int .i64 x
theorem intsV_flat : ∀ l : List Int, l.flatMap icod.enc = intsV l
  | [] => rfl
  | x :: l => by rw [List.flatMap_cons, intsV_flat l]; rfl
theorem slice_left (W : World) (g : Nat) : (Instr.sliceAt 118 (.pointer (some ⟨g, 0, none⟩)) none none none).run Try.prog W = .ok (.slice (some ⟨g, 0, none⟩) 16 16) W := by
  rw [run_sliceAt_array_all W 118 ⟨g, 0, none⟩ (by kernel_rfl)]
  have e : (sizeOf (Try.prog.elem 118)).run Try.prog W = .ok 1 W := by kernel_rfl
  rw [e]
  have e2 : Try.prog.arrayLen 118 = 16 := by kernel_rfl
  show Result.ok (slicedAt ⟨g, 0, none⟩ 0 (Try.prog.arrayLen 118) (Try.prog.arrayLen 118) 1) W = _
  rw [e2]
  rfl

/-- What Least has in memory between two rounds of the iterator. -/
structure LJ (w W1 : World) (mg A Hb l D m : Nat) (o : Obj) (G : List Int) (i : Nat) (W : World) : Prop where
  arr : ∃ cs : List Value, W.heap[A]? = some (.cells cs.toArray 3 (0, 0)) ∧ cs.length = m ∧ (i = 0 → cs = intsV G)
  hdr : W.heap[Hb]? = some (.cells #[.slice (some ⟨A, 0, none⟩) m m] 56 (0, 0))
  rcd : W.heap[l]? = some o
  def_ : W.heap[D]? = some (.deferred (some []))
  chg : Chg w W mg none
  sz : W1.heap.size ≤ W.heap.size
section
variable {w W1 W W' : World} {mg A Hb l D m : Nat} {o : Obj} {G : List Int} {i : Nat}
theorem LJ.kq (hL : BL w W1 mg A Hb l D) (h : LJ w W1 mg A Hb l D m o G i W) (hk : Kq W1.heap.size mg W W') : LJ w W1 mg A Hb l D m o G i W' := by
  obtain ⟨cs, a1, a2⟩ := h.arr
  obtain ⟨l1, l2, l3, l4⟩ := hL.lt
  obtain ⟨n1, n2, n3, n4⟩ := hL.ne
  refine ⟨⟨cs, (hk.block A l1 n1).trans a1, a2⟩, (hk.block Hb l2 n2).trans h.hdr, (hk.block l l3 n3).trans h.rcd, (hk.block D l4 n4).trans h.def_, ?_, Nat.le_trans h.sz hk.size⟩
  exact ⟨hk.os.trans h.chg.os, hk.tape.trans h.chg.tape, hk.output.trans h.chg.output, Nat.le_trans h.chg.size hk.size, fun k h1 h2 h3 => (hk.block k (by have := hL.w1; omega) h2).trans (h.chg.block k h1 h2 h3)⟩
/-- One row more is told. -/
theorem LJ.put {o' : Obj} (hL : BL w W1 mg A Hb l D) (h : LJ w W1 mg A Hb l D m o G (i + 1) W) (hk : Ky W W' A l) (hl : W'.heap[l]? = some o') (ha : ∃ cs : List Value, W'.heap[A]? = some (.cells cs.toArray 3 (0, 0)) ∧ cs.length = m ∧ (i = 0 → cs = intsV G)) : LJ w W1 mg A Hb l D m o' G i W' := by
  obtain ⟨l1, l2, l3, l4⟩ := hL.lt
  obtain ⟨n1, n2, n3⟩ := hL.na
  obtain ⟨m1, m2⟩ := hL.nl
  have hs := h.sz
  refine ⟨ha, (hk.block Hb (by omega) n1 m1).trans h.hdr, hl, (hk.block D (by omega) n3 m2).trans h.def_, ?_, Nat.le_trans h.sz hk.size⟩
  obtain ⟨q1, q2⟩ := hL.old
  exact ⟨hk.os.trans h.chg.os, hk.tape.trans h.chg.tape, hk.output.trans h.chg.output, Nat.le_trans h.chg.size hk.size, fun k h1 h2 h3 => (hk.block k (Nat.lt_of_lt_of_le h1 h.chg.size) (by omega) (by omega)).trans (h.chg.block k h1 h2 h3)⟩
end

set_option maxRecDepth 100000 in
set_option maxHeartbeats 16000000 in
theorem vleft_any (w : World) (base tg mg N : Nat) (n : Net) (hs hl : Hdr) (x : Wgh) (hp : Hdr) (gs : List (List Pnt))
    (hT : TabIn w base tg mg N n hs hl) (hok : checkE n = 0) (h60 : hs.n ≤ 60) (h120 : hl.n ≤ 120) (hP : PtsIn w hp.a hp.n hp.cap gs) (h40 : gs.length ≤ 40) (hN : N ≤ 20000) (hne : tg ≠ mg) :
    Calls Try.prog 22 #[.pointer (some ⟨tg, 0, none⟩), x.val, .slice hp.a hp.n hp.cap] w fun e w' => Chg w w' mg none ∧
      (vmayE x gs ≠ 0 → e = .returned (.tuple #[.slice none 0 0, .int .i64 (vmayE x gs)])) ∧
      (vmayE x gs = 0 → ∃ (a : Option Addr) (m cap : Nat), e = .returned (.tuple #[.slice a m cap, .int .i64 0]) ∧ Sl icod w' a m cap (bkL (stepE n hs.n x) gs)) := by
  obtain ⟨xr, xm, xf, xc⟩ := x
  obtain ⟨pa, pn, pc⟩ := hp
  obtain ⟨hpl0, hp9⟩ := hP.len
  have HPL : Hid (pn = gs.length) := hpl0
  have hpn : pn ≤ 40 := by have : pn = gs.length := hpl0; omega
  clear hpl0 hp9
  have hmgw := hT.mg_lt
  have htgw : tg < w.heap.size := box_lt hT.box
  have HT0 := Lib.hid hT
  have HOK := Lib.hid hok
  have HP := Lib.hid hP
  have HMP := Lib.hid hT.mapAt
  clear hT hok hP
  have HX0 := Lib.hid (box_new w (Wgh.mk xr xm xf xc).box)
  obtain ⟨ve, hve⟩ : ∃ ve, vmayE ⟨xr, xm, xf, xc⟩ gs = ve := ⟨_, rfl⟩
  have HVE := Lib.hid hve
  rw [hve]
  clear hve
  refine (callsIn_wide (n := 8)).1 ?_
  refine callsIn_of_wp_marks Try.func22 rfl trivial ?_ rfl
  simp only [Try.ntmps22, List.size_toArray, List.length_cons, List.length_nil, Nat.reduceAdd, Nat.reduceSub, Array.replicate_succ, Array.replicate_zero, List.push_toArray, List.append_toArray, List.nil_append, List.cons_append]
  have hf1 : Fence.wide.fn 49 := trivial
  have hf2 : Fence.wide.fn 50 := trivial
  have HBX : Hid (RowKit.Below w.heap.size w (w.alloc (Wgh.mk xr xm xf xc).box)) := (Below.refl _ _).alloc (Nat.le_refl _) _
  obtain ⟨c0, c1, c2, c3⟩ := box4_cells HX0.out
  by_cases hv0 : ve = 0
  case neg =>
    have hvb : (ve != 0) = true := by simpa using hv0
    have HV0 := Lib.hid hv0
    clear hv0
    gi_wp2_with (gi_at_call 49; go_loud (refine (callsIn_wide.2 (vmay_any ⟨xr, xm, xf, xc⟩ pa pn pc gs _ (HP.out.below HBX.out))).mono ?_); rintro e w1 ⟨rfl, hb1⟩; rw [HVE.out]; have HB1 := Lib.hid (HBX.out.trans (hb1.mono HBX.out.size)); clear hb1)
    refine ⟨_, results_tmp2 rfl _ _ _, ?_⟩
    exact ⟨Chg.of_below HB1.out mg none, fun _ => rfl, fun h => absurd h HV0.out⟩
  case pos =>
    subst hv0
    obtain ⟨o1, o2, o3, o4⟩ := vmay_ok HVE.out
    have HRO := Lib.hid o3
    obtain ⟨g0, gr, hgs⟩ : ∃ g0 gr, gs = g0 :: gr := by cases gs with | nil => exact absurd rfl o4 | cons a b => exact ⟨a, b, rfl⟩
    have HGS := Lib.hid hgs
    have hp0 : 0 < pn := by rw [HPL.out, hgs]; simp
    clear o1 o2 o3 o4
    obtain ⟨pb, po, hd, g, e1, hbl, hg, p0, hsl⟩ := HP.out.at (i := 0) hp0
    have e1 : pa = _ := e1
    subst e1
    rw [hgs, List.getElem?_cons_zero, Option.some.injEq] at hg
    subst hg
    obtain ⟨ra, m, rc⟩ := hd
    rw [Nat.add_zero] at p0
    have p0 : w.cell? ⟨pb, po, none⟩ = some (.slice ra m rc) := p0
    have HML : Hid (m = g0.length) := hsl.hlen
    have hm16 : m ≤ 16 := by have := (HRO.out g0 (by rw [hgs]; simp)).2; have : m = g0.length := hsl.hlen; omega
    have hpp : (0 : Int) < (pn : Int) := by omega
    have hpbw : pb < w.heap.size := World.block_lt_of_cell? w _ p0
    clear hsl hgs
    obtain ⟨mc, hmcs, hmk⟩ : ∃ mc : List Value, mc.length = m ∧ ∀ w, (Instr.makeSlice 56 (.int .i64 (m : Int)) (.int .i64 (m : Int))).run Try.prog w = .ok (.slice (some ⟨w.heap.size, 0, none⟩) m m) (w.alloc (.cells mc.toArray 3)) := ⟨(madeCells #[.int .i64 0] m).toList, by simp [size_madeCells], make_ints m (by omega)⟩
    have HMC := Lib.hid hmcs
    clear hmcs
    gi_wp2_with (first
      | (gi_at_call 49; go_loud (refine (callsIn_wide.2 (vmay_any ⟨xr, xm, xf, xc⟩ (some ⟨pb, po, none⟩) pn pc gs _ (HP.out.below HBX.out))).mono ?_); rintro e w1 ⟨rfl, hb1⟩; rw [HVE.out]; have HB1 := Lib.hid (HBX.out.trans (hb1.mono HBX.out.size)); have HX1 := Lib.hid (box_below HX0.out hb1); obtain ⟨d0, d1, d2, d3⟩ := box4_cells HX1.out; have hx1 : w.heap.size < w1.heap.size := box_lt HX1.out; go_loud (have p1 := (HB1.out.cell (p := ⟨pb, po, none⟩) hpbw).trans p0); go_loud (have hpb1 : pb < w1.heap.size := (by omega)); clear hb1)
      | (gi_at_call 50; go_loud (refine (callsIn_wide.2 (vback_any tg ⟨xr, xm, xf, xc⟩ ⟨some ⟨pb, po, none⟩, pn, pc⟩ _)).mono ?_); rintro e w2 ⟨rfl, rfl⟩))
    clear d0 d1 d2 d3 c0 c1 c2 c3 hmk p0 p1
    have HW2 : Hid (∃ w2, (((((w1.alloc (.cells mc.toArray 3)).alloc (.cells #[.slice (some ⟨w1.heap.size, 0, none⟩) m m] 56)).alloc (.cells #[.pointer (some ⟨tg, 0, none⟩)] 53)).alloc (Wgh.mk xr xm xf xc).box).alloc (.cells #[.slice (some ⟨pb, po, none⟩) pn pc] 49)) = w2 ∧
        w2.heap[w1.heap.size]? = some (.cells mc.toArray 3 (0, 0)) ∧ w2.heap[w1.heap.size + 1]? = some (.cells #[.slice (some ⟨w1.heap.size, 0, none⟩) m m] 56 (0, 0)) ∧ w2.heap[w1.heap.size + 1 + 1]? = some (.cells #[.pointer (some ⟨tg, 0, none⟩)] 53 (0, 0)) ∧
        w2.heap[w1.heap.size + 1 + 1 + 1]? = some (Wgh.mk xr xm xf xc).box ∧ w2.heap[w1.heap.size + 1 + 1 + 2]? = some (.cells #[.slice (some ⟨pb, po, none⟩) pn pc] 49 (0, 0)) ∧ RowKit.Below w1.heap.size w1 w2 ∧ w2.heap.size = w1.heap.size + 5) := by
      refine ⟨_, rfl, box_alloc (box_alloc (box_alloc (box_alloc (box_new _ _)))), box_alloc (box_alloc (box_alloc ?_)), box_alloc (box_alloc ?_), box_alloc ?_, ?_, (((((Below.refl _ _).alloc (Nat.le_refl _) _).alloc (by simp) _).alloc (by simp; omega) _).alloc (by simp; omega) _).alloc (by simp; omega) _, by simp⟩
      · have := box_new (w1.alloc (.cells mc.toArray 3)) (.cells #[.slice (some ⟨w1.heap.size, 0, none⟩) m m] 56)
        simpa using this
      · have := box_new ((w1.alloc (.cells mc.toArray 3)).alloc (.cells #[.slice (some ⟨w1.heap.size, 0, none⟩) m m] 56)) (.cells #[.pointer (some ⟨tg, 0, none⟩)] 53)
        simpa using this
      · have := box_new (((w1.alloc (.cells mc.toArray 3)).alloc (.cells #[.slice (some ⟨w1.heap.size, 0, none⟩) m m] 56)).alloc (.cells #[.pointer (some ⟨tg, 0, none⟩)] 53)) (Wgh.mk xr xm xf xc).box
        simpa using this
      · have := box_new ((((w1.alloc (.cells mc.toArray 3)).alloc (.cells #[.slice (some ⟨w1.heap.size, 0, none⟩) m m] 56)).alloc (.cells #[.pointer (some ⟨tg, 0, none⟩)] 53)).alloc (Wgh.mk xr xm xf xc).box) (.cells #[.slice (some ⟨pb, po, none⟩) pn pc] 49)
        simpa using this
    obtain ⟨w2, hw2, y1, y2, y3, y4, y5, y6, y7⟩ := HW2.out
    rw [hw2]
    have A2 := Lib.hid y1
    have H2 := Lib.hid y2
    have T2 := Lib.hid y3
    have X2 := Lib.hid y4
    have P2 := Lib.hid y5
    have B2 : Hid (RowKit.Below w.heap.size w w2) := HB1.out.trans (y6.mono HB1.out.size)
    have HZ2 := Lib.hid y7
    clear hw2 y1 y2 y3 y4 y5 y6 y7 HW2
    refine range_named (by omega) rfl (enters_of Try.func79 (by kernel_rfl) rfl) ?_
    intro fn L W1 hL hl1 hd1 hb1 hsz
    have HL := Lib.hid hL
    have HSZ := Lib.hid hsz
    have hwz : w.heap.size ≤ w1.heap.size := HB1.out.size
    have hz2 : w2.heap.size = w1.heap.size + 5 := HZ2.out
    have hW1 : RowKit.Below w.heap.size w W1 := B2.out.trans (hb1.mono B2.out.size)
    have hAW : W1.heap[w1.heap.size]? = some (.cells mc.toArray 3 (0, 0)) := (hb1.block _ (by omega)).trans A2.out
    have hT1 : TabIn w1 base tg mg N n hs hl := HT0.out.below HB1.out
    have hmg1 : mg < w1.heap.size := by omega
    have hOA : TOff W1 mg w1.heap.size := (hT1.off_new (Nat.le_refl _)).same (((hb1.block mg (by omega)).trans (B2.out.block mg hmgw)).trans (HB1.out.block mg hmgw).symm)
    have HBL : Hid (BL w W1 mg w1.heap.size (w1.heap.size + 1) (w2.heap.size + 1) w2.heap.size) := ⟨⟨by omega, by omega⟩, ⟨by omega, by omega, by omega, by omega⟩, ⟨by omega, by omega, by omega, by omega⟩, ⟨by omega, by omega, by omega⟩, ⟨by omega, by omega⟩, by omega⟩
    have hbase : base ≤ w.heap.size := by have := HT0.out.bt; omega
    have HBI : Hid (BI w W1 (w1.heap.size + 1 + 1 + 2) (w1.heap.size + 1 + 1) (w1.heap.size + 1 + 1 + 1) w1.heap.size (w2.heap.size + 1) base tg mg N n hs hl ⟨xr, xm, xf, xc⟩ ⟨some ⟨pb, po, none⟩, pn, pc⟩ gs) :=
      ⟨(hb1.block _ (by omega)).trans P2.out, (hb1.block _ (by omega)).trans T2.out, (hb1.block _ (by omega)).trans X2.out, HP.out, Chg.of_below hW1 mg none, HMP.out, ⟨by omega, by omega⟩, HOK.out, ⟨h60, h120, h40, by omega⟩, HRO.out, HT0.out.below hW1, ⟨hne, by omega, by omega, by omega, by omega⟩, ⟨by omega, by omega⟩, ⟨hOA, TabIn.off_kind (HT0.out.below hW1) hl1 (fun cur e => by rw [hL] at e; cases e)⟩, ⟨by omega, by omega⟩, ⟨⟨by omega, by omega, by omega⟩, ⟨by omega, by omega, by omega⟩, ⟨by omega, by omega, by omega⟩⟩⟩
    obtain ⟨G, hG⟩ : ∃ G, bkL (stepE n hs.n ⟨xr, xm, xf, xc⟩) gs = G := ⟨_, rfl⟩
    have HGE := Lib.hid hG
    have HGL : Hid (G.length = m) := by show _ = _; rw [← hG, bkL_len, HGS.out, HML.out]; rfl
    have HJ0 : Hid (LJ w W1 mg w1.heap.size (w1.heap.size + 1) (w2.heap.size + 1) w2.heap.size m (L .ready none) G pn W1) :=
      ⟨⟨mc, hAW, HMC.out, fun h => by omega⟩, (hb1.block _ (by omega)).trans H2.out, hl1, hd1, Chg.of_below hW1 mg none, Nat.le_refl _⟩
    clear hL hl1 hd1 hb1 hsz hW1 hAW hz2 hG hT1 hOA
    refine (back1_in 7 (w2.heap.size + 1) (w1.heap.size + 1 + 1 + 2) (w1.heap.size + 1 + 1) (w1.heap.size + 1 + 1 + 1) w1.heap.size base tg mg N n hs hl ⟨xr, xm, xf, xc⟩ ⟨some ⟨pb, po, none⟩, pn, pc⟩ gs w W1 (LJ w W1 mg w1.heap.size (w1.heap.size + 1) (w2.heap.size + 1) w2.heap.size m (L .ready none) G) (by omega) HBI.out (fun i W W' hj hk => hj.kq HBL.out hk) ?yields (by rw [← HPL.out]; exact HJ0.out)).mono ?_
    case yields =>
      intro i W hi hj
      have hip : i < pn := by have := HPL.out; omega
      have hlen : (bkL (stepE n hs.n ⟨xr, xm, xf, xc⟩) (gs.drop i)).length ≤ 16 := by
        rw [bkL_len, drop_at (List.getElem?_eq_getElem hi)]
        exact (HRO.out _ (List.getElem_mem hi)).2
      have HJi := Lib.hid hj
      have hrc := hj.rcd
      refine yield_named HL.out hrc rfl ?_
      obtain ⟨LI, hLI⟩ : ∃ LI, bkL (stepE n hs.n ⟨xr, xm, xf, xc⟩) (gs.drop i) = LI := ⟨_, rfl⟩
      rw [hLI] at hlen ⊢
      have HLI := Lib.hid hLI
      have HSZ16 : Hid ((padV LI).toArray.size = 16) := by show _ = _; rw [List.size_toArray, padV_len hlen]
      have HTH : Hid ((W.alloc (.cells #[.int .i64 0, .int .i64 0, .int .i64 0, .int .i64 0, .int .i64 0, .int .i64 0, .int .i64 0, .int .i64 0, .int .i64 0, .int .i64 0, .int .i64 0, .int .i64 0, .int .i64 0, .int .i64 0, .int .i64 0, .int .i64 0] 118)).there W.heap.size 0 16) := there_block (box_new W (arrO []))
      clear hj hrc hLI
      gi_wp2_with (with_reducible refine wpListIn_store_mid rfl 118 (.tmp 11) (.tmp 28) rfl W.heap.size 0 (padV LI).toArray rfl rfl (by rw [HSZ16.out]; exact HTH.out) (by rw [HSZ16.out]; exact infoLeft) (all_oneCell_toArray (padV_one LI)) ?_)
      have hls : w2.heap.size + 1 < W.heap.size := box_lt HJi.out.rcd
      have hAs : w1.heap.size < W.heap.size := by have := HBL.out.lt.1; have := HJi.out.sz; omega
      have HZB : Hid ((W.alloc (.cells #[.int .i64 0, .int .i64 0, .int .i64 0, .int .i64 0, .int .i64 0, .int .i64 0, .int .i64 0, .int .i64 0, .int .i64 0, .int .i64 0, .int .i64 0, .int .i64 0, .int .i64 0, .int .i64 0, .int .i64 0, .int .i64 0] 118)).heap[W.heap.size]? = some (arrO [])) := box_new W (arrO [])
      have HZO : Hid (∀ k, k < W.heap.size → (W.alloc (.cells #[.int .i64 0, .int .i64 0, .int .i64 0, .int .i64 0, .int .i64 0, .int .i64 0, .int .i64 0, .int .i64 0, .int .i64 0, .int .i64 0, .int .i64 0, .int .i64 0, .int .i64 0, .int .i64 0, .int .i64 0, .int .i64 0] 118)).heap[k]? = W.heap[k]?) := fun k hk => Below.heap_alloc W _ k hk
      have HZS : Hid ((W.alloc (.cells #[.int .i64 0, .int .i64 0, .int .i64 0, .int .i64 0, .int .i64 0, .int .i64 0, .int .i64 0, .int .i64 0, .int .i64 0, .int .i64 0, .int .i64 0, .int .i64 0, .int .i64 0, .int .i64 0, .int .i64 0, .int .i64 0] 118)).heap.size = W.heap.size + 1) := by show _ = _; simp
      have HZR : Hid ((W.alloc (.cells #[.int .i64 0, .int .i64 0, .int .i64 0, .int .i64 0, .int .i64 0, .int .i64 0, .int .i64 0, .int .i64 0, .int .i64 0, .int .i64 0, .int .i64 0, .int .i64 0, .int .i64 0, .int .i64 0, .int .i64 0, .int .i64 0] 118)).os = W.os ∧ (W.alloc (.cells #[.int .i64 0, .int .i64 0, .int .i64 0, .int .i64 0, .int .i64 0, .int .i64 0, .int .i64 0, .int .i64 0, .int .i64 0, .int .i64 0, .int .i64 0, .int .i64 0, .int .i64 0, .int .i64 0, .int .i64 0, .int .i64 0] 118)).tape = W.tape ∧ (W.alloc (.cells #[.int .i64 0, .int .i64 0, .int .i64 0, .int .i64 0, .int .i64 0, .int .i64 0, .int .i64 0, .int .i64 0, .int .i64 0, .int .i64 0, .int .i64 0, .int .i64 0, .int .i64 0, .int .i64 0, .int .i64 0, .int .i64 0] 118)).output = W.output) := ⟨rfl, rfl, rfl⟩
      obtain ⟨Z, hZ⟩ : ∃ Z, W.alloc (.cells #[.int .i64 0, .int .i64 0, .int .i64 0, .int .i64 0, .int .i64 0, .int .i64 0, .int .i64 0, .int .i64 0, .int .i64 0, .int .i64 0, .int .i64 0, .int .i64 0, .int .i64 0, .int .i64 0, .int .i64 0, .int .i64 0] 118) = Z := ⟨_, rfl⟩
      rw [hZ] at HZB HZO HZS HZR ⊢
      clear hZ HTH
      have HUB : Hid ((Z.setCells W.heap.size 0 (padV LI)).heap[W.heap.size]? = some (arrO LI)) := by
        have := setCells_block HZB.out (padV LI) (by rw [padV_len hlen]; rfl)
        exact this
      have HUO : Hid (∀ k, k < W.heap.size → (Z.setCells W.heap.size 0 (padV LI)).heap[k]? = W.heap[k]?) := fun k hk => (setCells_other (by omega) _ _ _).trans (HZO.out k hk)
      have HUR : Hid ((Z.setCells W.heap.size 0 (padV LI)).os = W.os ∧ (Z.setCells W.heap.size 0 (padV LI)).tape = W.tape ∧ (Z.setCells W.heap.size 0 (padV LI)).output = W.output ∧ (Z.setCells W.heap.size 0 (padV LI)).heap.size = W.heap.size + 1) := by
        obtain ⟨r1, r2, r3, r4⟩ := setCells_rest W.heap.size (padV LI) 0 Z
        obtain ⟨z1, z2, z3⟩ := HZR.out
        exact ⟨r1.trans z1, r2.trans z2, r3.trans z3, r4.trans HZS.out⟩
      obtain ⟨U, hU⟩ : ∃ U, Z.setCells W.heap.size 0 (padV LI) = U := ⟨_, rfl⟩
      rw [hU] at HUB HUO HUR ⊢
      clear hU HZB HZO HZS HZR
      refine ⟨(HUO.out _ hls).trans HJi.out.rcd, ?_⟩
      have HVB : Hid ((U.putObj (w2.heap.size + 1) (L .busy none)).heap[W.heap.size]? = some (arrO LI)) := (World.putObj_heap_other (by omega)).trans HUB.out
      have HVO : Hid (∀ k, k < W.heap.size → k ≠ w2.heap.size + 1 → (U.putObj (w2.heap.size + 1) (L .busy none)).heap[k]? = W.heap[k]?) := fun k hk hne => (World.putObj_heap_other (fun e => hne e)).trans (HUO.out k hk)
      have HVL : Hid ((U.putObj (w2.heap.size + 1) (L .busy none)).heap[w2.heap.size + 1]? = some (L .busy none)) := World.putObj_heap_same (by have := HUR.out.2.2.2; omega)
      have HVR : Hid ((U.putObj (w2.heap.size + 1) (L .busy none)).os = W.os ∧ (U.putObj (w2.heap.size + 1) (L .busy none)).tape = W.tape ∧ (U.putObj (w2.heap.size + 1) (L .busy none)).output = W.output ∧ (U.putObj (w2.heap.size + 1) (L .busy none)).heap.size = W.heap.size + 1) := by
        obtain ⟨r1, r2, r3, r4⟩ := HUR.out
        exact ⟨r1, r2, r3, by rw [← r4]; simp⟩
      obtain ⟨V, hV⟩ : ∃ V, U.putObj (w2.heap.size + 1) (L .busy none) = V := ⟨_, rfl⟩
      rw [hV] at HVB HVO HVL HVR ⊢
      clear hV HUB HUO HUR
      have hne1 : w1.heap.size ≠ w2.heap.size + 1 := fun e => HBL.out.na.2.1 e.symm
      have hVA : V.heap[w1.heap.size]? = W.heap[w1.heap.size]? := HVO.out _ hAs hne1
      have q1 : V.cell? ⟨w1.heap.size + 1, 0, none⟩ = some (.slice (some ⟨w1.heap.size, 0, none⟩) m m) := (box_cell ((HVO.out _ (by have := HBL.out.lt.2.1; have := HJi.out.sz; omega) (HBL.out.nl.1)).trans HJi.out.hdr) 0).1
      have hsz9 : w1.heap.size < V.heap.size := by have := HVR.out.2.2.2; omega
      have HVA := Lib.hid hVA
      clear hVA
      obtain ⟨cs, a1, a2, -⟩ := HJi.out.arr
      have HA1 := Lib.hid (HVA.out.trans a1)
      have HA2 := Lib.hid a2
      clear a1 a2
      by_cases hi0 : i = 0
      case neg =>
        have hib : ((i : Int) == 0) = false := by simp; omega
        have HI0 := Lib.hid hi0
        clear hi0
        gi_wp2_with fail
        obtain ⟨r1, r2, r3, r4⟩ := HVR.out
        refine ⟨HVL.out, ?_⟩
        have hky : Ky W (V.putObj (w2.heap.size + 1) (L .ready none)) w1.heap.size (w2.heap.size + 1) := ⟨r1, r2, r3, by simp; omega, fun k h1 h2 h3 => (World.putObj_heap_other (fun e => h3 e)).trans (HVO.out k h1 h3)⟩
        exact ⟨HJi.out.put HBL.out hky (World.putObj_heap_same (by omega)) ⟨cs, (World.putObj_heap_other (fun e => hne1 e)).trans HA1.out, HA2.out, fun h => absurd h HI0.out⟩, hky⟩
      subst hi0
      have HLG : Hid (LI = G) := by show _ = _; rw [← HLI.out, List.drop_zero]; exact HGE.out
      have hlg := HLG.out
      subst hlg
      have hcp : ∃ X : World, (∀ ty, (Builtin.copy_ #[56, 56] ty #[.slice (some ⟨w1.heap.size, 0, none⟩) m m, .slice (some ⟨W.heap.size, 0, none⟩) 16 16]).run Try.prog V.drew = .ok (.int .i64 (m : Nat)) X) ∧ X.heap[w1.heap.size]? = some (.cells (intsV LI).toArray 3 (0, 0)) ∧ (∀ k, k ≠ w1.heap.size → X.heap[k]? = V.heap[k]?) ∧ X.heap.size = V.heap.size ∧ X.os = V.os ∧ X.tape = V.tape ∧ X.output = V.output := by
        have hl : (intsV LI).length = m := by unfold intsV; rw [List.length_map]; exact HGL.out
        have hg : V.drew.heap[w1.heap.size]? = some (.cells cs.toArray 3 (0, 0)) := HA1.out
        have hr : ∀ ty, _ := fun ty => run_copy_row (P := Try.prog) V.drew 56 56 ty 3 w1.heap.size 0 m m ⟨W.heap.size, 0, none⟩ 16 16 cs.toArray 3 (intsV LI) Try.underlying56 sizeI hg (by rw [hl]; exact (Nat.min_eq_right hm16).symm) (fun j v hv => by
          rw [add_addr, Nat.zero_add]
          unfold intsV at hv
          rw [List.getElem?_map] at hv
          cases hj : LI[j]? with
          | none => rw [hj] at hv; cases hv
          | some x => rw [hj] at hv; cases hv; exact arr_int HVB.out hj) (by rw [hl, Nat.zero_add]; show _ ≤ cs.toArray.size; rw [List.size_toArray, HA2.out]; exact Nat.le_refl _) (fun v hv => by unfold intsV at hv; obtain ⟨x, -, rfl⟩ := List.mem_map.1 hv; rfl)
        have hs : (cs.toArray.toList.take 0 ++ intsV LI ++ cs.toArray.toList.drop (0 + (intsV LI).length)) = intsV LI := by
          rw [hl, Nat.zero_add, List.take_zero, List.nil_append]
          show intsV LI ++ cs.drop m = _
          rw [List.drop_of_length_le (by rw [HA2.out]; exact Nat.le_refl _), List.append_nil]
        rw [hs, hl] at hr
        exact ⟨_, hr, setRow_heap V.drew w1.heap.size cs.toArray (intsV LI).toArray _ _ hg, fun k hk => setRow_other V.drew w1.heap.size k _ hk, by simp [World.setRow], rfl, rfl, rfl⟩
      obtain ⟨X, hcp, x1, x2, x3, x4, x5, x6⟩ := hcp
      have HX1 := Lib.hid x1
      have HX2 := Lib.hid x2
      have HX3 := Lib.hid x3
      have HX4 := Lib.hid (And.intro x4 (And.intro x5 x6))
      clear x1 x2 x3 x4 x5 x6
      have hsl := slice_left V.drew W.heap.size
      gi_wp2_with fail
      gi_region
      all_goals gi_wp2_with fail
      all_goals
        obtain ⟨r1, r2, r3, r4⟩ := HVR.out
        obtain ⟨x4, x5, x6⟩ := HX4.out
        have x3 := HX3.out
        refine ⟨(HX2.out _ (fun e => hne1 e.symm)).trans HVL.out, ?_⟩
        have hky : Ky W (X.putObj (w2.heap.size + 1) (L .ready none)) w1.heap.size (w2.heap.size + 1) := ⟨x4.trans r1, x5.trans r2, x6.trans r3, by simp; omega, fun k h1 h2 h3 => (World.putObj_heap_other (fun e => h3 e)).trans ((HX2.out k h2).trans (HVO.out k h1 h3))⟩
        exact ⟨HJi.out.put HBL.out hky (World.putObj_heap_same (by omega)) ⟨intsV LI, (World.putObj_heap_other (fun e => hne1 e)).trans HX1.out, by unfold intsV; rw [List.length_map]; exact HGL.out, fun _ => rfl⟩, hky⟩
    rintro e W2 ⟨⟨v9, rfl⟩, hJ, -, hK2⟩
    refine ⟨⟨_, rfl⟩, .inl ⟨hJ.rcd, ?_⟩⟩
    have hls : w2.heap.size + 1 < W2.heap.size := box_lt hJ.rcd
    have hpz : ∀ k, k ≠ w2.heap.size + 1 → (W2.putObj (w2.heap.size + 1) (L .exhausted none)).heap[k]? = W2.heap[k]? := fun k hk => World.putObj_heap_other (fun e => hk e)
    obtain ⟨cs, a1, a2, a3⟩ := hJ.arr
    have a3 := a3 rfl
    subst a3
    have hb9 := HBL.out.na
    have hb8 := HBL.out.nl
    have hb7 := HBL.out.old
    have HA9 : Hid ((W2.putObj (w2.heap.size + 1) (L .exhausted none)).heap[w1.heap.size]? = some (.cells (intsV G).toArray 3 (0, 0))) := (hpz _ (fun e => hb9.2.1 e.symm)).trans a1
    have hq9 : (W2.putObj (w2.heap.size + 1) (L .exhausted none)).cell? ⟨w1.heap.size + 1, 0, none⟩ = some (.slice (some ⟨w1.heap.size, 0, none⟩) m m) := (box_cell ((hpz _ hb8.1).trans hJ.hdr) 0).1
    have HD9 : Hid ((W2.putObj (w2.heap.size + 1) (L .exhausted none)).heap[w2.heap.size]? = some (.deferred (some []))) := (hpz _ hb8.2).trans hJ.def_
    have HC9 : Hid (Chg w (W2.putObj (w2.heap.size + 1) (L .exhausted none)) mg none) := ⟨hJ.chg.os, hJ.chg.tape, hJ.chg.output, by have := hJ.chg.size; simpa using this, fun k h1 h2 h3 => (hpz k (by omega)).trans (hJ.chg.block k h1 h2 h3)⟩
    obtain ⟨U9, hV⟩ : ∃ U9, W2.putObj (w2.heap.size + 1) (L .exhausted none) = U9 := ⟨_, rfl⟩
    rw [hV] at HA9 hq9 HD9 HC9 ⊢
    clear hV hpz hJ a1 a2 hls hK2
    simp only [Exit.inBlock, Exit.then]
    refine (show ∀ (a : Act) (w : World), Code.wpIn _ _ _ _ _ a w → _ from by assumption) _ _ ?_
    rw [wpIn_wide]
    go_wp2_with fail
    refine ⟨by simp, .inl ⟨_, _, rfl, run_takeDeferred HD9.out, ?_⟩⟩
    refine ⟨_, results_tmp2 rfl _ _ _, ?_⟩
    refine ⟨⟨HC9.out.os, HC9.out.tape, HC9.out.output, by have := HC9.out.size; simpa using this, fun k h1 h2 h3 => (World.putObj_heap_other (by have := HZ2.out; have := HB1.out.size; omega)).trans (HC9.out.block k h1 h2 h3)⟩, _, _, _, rfl, ?_⟩
    rw [HGE.out]
    refine ⟨HGL.out.symm, Nat.le_refl _, by unfold maxLen; omega, (fun q => nomatch q), fun d hd _ => ?_⟩
    cases hd
    have hA : (U9.putObj w2.heap.size (.deferred none)).heap[w1.heap.size]? = some (.cells (intsV G).toArray 3 (0, 0)) := (World.putObj_heap_other (fun e => by have := HZ2.out; omega)).trans HA9.out
    refine ⟨rfl, box_lt hA, fun j u hu => ?_⟩
    rw [intsV_flat] at hu
    rw [Nat.zero_add, (box_cell hA j).1, List.getElem?_toArray]
    exact hu
end Go.Proofs.Ythhpgahnhpgmeaa.Ne

namespace Go.Proofs.Ythhpgahnhpgmeaa.Ne
open Go.RowKit Go.V Go.Proofs Go.Sort Go.Maps

theorem NX.chg {w w' : World} {g mg : Nat} {n : Net} {hs hl : Hdr} {x : Wgh} (h : NX w g n hs hl x) (hc : Chg w w' mg none) (hg : g + 1 < mg) : NX w' g n hs hl x :=
  ⟨hc.box h.n (by omega) (by simp), hc.box h.x (by omega) (by simp)⟩
theorem slq_sl {α : Type} {c : Cod α} {w : World} {a : Option Addr} {m cap : Nat} {xs : List α} (h : SlQ c w a m cap xs) : ∃ _ : True, m = xs.length := ⟨trivial, h.hlen⟩

set_option maxHeartbeats 8000000 in
set_option maxRecDepth 100000 in
theorem vbestlaw_any (n : Net) (hs hl : Hdr) (x : Wgh) (hp : Hdr) (gs : List (List Pnt)) (w : World) (h : NetIn w n hs hl) (hP : PtsIn w hp.a hp.n hp.cap gs) :
    Calls Try.prog 4 #[n.val hs hl, x.val, .slice hp.a hp.n hp.cap] w fun e w' => e = .returned (.bool true) ∧ Below w.heap.size w w' := by
  obtain ⟨sa, k, sc⟩ := hs
  obtain ⟨la, m, lc⟩ := hl
  obtain ⟨xr, xm, xf, xc⟩ := x
  obtain ⟨pa, pn, pc⟩ := hp
  have hp9 : pn ≤ 9223372036854775807 := hP.len.2
  have HPL : Hid (pn = gs.length) := hP.len.1
  obtain ⟨W, hWe⟩ : ∃ W, (w.alloc (n.box ⟨sa, k, sc⟩ ⟨la, m, lc⟩)).alloc (Wgh.mk xr xm xf xc).box = W := ⟨_, rfl⟩
  have HB : Hid (Below w.heap.size w W) := by
    rw [← hWe]; exact ((Below.refl _ _).alloc (Nat.le_refl _) _).alloc (by simp) _
  have HL : Hid (NX W w.heap.size n ⟨sa, k, sc⟩ ⟨la, m, lc⟩ ⟨xr, xm, xf, xc⟩) := by rw [← hWe]; exact NX.new _ _ _ _ _
  have HH := Lib.hid h
  have HP := Lib.hid hP
  have hk9 : k ≤ 9223372036854775807 := by have h1 : k ≤ sc := h.s.hcap; have h2 : sc ≤ maxLen := h.s.hmax; unfold maxLen at h2; omega
  clear h hP
  go_enter Try.func4, Try.ntmps4
  go_upto_region 3 with (go_at_call 16; refine (awake23_any _).mono ?_; rintro e w1 ⟨rfl, hb1⟩; have HB1 := Lib.hid (HB.out.trans (hb1.mono HB.out.size)); have HL1 := Lib.hid (HL.out.below hb1); clear hb1)
  obtain ⟨n0, n1, n2, x0, x1, x2, x3⟩ := HL1.out.cells
  clear HB HL hWe
  obtain ⟨fb, hfb⟩ : ∃ fb, decide (k ≤ 60 ∧ m ≤ 120) = fb := ⟨_, rfl⟩
  have HFB := Lib.hid hfb
  clear hfb
  cases fb with
  | false =>
    go_wp2_with (go_at_call 17; refine (few_any n ⟨sa, k, sc⟩ ⟨la, m, lc⟩ _).mono ?_; rintro e w2 ⟨rfl, hb2⟩; rw [HFB.out]; have HB2 := Lib.hid (HB1.out.trans (hb2.mono HB1.out.size)); clear hb2)
    go_ret
    exact ⟨rfl, HB2.out⟩
  | true =>
  obtain ⟨k60, m120⟩ := of_decide_eq_true HFB.out
  have HM : Hid (k ≤ 1000000 ∧ m ≤ 1000000) := ⟨by omega, by omega⟩
  by_cases hk12 : (12 : Int) < (k : Int)
  · go_wp2_with (go_at_call 17; refine (few_any n ⟨sa, k, sc⟩ ⟨la, m, lc⟩ _).mono ?_; rintro e w2 ⟨rfl, hb2⟩; rw [HFB.out]; have HB2 := Lib.hid (HB1.out.trans (hb2.mono HB1.out.size)); have HL2 := Lib.hid (HL1.out.below hb2); obtain ⟨y0, y1, y2, -, -, -, -⟩ := HL2.out.cells; clear hb2)
    go_ret
    exact ⟨rfl, HB2.out⟩
  have hkd : decide ((12 : Int) < (k : Int)) = false := decide_eq_false hk12
  obtain ⟨ce, hce⟩ : ∃ ce, checkE n = ce := ⟨_, rfl⟩
  have HCE := Lib.hid hce
  clear hce
  by_cases he : ce = 0
  case neg =>
    have e0 : (ce != 0) = true := by simpa using he
    clear he
    go_wp2_with (first
      | (go_at_call 17; refine (few_any n ⟨sa, k, sc⟩ ⟨la, m, lc⟩ _).mono ?_; rintro e w2 ⟨rfl, hb2⟩; rw [HFB.out]; have HB2 := Lib.hid (HB1.out.trans (hb2.mono HB1.out.size)); have HL2 := Lib.hid (HL1.out.below hb2); obtain ⟨y0, y1, y2, -, -, -, -⟩ := HL2.out.cells; clear hb2)
      | (go_at_call 18; go_loud (refine (rcheck_any n ⟨sa, k, sc⟩ ⟨la, m, lc⟩ _ HM.out (HH.out.below HB2.out)).mono ?_); rintro e w3 ⟨rfl, hb3⟩; rw [HCE.out]; have HB3 := Lib.hid (HB2.out.trans (hb3.mono HB2.out.size)); clear hb3))
    go_ret
    exact ⟨rfl, HB3.out⟩
  case pos =>
  subst he
  obtain ⟨fp, hfp⟩ : ∃ fp, fewP gs = fp := ⟨_, rfl⟩
  have HFP := Lib.hid hfp
  clear hfp
  cases fp with
  | false =>
    go_wp2_with (first
      | (go_at_call 17; refine (few_any n ⟨sa, k, sc⟩ ⟨la, m, lc⟩ _).mono ?_; rintro e w2 ⟨rfl, hb2⟩; rw [HFB.out]; have HB2 := Lib.hid (HB1.out.trans (hb2.mono HB1.out.size)); have HL2 := Lib.hid (HL1.out.below hb2); obtain ⟨y0, y1, y2, -, -, -, -⟩ := HL2.out.cells; clear hb2)
      | (go_at_call 18; go_loud (refine (rcheck_any n ⟨sa, k, sc⟩ ⟨la, m, lc⟩ _ HM.out (HH.out.below HB2.out)).mono ?_); rintro e w3 ⟨rfl, hb3⟩; rw [HCE.out]; have HB3 := Lib.hid (HB2.out.trans (hb3.mono HB2.out.size)); clear hb3)
      | (go_at_call 19; refine (fewP_any pa pn pc gs _ (HP.out.below HB3.out)).mono ?_; rintro e w4 ⟨rfl, rfl⟩; rw [HFP.out]))
    go_ret
    exact ⟨rfl, HB3.out⟩
  | true =>
  have hpn40 : pn ≤ 40 := by
    have := HFP.out
    unfold fewP at this
    rw [Bool.and_eq_true] at this
    have := of_decide_eq_true this.2
    have := HPL.out
    omega
  go_upto_region 5 with (first
    | (go_at_call 17; refine (few_any n ⟨sa, k, sc⟩ ⟨la, m, lc⟩ _).mono ?_; rintro e w2 ⟨rfl, hb2⟩; rw [HFB.out]; have HB2 := Lib.hid (HB1.out.trans (hb2.mono HB1.out.size)); have HL2 := Lib.hid (HL1.out.below hb2); obtain ⟨y0, y1, y2, -, -, -, -⟩ := HL2.out.cells; clear hb2)
    | (go_at_call 18; go_loud (refine (rcheck_any n ⟨sa, k, sc⟩ ⟨la, m, lc⟩ _ HM.out (HH.out.below HB2.out)).mono ?_); rintro e w3 ⟨rfl, hb3⟩; rw [HCE.out]; have HB3 := Lib.hid (HB2.out.trans (hb3.mono HB2.out.size)); have HL3 := Lib.hid (HL2.out.below hb3); clear hb3)
    | (go_at_call 19; refine (fewP_any pa pn pc gs _ (HP.out.below HB3.out)).mono ?_; rintro e w4 ⟨rfl, rfl⟩; rw [HFP.out]))
  clear n0 n1 n2 x0 x1 x2 x3 y0 y1 y2 hkd HL1 HL2
  obtain ⟨n0, n1, n2, -, -, -, -⟩ := HL3.out.cells
  go_upto_region 6 with (go_at_call 20; go_loud (refine (tnew_any n ⟨sa, k, sc⟩ ⟨la, m, lc⟩ _ HM.out (HH.out.below HB3.out)).mono ?_); rintro e w4 ⟨hb4, -, hf⟩; obtain ⟨tg, rfl, mg, ht, hne⟩ := hf HCE.out; have HB4 := Lib.hid (HB3.out.trans (hb4.mono HB3.out.size)); have HL4 := Lib.hid (HL3.out.below hb4); have HT4 := Lib.hid ht; have HNE := Lib.hid hne; clear hb4 hf ht hne)
  have hw3 : w.heap.size + 1 < w3.heap.size := box_lt HL3.out.x
  have HMG : Hid (mg < w4.heap.size ∧ w.heap.size + 1 < mg ∧ w.heap.size ≤ mg) := ⟨HT4.out.mg_lt, by have := HT4.out.bm; omega, by have := HT4.out.bm; omega⟩
  clear n0 n1 n2
  obtain ⟨-, -, -, x0, x1, x2, x3⟩ := HL4.out.cells
  have HPW := Lib.hid (HP.out.below HB4.out)
  have hw4 : w.heap.size + 1 < w4.heap.size := box_lt HL4.out.x
  obtain ⟨ve, hve⟩ : ∃ ve, vmayE ⟨xr, xm, xf, xc⟩ gs = ve := ⟨_, rfl⟩
  have HVE := Lib.hid hve
  clear hve
  have hpn40' : gs.length ≤ 40 := by have := HPL.out; omega
  by_cases hv0 : ve = 0
  case neg =>
    have HV0 := Lib.hid hv0
    have hv0b : (ve != 0) = true := by simpa using hv0
    clear hv0
    go_upto_region 8 with (first
      | (go_at_call 21; refine (vbest_any _ _ tg mg 0 n ⟨sa, k, sc⟩ ⟨la, m, lc⟩ ⟨xr, xm, xf, xc⟩ ⟨pa, pn, pc⟩ gs HT4.out HCE.out k60 m120 HPW.out hpn40' (by omega) HNE.out).mono ?_; rintro e w5 ⟨ht5, hc5, hno, -⟩; have he5 := hno (by rw [HVE.out]; exact HV0.out); subst he5; rw [HVE.out]; have HT5 := Lib.hid ht5; have HC5 := Lib.hid hc5; have HL5 := Lib.hid (HL4.out.chg hc5 HMG.out.2.1); obtain ⟨-, -, -, z0, z1, z2, z3⟩ := HL5.out.cells; have HB5 : Hid (Below w.heap.size w w5) := HB4.out.trans (hc5.below HMG.out.2.2 (by simp) HB4.out.size); clear ht5 hc5 hno)
      | (go_at_call 22; refine (vleft_any _ _ tg mg (0 + 14000) n ⟨sa, k, sc⟩ ⟨la, m, lc⟩ ⟨xr, xm, xf, xc⟩ ⟨pa, pn, pc⟩ gs HT5.out HCE.out k60 m120 (HP.out.below HB5.out) hpn40' (by omega) HNE.out).mono ?_; rintro e w6 ⟨hc6, hno, -⟩; have he6 := hno (by rw [HVE.out]; exact HV0.out); subst he6; rw [HVE.out]; have HL6 := Lib.hid (HL5.out.chg hc6 HMG.out.2.1); have HB6 : Hid (Below w.heap.size w w6) := HB5.out.trans (hc6.below HMG.out.2.2 (by simp) HB5.out.size); clear hc6 hno))
    clear x0 x1 x2 x3 z0 z1 z2 z3
    obtain ⟨-, -, -, x0, x1, x2, x3⟩ := HL6.out.cells
    go_wp2_with (go_at_call 23; go_loud (refine (rvmay_any ⟨xr, xm, xf, xc⟩ pa pn pc gs _ (HP.out.below HB6.out)).mono ?_); rintro e w7 ⟨rfl, hb7⟩; rw [HVE.out]; have HB7 := Lib.hid (HB6.out.trans (hb7.mono HB6.out.size)); clear hb7)
    go_ret
    exact ⟨ret_bool (by simp), HB7.out⟩
  case pos =>
    subst hv0
    obtain ⟨o1, o2, o3, o4⟩ := vmay_ok HVE.out
    have HRO := Lib.hid o3
    obtain ⟨BS1, BS2⟩ := bestGo_eq (n := n) (k := k) HVE.out
    have HLE : Hid (∃ g0 gr, gs = g0 :: gr ∧ leastL (seqE n k ⟨xr, xm, xf, xc⟩ gs) gs g0 = bkL (stepE n k ⟨xr, xm, xf, xc⟩) gs) := by
      cases hg : gs with
      | nil => exact absurd hg o4
      | cons g0 gr =>
        refine ⟨g0, gr, rfl, leastL_eq _ g0 gr (fun r hr => (o3 r (by rw [hg]; exact hr)).1) _ (fun ss => ?_)⟩
        exact seq_tc n k ⟨xr, xm, xf, xc⟩ (g0 :: gr) ss o1 (by rw [← hg]; exact o2)
    obtain ⟨O, hO⟩ : ∃ O, bestGo (seqE n k ⟨xr, xm, xf, xc⟩ gs) (allE [[]] gs) ([], -1) = O := ⟨_, rfl⟩
    rw [hO] at BS1 BS2
    have HOE := Lib.hid hO
    obtain ⟨st, hst⟩ : ∃ st, stepE n k ⟨xr, xm, xf, xc⟩ = st := ⟨_, rfl⟩
    rw [hst] at BS1 BS2 HLE
    have HST := Lib.hid hst
    have HS1 := Lib.hid BS1
    have HS2 := Lib.hid BS2
    clear hst BS1 BS2 o1 o2 o3 o4 hO
    obtain ⟨R, hR⟩ : ∃ R, goE st gs none = R := ⟨_, rfl⟩
    have HR := Lib.hid hR
    clear hR
    obtain ⟨cn, hcn⟩ : ∃ cn, countGo 150 gs 1 = cn := ⟨_, rfl⟩
    have HCN := Lib.hid hcn
    clear hcn
    obtain ⟨LB, hLB⟩ : ∃ LB, bkL st gs = LB := ⟨_, rfl⟩
    rw [hLB] at HLE
    have HLB := Lib.hid hLB
    clear hLB
    have HGO : Hid (cn ≤ 150 → (∀ V, Below w.heap.size w V → Calls Try.prog 25 #[n.val ⟨sa, k, sc⟩ ⟨la, m, lc⟩, (Wgh.mk xr xm xf xc).val, .slice pa pn pc] V fun e w' => ∃ (a : Option Addr) (m cap : Nat), e = .returned (.tuple #[.slice a m cap, .int .i64 O.2]) ∧ SlQ icod w' a m cap O.1 ∧ m ≤ 1000000 ∧ Below V.heap.size V w') ∧
        (∀ V, Below w.heap.size w V → Calls Try.prog 27 #[n.val ⟨sa, k, sc⟩ ⟨la, m, lc⟩, (Wgh.mk xr xm xf xc).val, .slice pa pn pc] V fun e w' => ∃ v, e = .returned v ∧ Go.V.Own 3 icod V.heap.size w' v LB ∧ Below V.heap.size V w')) := by
      intro hcn
      have h16 : ∀ r ∈ gs, r.length ≤ 16 := fun r hr => (HRO.out r hr).2
      have hall : ∀ i, i ≤ gs.length → (allE [[]] (gs.take i)).length ≤ 150 := by
        intro i hi
        by_cases h0 : i = 0
        · subst h0; rw [List.take_zero]; show 1 ≤ 150; omega
        · exact count_ok 150 gs [[]] (by show countGo 150 gs 1 ≤ 150; rw [HCN.out]; exact hcn) i (by omega) hi
      refine ⟨fun V hV => rbest_any V n _ _ _ ⟨pa, pn, pc⟩ gs (HH.out.below hV) HCE.out k60 m120 (HP.out.below hV) hpn40' h16 hall O HOE.out, fun V hV => ?_⟩
      obtain ⟨g0, gr, hg, hE⟩ := HLE.out
      have hPV : PtsIn V pa pn pc gs := HP.out.below hV
      rw [← hE]
      rw [hg] at hPV hpn40' h16 hall ⊢
      exact rleast_any V n ⟨sa, k, sc⟩ ⟨la, m, lc⟩ ⟨xr, xm, xf, xc⟩ ⟨pa, pn, pc⟩ g0 gr (HH.out.below hV) HCE.out k60 m120 hPV hpn40' h16 hall
    cases R with
    | none =>
      go_upto_region 8 with (first
        | (go_at_call 21; refine (vbest_any _ _ tg mg 0 n ⟨sa, k, sc⟩ ⟨la, m, lc⟩ ⟨xr, xm, xf, xc⟩ ⟨pa, pn, pc⟩ gs HT4.out HCE.out k60 m120 HPW.out hpn40' (by omega) HNE.out).mono ?_; rintro e w5 ⟨ht5, hc5, -, hy⟩; have he5 := (hy HVE.out).1 (by rw [HST.out]; exact HR.out); subst he5; have HT5 := Lib.hid ht5; have HL5 := Lib.hid (HL4.out.chg hc5 HMG.out.2.1); obtain ⟨-, -, -, z0, z1, z2, z3⟩ := HL5.out.cells; have HB5 : Hid (Below w.heap.size w w5) := HB4.out.trans (hc5.below HMG.out.2.2 (by simp) HB4.out.size); clear ht5 hc5 hy)
        | (go_at_call 22; refine (vleft_any _ _ tg mg (0 + 14000) n ⟨sa, k, sc⟩ ⟨la, m, lc⟩ ⟨xr, xm, xf, xc⟩ ⟨pa, pn, pc⟩ gs HT5.out HCE.out k60 m120 (HP.out.below HB5.out) hpn40' (by omega) HNE.out).mono ?_; rintro e w6 ⟨hc6, -, hy6⟩; obtain ⟨fa, fm, fc, rfl, hs6⟩ := hy6 HVE.out; rw [HST.out, HLB.out] at hs6; have HL6 := Lib.hid (HL5.out.chg hc6 HMG.out.2.1); have HB6 : Hid (Below w.heap.size w w6) := HB5.out.trans (hc6.below HMG.out.2.2 (by simp) HB5.out.size); have HS6 := Lib.hid hs6; clear hc6 hy6 hs6))
      clear x0 x1 x2 x3 z0 z1 z2 z3
      obtain ⟨-, -, -, x0, x1, x2, x3⟩ := HL6.out.cells
      by_cases hc150 : (150 : Int) < (cn : Int)
      · go_wp2_with (first
          | (go_at_call 23; go_loud (refine (rvmay_any ⟨xr, xm, xf, xc⟩ pa pn pc gs _ (HP.out.below HB6.out)).mono ?_); rintro e w7 ⟨rfl, hb7⟩; rw [HVE.out]; have HB7 := Lib.hid (HB6.out.trans (hb7.mono HB6.out.size)); have HL7 := Lib.hid (HL6.out.below hb7); obtain ⟨n0, n1, n2, z0, z1, z2, z3⟩ := HL7.out.cells; have HS7 := Lib.hid (HS6.out.below hb7); clear hb7)
          | (go_at_call 24; go_loud (refine (rcount_any pa pn pc gs _ (HP.out.below HB7.out) (fun r hr => (HRO.out r hr).2)).mono ?_); rintro e w8 ⟨rfl, rfl⟩; rw [HCN.out]))
        go_ret
        exact ⟨rfl, HB7.out⟩
      have HK := Lib.hid (HGO.out (by omega))
      go_upto_region 15 with (first
        | (go_at_call 23; go_loud (refine (rvmay_any ⟨xr, xm, xf, xc⟩ pa pn pc gs _ (HP.out.below HB6.out)).mono ?_); rintro e w7 ⟨rfl, hb7⟩; rw [HVE.out]; have HB7 := Lib.hid (HB6.out.trans (hb7.mono HB6.out.size)); have HL7 := Lib.hid (HL6.out.below hb7); obtain ⟨n0, n1, n2, z0, z1, z2, z3⟩ := HL7.out.cells; have HS7 := Lib.hid (HS6.out.below hb7); clear hb7)
        | (go_at_call 24; go_loud (refine (rcount_any pa pn pc gs _ (HP.out.below HB7.out) (fun r hr => (HRO.out r hr).2)).mono ?_); rintro e w8 ⟨rfl, rfl⟩; rw [HCN.out]))
      clear x0 x1 x2 x3
      go_upto_region 16 with (go_at_call 25; go_loud (refine (HK.out.1 _ HB7.out).mono ?_); rintro e w9 ⟨ba, bm, bc, rfl, hq9, hm9, hb9⟩; have HB9 := Lib.hid (HB7.out.trans (hb9.mono HB7.out.size)); have HL9 := Lib.hid (HL7.out.below hb9); obtain ⟨t0, t1, t2, s0, s1, s2, s3⟩ := HL9.out.cells; have HS9 := Lib.hid (HS7.out.below hb9); have HQ9 := Lib.hid hq9; clear hb9 hq9 hm9)
      clear n0 n1 n2 z0 z1 z2 z3
      have ho2 : O.2 = -1 := by rw [HS1.out HR.out]
      rw [ho2]
      go_wp2_with (first
        | (go_at_call 27; go_loud (refine (HK.out.2 _ HB9.out).mono ?_); rintro e w10 ⟨v10, rfl, ho10, hb10⟩; obtain ⟨ga, gc, rfl, hsg, -⟩ := ho10.slice; have HB10 := Lib.hid (HB9.out.trans (hb10.mono HB9.out.size)); have HS10 := Lib.hid (HS9.out.below hb10); have HG10 := Lib.hid hsg; clear hb10 ho10 hsg)
        | (go_at_call 26; go_loud (refine (Is.isame_any fa fm fc LB ga _ gc LB _ HS10.out HG10.out).mono ?_); rintro e w11 ⟨rfl, hb11⟩; rw [show decide (LB = LB) = true from decide_eq_true rfl]; have HB11 := Lib.hid (HB10.out.trans (hb11.mono HB10.out.size)); clear hb11))
      go_ret
      exact ⟨rfl, HB11.out⟩
    | some l =>
      have HO9 : Hid (O = (l, (pickE st none gs).1)) := (HS2.out l HR.out).1
      have HC0 : Hid (0 ≤ (pickE st none gs).1) := (HS2.out l HR.out).2
      obtain ⟨c, hpc⟩ : ∃ c, (pickE st none gs).1 = c := ⟨_, rfl⟩
      rw [hpc] at HO9 HC0
      have HPC := Lib.hid hpc
      clear hpc
      have HGP : Hid (0 < gs.length) := by
        obtain ⟨g0, gr, hg, -⟩ := HLE.out
        rw [hg]; show 0 < _; simp
      have HLN : Hid (l.length = gs.length) := by
        have h1 := (best_seq (n := n) (k := k) HVE.out).2 l (by rw [HST.out]; exact HR.out)
        exact h1.1
      go_upto_region 8 with (first
        | (go_at_call 21; refine (vbest_any _ _ tg mg 0 n ⟨sa, k, sc⟩ ⟨la, m, lc⟩ ⟨xr, xm, xf, xc⟩ ⟨pa, pn, pc⟩ gs HT4.out HCE.out k60 m120 HPW.out hpn40' (by omega) HNE.out).mono ?_; rintro e w5 ⟨ht5, hc5, -, hy⟩; obtain ⟨v, he5, ho⟩ := (hy HVE.out).2 l (by rw [HST.out]; exact HR.out); obtain ⟨va, vc, rfl, hsl, -⟩ := ho.slice; subst he5; rw [HST.out, HPC.out]; have HT5 := Lib.hid ht5; have HL5 := Lib.hid (HL4.out.chg hc5 HMG.out.2.1); obtain ⟨-, -, -, z0, z1, z2, z3⟩ := HL5.out.cells; have HB5 : Hid (Below w.heap.size w w5) := HB4.out.trans (hc5.below HMG.out.2.2 (by simp) HB4.out.size); have HV5 := Lib.hid hsl.q; clear ht5 hc5 hy ho hsl)
        | (go_at_call 22; refine (vleft_any _ _ tg mg (0 + 14000) n ⟨sa, k, sc⟩ ⟨la, m, lc⟩ ⟨xr, xm, xf, xc⟩ ⟨pa, pn, pc⟩ gs HT5.out HCE.out k60 m120 (HP.out.below HB5.out) hpn40' (by omega) HNE.out).mono ?_; rintro e w6 ⟨hc6, -, hy6⟩; obtain ⟨fa, fm, fc, rfl, hs6⟩ := hy6 HVE.out; rw [HST.out, HLB.out] at hs6; have HL6 := Lib.hid (HL5.out.chg hc6 HMG.out.2.1); have HB6 : Hid (Below w.heap.size w w6) := HB5.out.trans (hc6.below HMG.out.2.2 (by simp) HB5.out.size); have HS6 := Lib.hid hs6; have HV6 := Lib.hid (slq_chgm HT5.out.mapAt hc6 HV5.out); clear hc6 hy6 hs6))
      clear x0 x1 x2 x3 z0 z1 z2 z3
      obtain ⟨-, -, -, x0, x1, x2, x3⟩ := HL6.out.cells
      by_cases hc150 : (150 : Int) < (cn : Int)
      · go_wp2_with (first
          | (go_at_call 23; go_loud (refine (rvmay_any ⟨xr, xm, xf, xc⟩ pa pn pc gs _ (HP.out.below HB6.out)).mono ?_); rintro e w7 ⟨rfl, hb7⟩; rw [HVE.out]; have HB7 := Lib.hid (HB6.out.trans (hb7.mono HB6.out.size)); have HL7 := Lib.hid (HL6.out.below hb7); obtain ⟨n0, n1, n2, z0, z1, z2, z3⟩ := HL7.out.cells; have HS7 := Lib.hid (HS6.out.below hb7); clear hb7)
          | (go_at_call 24; go_loud (refine (rcount_any pa pn pc gs _ (HP.out.below HB7.out) (fun r hr => (HRO.out r hr).2)).mono ?_); rintro e w8 ⟨rfl, rfl⟩; rw [HCN.out]))
        go_ret
        exact ⟨rfl, HB7.out⟩
      have HK := Lib.hid (HGO.out (by omega))
      go_upto_region 15 with (first
        | (go_at_call 23; go_loud (refine (rvmay_any ⟨xr, xm, xf, xc⟩ pa pn pc gs _ (HP.out.below HB6.out)).mono ?_); rintro e w7 ⟨rfl, hb7⟩; rw [HVE.out]; have HB7 := Lib.hid (HB6.out.trans (hb7.mono HB6.out.size)); have HL7 := Lib.hid (HL6.out.below hb7); obtain ⟨n0, n1, n2, z0, z1, z2, z3⟩ := HL7.out.cells; have HS7 := Lib.hid (HS6.out.below hb7); have HV7 := Lib.hid (HV6.out.below hb7); clear hb7)
        | (go_at_call 24; go_loud (refine (rcount_any pa pn pc gs _ (HP.out.below HB7.out) (fun r hr => (HRO.out r hr).2)).mono ?_); rintro e w8 ⟨rfl, rfl⟩; rw [HCN.out]))
      clear x0 x1 x2 x3
      go_upto_region 16 with (go_at_call 25; go_loud (refine (HK.out.1 _ HB7.out).mono ?_); rintro e w9 ⟨ba, bm, bc, rfl, hq9, hm9, hb9⟩; have HB9 := Lib.hid (HB7.out.trans (hb9.mono HB7.out.size)); have HL9 := Lib.hid (HL7.out.below hb9); obtain ⟨t0, t1, t2, s0, s1, s2, s3⟩ := HL9.out.cells; have HS9 := Lib.hid (HS7.out.below hb9); have HQ9 := Lib.hid hq9; have hq9 : SlQ icod w9 ba bm bc l := (by have h9 := HQ9.out; rw [HO9.out] at h9; exact h9); have HQL9 := Lib.hid hq9; have HV9 := Lib.hid (HV7.out.below hb9); clear hb9 hq9 hm9)
      clear n0 n1 n2 z0 z1 z2 z3
      have ho2 : O.2 = c := by rw [HO9.out]
      rw [ho2]
      have hcd : decide (c < 0) = false := decide_eq_false (by have := HC0.out; omega)
      clear ho2
      go_upto_region 18 with (first
        | (go_at_call 27; go_loud (refine (HK.out.2 _ HB9.out).mono ?_); rintro e w10 ⟨v10, rfl, ho10, hb10⟩; obtain ⟨ga, gc, rfl, hsg, -⟩ := ho10.slice; have HB10 := Lib.hid (HB9.out.trans (hb10.mono HB9.out.size)); have HS10 := Lib.hid (HS9.out.below hb10); have HG10 := Lib.hid hsg; have HQ10 := Lib.hid (HQL9.out.below hb10); have HV10 := Lib.hid (HV9.out.below hb10); clear hb10 ho10 hsg)
        | (go_at_call 26; go_loud (refine (Is.isame_any fa fm fc LB ga _ gc LB _ HS10.out HG10.out).mono ?_); rintro e w11 ⟨rfl, hb11⟩; rw [show decide (LB = LB) = true from decide_eq_true rfl]; have HB11 := Lib.hid (HB10.out.trans (hb11.mono HB10.out.size)); have HQ11 := Lib.hid (HQ10.out.below hb11); have HV11 := Lib.hid (HV10.out.below hb11); clear hb11))
      go_wp2_with (go_at_call 26; go_loud (refine (Is.isame_any va l.length vc l ba bm bc l _ (HV11.out.hat (by rw [HLN.out]; have := HPL.out; have := HGP.out; omega)) (HQ11.out.hat (by rw [HQ11.out.hlen, HLN.out]; have := HPL.out; have := HGP.out; omega))).mono ?_); rintro e w12 ⟨rfl, hb12⟩; rw [show decide (l = l) = true from decide_eq_true rfl]; have HB12 := Lib.hid (HB11.out.trans (hb12.mono HB11.out.size)); clear hb12)
      go_ret
      exact ⟨ret_bool (by simp), HB12.out⟩
end Go.Proofs.Ythhpgahnhpgmeaa.Ne

namespace Go.Proofs.Ythhpgahnhpgmeaa.lawViterbiBest
open Go.ChangeShapes Go.WideShapes Go.ChangeAt Go.RowKit Go.V Go.Proofs.Ythhpgahnhpgmeaa.Ne

theorem own : ownKnob Try.prog.godebug = none := by kernel_rfl
theorem laidOut : laidOutB Try.prog = true := by kernel_rfl

set_option maxRecDepth 100000 in
theorem lifted (os : Os) (started : os.Started) (H : Type) (enc : TypeId × Value → H) :
    ReturnsInHanded {} Try.checked os 4 .any (Rows.viterbiBestSpec.pre6 enc Try.prog Try.f4 Rows.viterbiBestRow.domain false) (Rows.viterbiBestSpec.post enc Try.prog Try.f4 false true false false) := by
  refine returnsInHanded_of_change (C := Try.checked) own started (by kernel_rfl) Try.func4
    (ChangeSpec.witness6 (enc := enc) (C := Try.checked) false ⟨#[], #[.agg #[.int .i64 0, .slice none 0 0, .slice none 0 0], .agg #[.int .i64 0, .int .i64 0, .int .i64 0, .int .i64 0], .slice none 0 0], []⟩ 8 (by kernel_rfl) (by kernel_rfl) (by kernel_rfl) (by kernel_rfl)) ?_
  intro W base args ds gs before hval0 hW hcnd _
  have hval : ∀ (j : Nat) t v, Try.f4.params[j]? = some t → args[j]? = some v → Value.okWide Try.prog W .any base t v := hval0
  have hW' := hW
  obtain ⟨p, q, hA0, hV, rfl, hfz, hnd⟩ := hW
  have hA : DataW.TrodAll enc Try.prog W 0 (fun _ => true) true Try.f4.params.toList args.toList ds p := hA0
  rw [Try.params4] at hA hval
  obtain ⟨v0, vs0, d0, ds0, p0, q0, hargs, rfl, rfl, h0, r0⟩ := trodAll_cons hA
  obtain ⟨v1, vs1, d1, ds1, p1, q1, rfl, rfl, rfl, h1, r1⟩ := trodAll_cons r0
  obtain ⟨v2, vs2, d2, ds2, p2, q2, rfl, rfl, rfl, h2, r2⟩ := trodAll_cons r1
  obtain ⟨rfl, rfl, rfl⟩ := trodAll_nil r2
  obtain rfl : args = #[v0, v1, v2] := by cases args; simp_all
  obtain ⟨rfl, rfl⟩ := trodVars_none hV
  have k0 := h0
  have lt0 : ∀ x ∈ p0, x.block < W.heap.size := by obtain ⟨m, hm⟩ := k0; exact DataW.trod_lt m _ _ _ hm
  have k1 := h1
  have lt1 : ∀ x ∈ p1, x.block < W.heap.size := by obtain ⟨m, hm⟩ := k1; exact DataW.trod_lt m _ _ _ hm
  have k2 := h2
  have lt2 : ∀ x ∈ p2, x.block < W.heap.size := by obtain ⟨m, hm⟩ := k2; exact DataW.trod_lt m _ _ _ hm
  obtain ⟨nt, hs, hl, rfl, hnt, -, -, -⟩ := open_net (hval 0 46 v0 rfl rfl) h0
  obtain ⟨wx, rfl⟩ := open_wgh (hval 1 48 v1 rfl rfl) h1
  obtain ⟨hp, gs, rfl, hpts⟩ := open_pts (hval 2 49 v2 rfl rfl) h2
  clear hA0 hval0
  refine (vbestlaw_any nt hs hl wx hp gs W hnt hpts).mono fun e W' ⟨he, bel⟩ => ?_
  subst he
  exact ⟨_, rfl, _, _, _, [], _, [], hW', trodAll_mk1 (shut_bool Try.underlying4 _), (trodAll_cons_mk (Below.trod laidOut (by kernel_rfl) (of_decide_eq_true (by kernel_rfl)) k0 bel lt0) (trodAll_cons_mk (Below.trod laidOut (by kernel_rfl) (of_decide_eq_true (by kernel_rfl)) k1 bel lt1) (trodAll_cons_mk (Below.trod laidOut (by kernel_rfl) (of_decide_eq_true (by kernel_rfl)) k2 bel lt2) trodAll_mk0))), rfl, bel.frame _, fun h => by cases h⟩

theorem over : Rows.viterbiBestRow.holds Try.pinned (OpenSpec.ofChange Rows.viterbiBestSpec) :=
  OpenClaim.holds_of_wide 4 Try.f4 rfl rfl rfl rfl rfl rfl rfl ⟨rfl, rfl, rfl, rfl, rfl⟩ rfl rfl rfl rfl rfl (by kernel_rfl) Try.func4 (by kernel_rfl)
    (of_decide_eq_true (by kernel_rfl)) (by unfold Func.isWrapper; first | (rw [if_pos (by decide +kernel)]; kernel_rfl) | (rw [if_neg (by decide +kernel)]; exact ⟨rfl, rfl⟩))
    (fun os started H enc _ => lifted os started H enc)

theorem proved : Rows.ViterbiBestSaid := over
#print axioms proved
end Go.Proofs.Ythhpgahnhpgmeaa.lawViterbiBest
