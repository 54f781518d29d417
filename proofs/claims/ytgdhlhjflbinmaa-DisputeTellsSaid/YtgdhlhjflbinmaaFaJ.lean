/- Fares: the ladder's spans, as an iterator tells them. -/
/- Fares: what is to be paid of a sum. -/
import Derived.Test.YtgdhlhjflbinmaaFaH
import Derived.Test.YtgdhlhjflbinmaaRange
namespace Go.Proofs.Ytgdhlhjflbinmaa
open Go.RowKit Go.V Go.Shelf Go.Proofs

attribute [local go_sem] Oper.semAt_some

def spansFrom : Pair → List Pair → List (Pair × Int)
  | fr, [] => [(fr, 281474976710656)]
  | fr, r :: l => (fr, r.a) :: spansFrom r l
def accOf (sum : Int) (all : Int) (xs : List (Pair × Int)) : Int := xs.foldl (fun all x => all + (min sum x.2 - x.1.a) * x.1.b / 1000) all
theorem payGo_done (sum : Int) : ∀ (l : List Pair) (fr : Pair) (all : Int), (∀ y ∈ spansFrom fr l, y.1.a < sum) → payGo sum fr l all = accOf sum all (spansFrom fr l)
  | [], fr, all, h => by
    have := h (fr, 281474976710656) (by simp [spansFrom])
    unfold payGo
    rw [if_neg (by simp only at this; omega)]; rfl
  | r :: l, fr, all, h => by
    have := h (fr, r.a) (by simp [spansFrom])
    unfold payGo
    rw [if_neg (by simp only at this; omega)]
    exact payGo_done sum l r _ (fun y hy => h y (by simp [spansFrom, hy]))
theorem payGo_stop (sum : Int) : ∀ (l : List Pair) (fr : Pair) (all : Int) (pre rest : List (Pair × Int)) (x : Pair × Int), spansFrom fr l = pre ++ x :: rest → (∀ y ∈ pre, y.1.a < sum) → sum ≤ x.1.a → payGo sum fr l all = accOf sum all pre
  | [], fr, all, [], rest, x, e, _, hx => by
    simp only [spansFrom, List.nil_append, List.cons.injEq] at e
    obtain ⟨e1, -⟩ := e
    subst e1
    unfold payGo; rw [if_pos hx]; rfl
  | [], fr, all, y :: pre, rest, x, e, _, _ => by simp [spansFrom] at e
  | r :: l, fr, all, [], rest, x, e, _, hx => by
    simp only [spansFrom, List.nil_append, List.cons.injEq] at e
    obtain ⟨e1, -⟩ := e
    subst e1
    unfold payGo; rw [if_pos hx]; rfl
  | r :: l, fr, all, y :: pre, rest, x, e, hp, hx => by
    simp only [spansFrom, List.cons_append, List.cons.injEq] at e
    obtain ⟨e1, e2⟩ := e
    subst e1
    have := hp (fr, r.a) (by simp)
    unfold payGo
    rw [if_neg (by simp only at this; omega)]
    exact payGo_stop sum l r _ pre rest x e2 (fun y hy => hp y (by simp [hy])) hx
theorem spans_len : ∀ (l : List Pair) (fr : Pair), (spansFrom fr l).length = l.length + 1
  | [], _ => rfl
  | r :: l, _ => by simp [spansFrom, spans_len l r]
theorem spans_drop : ∀ (l : List Pair) (fr : Pair) (k : Nat), ∃ fr', (spansFrom fr l).drop k = (if k ≤ l.length then spansFrom fr' (l.drop k) else []) ∧ (∀ r, 0 < k → l[k - 1]? = some r → fr' = r) ∧ (k = 0 → fr' = fr)
  | l, fr, 0 => ⟨fr, by simp, by simp, fun _ => rfl⟩
  | [], fr, k + 1 => ⟨fr, by simp [spansFrom], by simp, by simp⟩
  | r :: l, fr, k + 1 => by
    obtain ⟨fr', h1, h2, h3⟩ := spans_drop l r k
    refine ⟨fr', by simpa [spansFrom] using h1, fun q _ hq => ?_, by simp⟩
    cases k with
    | zero => simp at hq; rw [h3 rfl]; exact hq
    | succ k => exact h2 q (by omega) (by simpa using hq)

theorem cell_of_heap {w w' : World} {b : Nat} (h : w'.heap[b]? = w.heap[b]?) (o : Nat) : w'.cell? ⟨b, o, none⟩ = w.cell? ⟨b, o, none⟩ := by simp [World.cell?, h]
theorem setCell2_grown (w : World) (g : Nat) (v0 v1 : Value) : w.grownBy ((w.setCell ⟨g, 0, none⟩ v0).setCell ⟨g, 1, none⟩ v1) (some g) :=
  ⟨rfl, rfl, rfl, by simp, fun k _ hk => by
    rw [heap_setCell_other _ ⟨g, 1, none⟩ k v1 (fun e => hk (by simp [e])), heap_setCell_other _ ⟨g, 0, none⟩ k v0 (fun e => hk (by simp [e]))]⟩
def encS (x : Pair × Int) : Array Value := #[.agg #[.int .i64 x.1.a, .int .i64 x.1.b], .int .i64 x.2]

set_option maxRecDepth 100000 in
set_option maxHeartbeats 4000000 in
/-- The iterator: it hands over the spans, one by one; what the rounds keep lies between them. -/
theorem spans1_in (m l Bl : Nat) (a : Option Addr) (n cap : Nat) (rs : List Pair) (Ba : Nat) (J Jx : List (Pair × Int) → World → Prop) (W0 : World) (hm : n ≤ 1000000) (h1m : 1 ≤ m)
    (hBl : Bl < W0.heap.size ∧ Bl ≠ Ba ∧ Bl ≠ l) (hBa : Ba < W0.heap.size) (hl : l < W0.heap.size)
    (hb : W0.heap[Bl]? = some (.cells #[.slice a n cap] 24 (0, 0))) (hs : Sl Pair.cod W0 a n cap rs) (hsa : ∀ d, a = some d → d.block ≠ Ba ∧ d.block ≠ l)
    (hJ : ∀ pre W W' row, J pre W → W.grownBy W' row → (∀ r, row = some r → W0.heap.size ≤ r) → J pre W')
    (hY : ∀ pre x rest W, spansFrom ⟨0, 1000⟩ rs = pre ++ x :: rest → J pre W → W0.heap.size ≤ W.heap.size → YieldAt Fence.wide (m - 1) Try.prog l (encS x) W fun e W' =>
      (e = .returned (.bool true) ∧ J (pre ++ [x]) W' ∧ W.heap.size ≤ W'.heap.size ∧ ∀ k, k < W.heap.size → k ≠ Ba → k ≠ l → W'.heap[k]? = W.heap[k]?) ∨ (e = .returned (.bool false) ∧ Jx (pre ++ [x]) W'))
    (h0 : J [] W0) :
    CallsIn Fence.wide m Try.prog 72 #[.func (.yield l) #[] #[], .pointer (some ⟨Bl, 0, none⟩)] W0 fun e W' => (∃ v, e = .returned v) ∧
      (J (spansFrom ⟨0, 1000⟩ rs) W' ∨ ∃ pre, pre <+: spansFrom ⟨0, 1000⟩ rs ∧ Jx pre W') := by
  have hN := Lib.hid hs.hlen
  refine callsIn_of_wp Try.func72 rfl trivial ?_ rfl
  simp only [Try.ntmps72, List.size_toArray, List.length_cons, List.length_nil, Nat.reduceAdd, Nat.reduceSub, Array.replicate_succ, Array.replicate_zero, List.push_toArray, List.append_toArray, List.nil_append, List.cons_append]
  have kb : W0.cell? ⟨Bl, 0, none⟩ = some (.slice a n cap) := (box_cell hb 0).1
  have HB := Lib.hid hb
  clear hb
  gi_wp2
  gi_loopw [9] (fun i wr => ∃ (k : Nat) (fr : Pair) (pre : List (Pair × Int)), i = .int .i64 k ∧ k ≤ n ∧ Hid (spansFrom ⟨0, 1000⟩ rs = pre ++ spansFrom fr (rs.drop k)) ∧ Hid (J pre wr) ∧ Hid (wr.heap[W0.heap.size]? = some (.cells #[.int .i64 fr.a, .int .i64 fr.b] 74 (0, 0))) ∧ W0.heap.size < wr.heap.size ∧ Hid (∀ k, k < W0.heap.size → k ≠ Ba → k ≠ l → wr.heap[k]? = W0.heap[k]?))
    (fun i _ => n - (intOf i).toNat)
  case atStart =>
    refine ⟨0, ⟨0, 1000⟩, [], rfl, by omega, rfl, hJ [] W0 _ none h0 (World.grownBy_alloc _ _ none) (fun r e => by cases e), box_new _ _, by simp, fun k hk _ _ => ?_⟩
    exact (Below.heap_alloc W0 _ k hk)
  case round =>
    obtain ⟨k, fr, pre, rfl, hk, hsp, hJp, hbf, hlt, hkeep⟩ := hrel
    obtain ⟨k0, f0⟩ := box_cell hbf.out 0
    obtain ⟨k1, f1⟩ := box_cell hbf.out 1
    replace k0 : wr.cell? ⟨W0.heap.size, 0, none⟩ = some (.int .i64 fr.a) := k0
    replace k1 : wr.cell? ⟨W0.heap.size, 1, none⟩ = some (.int .i64 fr.b) := k1
    by_cases hkn : k < n
    · obtain ⟨b, off, x, rfl, hbl, hx, c0, c1⟩ := pair_at hs hkn
      obtain ⟨s1, s2⟩ := hsa _ rfl
      have hbw := hkeep.out b hbl s1 s2
      have d0 : wr.cell? ⟨b, off + k * 2, none⟩ = some (.int .i64 x.a) := by rw [cell_of_heap hbw]; exact c0
      have d1 : wr.cell? ⟨b, off + k * 2 + 1, none⟩ = some (.int .i64 x.b) := by rw [cell_of_heap hbw]; exact c1
      have HX := Lib.hid hx
      have hbl2 := World.block_lt_of_cell? wr _ d0
      have hsp2 : spansFrom ⟨0, 1000⟩ rs = pre ++ (fr, x.a) :: spansFrom x (rs.drop (k + 1)) := by rw [hsp.out, drop_at HX.out]; rfl
      have HSP2 := Lib.hid hsp2
      have b1 : (k : Int) < (n : Int) := by omega
      clear hx c0 c1 hbw hsp2
      have hJ1 := hJ pre wr (wr.alloc (.cells #[.int .i64 x.a, .int .i64 x.b] 74)) none hJp.out (World.grownBy_alloc _ _ none) (fun r e => by cases e)
      obtain ⟨fn, tmps, assign, body, hy, hR⟩ := hY pre (fr, x.a) _ _ HSP2.out hJ1 (by simp; omega)
      dsimp only [encS] at hy
      clear hJ1
      gi_wp2
      refine hR.mono ?_
      rintro e W3 (⟨rfl, hJ3, hs3, hk3⟩ | ⟨rfl, hJx3⟩)
      · have hs3' : wr.heap.size + 1 ≤ W3.heap.size := by simpa using hs3
        have g1 : W3.heap[wr.heap.size]? = some (.cells #[.int .i64 x.a, .int .i64 x.b] 74 (0, 0)) := (hk3 _ (by simp) (by omega) (by omega)).trans (box_new _ _)
        have g2 : W3.heap[W0.heap.size]? = some (.cells #[.int .i64 fr.a, .int .i64 fr.b] 74 (0, 0)) := (hk3 _ (by simp; omega) (by omega) (by omega)).trans (box_alloc hbf.out)
        obtain ⟨p0, q0⟩ := box_cell g1 0
        obtain ⟨p1, q1⟩ := box_cell g1 1
        obtain ⟨r0, t0⟩ := box_cell g2 0
        obtain ⟨r1, t1⟩ := box_cell g2 1
        replace p0 : W3.cell? ⟨wr.heap.size, 0, none⟩ = some (.int .i64 x.a) := p0
        replace p1 : W3.cell? ⟨wr.heap.size, 1, none⟩ = some (.int .i64 x.b) := p1
        replace r0 : W3.cell? ⟨W0.heap.size, 0, none⟩ = some (.int .i64 fr.a) := r0
        replace r1 : W3.cell? ⟨W0.heap.size, 1, none⟩ = some (.int .i64 fr.b) := r1
        have HJ3 := Lib.hid hJ3
        have HK3 := Lib.hid hk3
        have G2 := Lib.hid g2
        clear g1 g2 hJ3 hk3 hR hy k0 k1 f0 f1 d0 d1
        gi_wp2
        go_roundw
        case rel =>
          refine ⟨k + 1, x, pre ++ [(fr, x.a)], by go_num, by omega, by show _ = _; rw [HSP2.out]; simp, hJ _ _ _ (some W0.heap.size) HJ3.out (setCell2_grown _ _ _ _) (fun r e => by cases e; exact Nat.le_refl _), box2_set G2.out _ _, by simp; omega, fun j hj h1 h2 => ?_⟩
          rw [heap_setCell_other _ ⟨W0.heap.size, 1, none⟩ j _ (by simp; omega), heap_setCell_other _ ⟨W0.heap.size, 0, none⟩ j _ (by simp; omega)]
          exact (HK3.out j (by simp; omega) h1 h2).trans ((Below.heap_alloc wr _ j (by omega)).trans (hkeep.out j hj h1 h2))
        case measure => simp [intOf]; omega
      · gi_wp2
        refine bodyPost_ret (results_none rfl _ _ _) rfl ?_
        exact ⟨⟨_, rfl⟩, .inr ⟨pre ++ [(fr, x.a)], ⟨_, by rw [HSP2.out, List.append_assoc]; rfl⟩, hJx3⟩⟩
    · have hkk : k = n := by omega
      subst hkk
      have hsp2 : spansFrom ⟨0, 1000⟩ rs = pre ++ (fr, 281474976710656) :: [] := by rw [hsp.out, List.drop_eq_nil_of_le (by rw [hN.out]; exact Nat.le_refl _)]; rfl
      have HSP2 := Lib.hid hsp2
      clear hsp2
      obtain ⟨fn, tmps, assign, body, hy, hR⟩ := hY pre (fr, 281474976710656) _ _ HSP2.out hJp.out (by omega)
      dsimp only [encS] at hy
      gi_wp2
      refine hR.mono ?_
      rintro e W3 (⟨rfl, hJ3, hs3, hk3⟩ | ⟨rfl, hJx3⟩)
      · gi_wp2
        go_end0
        exact ⟨⟨_, rfl⟩, .inl (by rw [HSP2.out]; exact hJ3)⟩
      · gi_wp2
        go_end0
        exact ⟨⟨_, rfl⟩, .inr ⟨pre ++ [(fr, 281474976710656)], by rw [HSP2.out]; exact List.prefix_refl _, hJx3⟩⟩
end Go.Proofs.Ytgdhlhjflbinmaa

namespace Go.Proofs.Ytgdhlhjflbinmaa
open Go.RowKit Go.V Go.Shelf Go.Proofs

attribute [local go_sem] Oper.semAt_some

theorem spans_any (a : Option Addr) (n cap : Nat) (w : World) : Calls Try.prog 59 #[.slice a n cap] w fun e w' => e = .returned (.func (.func 72) #[] #[.pointer (some ⟨w.heap.size, 0, none⟩)]) ∧ w' = w.alloc (.cells #[.slice a n cap] 24) := by
  go_enter Try.func59, Try.ntmps59
  go_wp2
  go_ret
  exact ⟨rfl, rfl⟩

/-- What the spans of right rungs are like. -/
theorem spans_in : ∀ (l : List Pair) (fr : Pair), rungGo fr l = true → 0 ≤ fr.a → fr.a ≤ 281474976710656 → 0 ≤ fr.b → fr.b ≤ 1000 → ∀ y ∈ spansFrom fr l, 0 ≤ y.1.a ∧ y.1.a ≤ y.2 ∧ y.2 ≤ 281474976710656 ∧ 0 ≤ y.1.b ∧ y.1.b ≤ 1000
  | [], fr, _, h1, h2, h3, h4 => by
    intro y hy
    simp only [spansFrom, List.mem_singleton] at hy
    subst hy
    exact ⟨h1, h2, Int.le_refl _, h3, h4⟩
  | r :: l, fr, h, h1, h2, h3, h4 => by
    unfold rungGo at h
    rw [Bool.and_eq_true] at h
    have g := of_decide_eq_true h.1
    intro y hy
    simp only [spansFrom, List.mem_cons] at hy
    rcases hy with e | e
    · subst e; exact ⟨h1, by simp only; omega, g.2.1, h3, h4⟩
    · exact spans_in l r h.2 (by omega) g.2.1 g.2.2.2 (by omega) y e
theorem spans_in0 {l : List Pair} (h : rungsOk l = true) : ∀ y ∈ spansFrom ⟨0, 1000⟩ l, 0 ≤ y.1.a ∧ y.1.a ≤ y.2 ∧ y.2 ≤ 281474976710656 ∧ 0 ≤ y.1.b ∧ y.1.b ≤ 1000 := by
  unfold rungsOk at h
  simp only [Bool.and_eq_true] at h
  obtain ⟨⟨-, h2⟩, -⟩ := h
  have h3 : rungGo ⟨0, 1000⟩ l = true ∨ (∃ r l', l = r :: l' ∧ r.a = 0) := by
    cases l with
    | nil => exact .inl rfl
    | cons r l' =>
      unfold rungGo at h2 ⊢
      rw [Bool.and_eq_true] at h2 ⊢
      have g := of_decide_eq_true h2.1
      simp only at g
      by_cases e : r.a = 0
      · exact .inr ⟨r, l', rfl, e⟩
      · exact .inl ⟨decide_eq_true ⟨by simp only; omega, g.2⟩, h2.2⟩
  rcases h3 with h3 | ⟨r, l', rfl, e⟩
  · exact spans_in l _ h3 (by simp) (by simp) (by simp) (by simp)
  · unfold rungGo at h2
    rw [Bool.and_eq_true] at h2
    have g := of_decide_eq_true h2.1
    simp only at g
    intro y hy
    simp only [spansFrom, List.mem_cons] at hy
    rcases hy with e' | e'
    · subst e'; simp only; omega
    · exact spans_in l' r h2.2 (by omega) g.2.1 g.2.2.2 (by omega) y e'
theorem rungs_len {l : List Pair} (h : rungsOk l = true) : l.length ≤ 16 := by
  unfold rungsOk at h
  simp only [Bool.and_eq_true] at h
  exact of_decide_eq_true h.1.1
theorem accOf_snoc (sum all : Int) (xs : List (Pair × Int)) (x : Pair × Int) : accOf sum all (xs ++ [x]) = accOf sum all xs + (min sum x.2 - x.1.a) * x.1.b / 1000 := by simp [accOf]

/-- Between two rounds: what the boxes hold, and the loop's record. -/
structure PayJ (w : World) (sum : Int) (Bs Ba l D : Nat) (o : Obj) (pre : List (Pair × Int)) (W : World) : Prop where
  all : W.heap[Ba]? = some (.cells #[.int .i64 (accOf sum 0 pre)] 3 (0, 0))
  sm : W.heap[Bs]? = some (.cells #[.int .i64 sum] 3 (0, 0))
  rcd : W.heap[l]? = some o
  def_ : W.heap[D]? = some (.deferred (some []))
  bel : Below w.heap.size w W
  go : ∀ y ∈ pre, y.1.a < sum
  lo : 0 ≤ accOf sum 0 pre
  hi : accOf sum 0 pre ≤ pre.length * 281474976710656
theorem PayJ.kept {w W W' : World} {sum : Int} {Bs Ba l D : Nat} {o : Obj} {pre : List (Pair × Int)} {row : Option Nat} (h : PayJ w sum Bs Ba l D o pre W) (hg : W.grownBy W' row) (hr : ∀ r, row = some r → Bs < r ∧ Ba < r ∧ l < r ∧ D < r ∧ w.heap.size ≤ r) : PayJ w sum Bs Ba l D o pre W' :=
  have key : ∀ k ob, (∀ r, row = some r → k < r) → W.heap[k]? = some ob → W'.heap[k]? = some ob := fun k ob hk hh => (hg.block k (Array.getElem?_eq_some_iff.1 hh).1 (fun e => by have := hk k e.symm; omega)).trans hh
  ⟨key _ _ (fun r e => (hr r e).2.1) h.all, key _ _ (fun r e => (hr r e).1) h.sm, key _ _ (fun r e => (hr r e).2.2.1) h.rcd, key _ _ (fun r e => (hr r e).2.2.2.1) h.def_, h.bel.grown hg h.bel.size (fun k hk => (hr k hk).2.2.2.2), h.go, h.lo, h.hi⟩
def PayX (w : World) (sum : Int) (Bs Ba l D : Nat) (o : Obj) (pre : List (Pair × Int)) (W : World) : Prop := ∃ pre' x, pre = pre' ++ [x] ∧ sum ≤ x.1.a ∧ PayJ w sum Bs Ba l D o pre' W

set_option maxRecDepth 100000 in
set_option maxHeartbeats 4000000 in
theorem pay_any (a : Option Addr) (n cap : Nat) (rs : List Pair) (sum : Int) (w : World) (hm : n ≤ 1000000) (hok : rungsOk rs = true) (hsum : 0 ≤ sum ∧ sum ≤ 281474976710656) (h : Sl Pair.cod w a n cap rs) :
    Calls Try.prog 38 #[.slice a n cap, .int .i64 sum] w fun e w' => e = .returned (.tuple #[.int .i64 (payOf rs sum), .int .i64 0]) ∧ Below w.heap.size w w' := by
  refine (callsIn_wide (n := 8)).1 ?_
  refine callsIn_of_wp_marks Try.func38 rfl trivial ?_ rfl
  simp only [Try.ntmps38, List.size_toArray, List.length_cons, List.length_nil, Nat.reduceAdd, Nat.reduceSub, Array.replicate_succ, Array.replicate_zero, List.push_toArray, List.append_toArray, List.nil_append, List.cons_append]
  have hf1 : Fence.wide.fn 50 := trivial
  have hf2 : Fence.wide.fn 59 := trivial
  have hn1 : ¬ sum < 0 := by omega
  have hn2 : ¬ 281474976710656 < sum := by omega
  gi_wp2_with (first
    | (gi_at_call 50; refine (callsIn_wide.2 (rungR_any a n cap rs _ hm (h.below ((Below.refl _ _).alloc (Nat.le_refl _) _)))).mono ?_; rintro e w1 ⟨rfl, hb1⟩; rw [hok]; have HB1 := Lib.hid hb1; have hs1 := hb1.size; have G1 : Hid (w1.heap[w.heap.size]? = some (.cells #[.int .i64 sum] 3 (0, 0))) := (hb1.block w.heap.size (by simp)).trans (box_new _ _); have g1 : w1.cell? ⟨w.heap.size, 0, none⟩ = some (.int .i64 sum) := (box_cell G1.out 0).1; clear hb1)
    | (gi_at_call 59; refine (callsIn_wide.2 (spans_any a n cap _)).mono ?_; rintro e w' ⟨rfl, rfl⟩))
  have A2 : Hid (((w1.alloc (.cells #[.int .i64 0] 3)).alloc (.cells #[.slice a n cap] 24)).heap[w1.heap.size]? = some (.cells #[.int .i64 0] 3 (0, 0))) := box_alloc (box_new _ _)
  have S2 : Hid (((w1.alloc (.cells #[.int .i64 0] 3)).alloc (.cells #[.slice a n cap] 24)).heap[w.heap.size]? = some (.cells #[.int .i64 sum] 3 (0, 0))) := box_alloc (box_alloc G1.out)
  have L2 : Hid (((w1.alloc (.cells #[.int .i64 0] 3)).alloc (.cells #[.slice a n cap] 24)).heap[w1.heap.size + 1]? = some (.cells #[.slice a n cap] 24 (0, 0))) := by
    have := box_new (w1.alloc (.cells #[.int .i64 0] 3)) (.cells #[.slice a n cap] 24)
    rwa [World.size_alloc] at this
  have hs1' : w.heap.size + 1 ≤ w1.heap.size := by simpa using hs1
  have B2 : Hid (Below w.heap.size w ((w1.alloc (.cells #[.int .i64 0] 3)).alloc (.cells #[.slice a n cap] 24))) := (((((Below.refl _ _).alloc (Nat.le_refl _) _).trans (HB1.out.mono (by simp))).alloc (by omega) _).alloc (by simp; omega) _)
  have hz2 : ((w1.alloc (.cells #[.int .i64 0] 3)).alloc (.cells #[.slice a n cap] 24)).heap.size = w1.heap.size + 2 := by simp
  obtain ⟨w2, hw2⟩ : ∃ w2, (w1.alloc (.cells #[.int .i64 0] 3)).alloc (.cells #[.slice a n cap] 24) = w2 := ⟨_, rfl⟩
  rw [hw2] at A2 S2 L2 B2 hz2 ⊢
  have hz3 : w1.heap.size + 2 ≤ w2.heap.size := by omega
  have HZ2 := Lib.hid hz2
  clear hw2 g1 HB1 G1 hs1 hz2
  refine range_named (by omega) rfl (enters_of Try.func72 (by kernel_rfl) rfl) ?_
  intro fn L W1 hL hl1 hd1 hb1 hsz
  have HL := Lib.hid hL
  have hsz3 : w2.heap.size + 2 ≤ W1.heap.size := by omega
  have HSZ := Lib.hid hsz
  clear hL hsz
  have hsz2 := B2.out.size
  refine (spans1_in 7 (w2.heap.size + 1) (w1.heap.size + 1) a n cap rs w1.heap.size (PayJ w sum w.heap.size w1.heap.size (w2.heap.size + 1) w2.heap.size (L .ready none)) (PayX w sum w.heap.size w1.heap.size (w2.heap.size + 1) w2.heap.size (L .done (some (.exit 0)))) W1 hm (by omega) ⟨by omega, by omega, by omega⟩ (by omega) (by omega) ((hb1.block _ (by omega)).trans L2.out) (h.below (B2.out.trans (hb1.mono hsz2))) ?sa ?kept ?yields ?start).mono ?_
  case sa =>
    intro d hd
    have := (h.hat d hd).2.1
    omega
  case kept => exact fun pre W W' row hJ hg hr => hJ.kept hg (fun r e => by have := hr r e; omega)
  case start => exact ⟨(hb1.block _ (by omega)).trans A2.out, (hb1.block _ (by omega)).trans S2.out, hl1, hd1, B2.out.trans (hb1.mono hsz2), fun y hy => by simp at hy, by simp [accOf], by simp [accOf]⟩
  case yields =>
    rintro pre x rest W hsp ⟨j1, j2, j3, j4, j5, j6, j7, j8⟩ hWs
    refine yield_named HL.out j3 rfl ?_
    have hp := spans_in0 hok x (by rw [hsp]; simp)
    have hlen : pre.length ≤ 16 := by
      have e1 := spans_len rs ⟨0, 1000⟩
      rw [hsp, List.length_append, List.length_cons] at e1
      have := rungs_len hok
      omega
    obtain ⟨p1, p2, p3, p4, p5⟩ := hp
    have HSP := Lib.hid hsp
    clear hsp
    obtain ⟨⟨xa, xb⟩, xe⟩ := x
    simp only at p1 p2 p3 p4 p5
    dsimp only [encS]
    gi_wp2
    refine ⟨box_alloc j3, ?_⟩
    have hltW : w2.heap.size + 1 < W.heap.size := (Array.getElem?_eq_some_iff.1 j3).1
    have v1 : Hid (((W.alloc (.cells #[.int .i64 xa, .int .i64 xb] 74)).putObj (w2.heap.size + 1) (L .busy none)).heap[w1.heap.size]? = some (.cells #[.int .i64 (accOf sum 0 pre)] 3 (0, 0))) := (World.putObj_heap_other (by omega)).trans (box_alloc j1)
    have v2 : Hid (((W.alloc (.cells #[.int .i64 xa, .int .i64 xb] 74)).putObj (w2.heap.size + 1) (L .busy none)).heap[w.heap.size]? = some (.cells #[.int .i64 sum] 3 (0, 0))) := (World.putObj_heap_other (by omega)).trans (box_alloc j2)
    have v3 : Hid (((W.alloc (.cells #[.int .i64 xa, .int .i64 xb] 74)).putObj (w2.heap.size + 1) (L .busy none)).heap[W.heap.size]? = some (.cells #[.int .i64 xa, .int .i64 xb] 74 (0, 0))) := (World.putObj_heap_other (by omega)).trans (box_new _ _)
    have v4 : Hid (((W.alloc (.cells #[.int .i64 xa, .int .i64 xb] 74)).putObj (w2.heap.size + 1) (L .busy none)).heap[w2.heap.size + 1]? = some (L .busy none)) := World.putObj_heap_same (by simp; omega)
    have v5 : Hid (((W.alloc (.cells #[.int .i64 xa, .int .i64 xb] 74)).putObj (w2.heap.size + 1) (L .busy none)).heap[w2.heap.size]? = some (.deferred (some []))) := (World.putObj_heap_other (by omega)).trans (box_alloc j4)
    have v6 : Hid (Below w.heap.size w ((W.alloc (.cells #[.int .i64 xa, .int .i64 xb] 74)).putObj (w2.heap.size + 1) (L .busy none))) := (j5.alloc j5.size _).grown (grownBy_putObj' _ _ _) (by have := j5.size; simp; omega) (fun k hk => by cases hk; omega)
    have v7 : Hid (∀ k, k < W.heap.size → k ≠ w2.heap.size + 1 → ((W.alloc (.cells #[.int .i64 xa, .int .i64 xb] 74)).putObj (w2.heap.size + 1) (L .busy none)).heap[k]? = W.heap[k]?) := fun k hk h2 => (World.putObj_heap_other (fun e => h2 e)).trans (Below.heap_alloc W _ k hk)
    have v8 : Hid (((W.alloc (.cells #[.int .i64 xa, .int .i64 xb] 74)).putObj (w2.heap.size + 1) (L .busy none)).heap.size = W.heap.size + 1) := by show _ = _; simp
    obtain ⟨V, hV⟩ : ∃ V, (W.alloc (.cells #[.int .i64 xa, .int .i64 xb] 74)).putObj (w2.heap.size + 1) (L .busy none) = V := ⟨_, rfl⟩
    rw [hV] at v1 v2 v3 v4 v5 v6 v7 v8 ⊢
    clear hV
    have v9 : W.heap.size + 1 ≤ V.heap.size := by have := v8.out; omega
    obtain ⟨q1, f1⟩ := box_cell v1.out 0
    obtain ⟨q2, -⟩ := box_cell v2.out 0
    obtain ⟨q3, -⟩ := box_cell v3.out 0
    obtain ⟨q4, -⟩ := box_cell v3.out 1
    replace q1 : V.cell? ⟨w1.heap.size, 0, none⟩ = some (.int .i64 (accOf sum 0 pre)) := q1
    replace q2 : V.cell? ⟨w.heap.size, 0, none⟩ = some (.int .i64 sum) := q2
    replace q3 : V.cell? ⟨W.heap.size, 0, none⟩ = some (.int .i64 xa) := q3
    replace q4 : V.cell? ⟨W.heap.size, 1, none⟩ = some (.int .i64 xb) := q4
    have J6 := Lib.hid j6
    clear j1 j2 j3 j4 j6 hl1 hd1
    by_cases hc : sum ≤ xa
    · gi_wp2
      refine ⟨v4.out, pre, (⟨xa, xb⟩, xe), rfl, hc, ?_⟩
      exact ⟨(World.putObj_heap_other (by omega)).trans v1.out, (World.putObj_heap_other (by omega)).trans v2.out, World.putObj_heap_same (by omega), (World.putObj_heap_other (by omega)).trans v5.out, v6.out.grown (grownBy_putObj' _ _ _) v6.out.size (fun k hk => by cases hk; omega), J6.out, j7, j8⟩
    · have hc' : xa < sum := by omega
      obtain ⟨d, hd⟩ : ∃ d, min sum xe - xa = d := ⟨_, rfl⟩
      have d1 : 0 ≤ d ∧ d ≤ 281474976710656 := by omega
      have m1 : 0 ≤ d * xb := Int.mul_nonneg d1.1 p4
      have m2 : d * xb ≤ 281474976710656 * 1000 := Int.mul_le_mul d1.2 p5 p4 (by decide)
      obtain ⟨M, hM⟩ : ∃ M, d * xb = M := ⟨_, rfl⟩
      rw [hM] at m1 m2
      obtain ⟨T, hT⟩ : ∃ T, M / 1000 = T := ⟨_, rfl⟩
      have t1 : 0 ≤ T ∧ T ≤ 281474976710656 := by omega
      have hT2 : M.tdiv 1000 = T := by rw [Int.tdiv_eq_ediv_of_nonneg m1, hT]
      have hacc := accOf_snoc sum 0 pre (⟨xa, xb⟩, xe)
      simp only at hacc
      rw [hd, hM, hT] at hacc
      have HACC := Lib.hid hacc
      clear hacc
      obtain ⟨A, hA⟩ : ∃ A, accOf sum 0 pre = A := ⟨_, rfl⟩
      rw [hA] at q1 j7 j8
      have HA := Lib.hid hA
      have j9 : A ≤ 16 * 281474976710656 := by
        have : (pre.length : Int) * 281474976710656 ≤ 16 * 281474976710656 := Int.mul_le_mul_of_nonneg_right (by omega) (by decide)
        omega
      clear hA
      have w1' : wrap64 M = M := by unfold wrap64; omega
      have w2' : wrap64 T = T := by unfold wrap64; omega
      have w3' : wrap64 (A + T) = A + T := by unfold wrap64; omega
      have key : Hid (∀ z, z = d → wrap64 (A + wrap64 ((wrap64 (z * xb)).tdiv 1000)) = A + T) := by
        intro z hz
        rw [hz, hM, w1', hT2, w2', w3']
      have fin : Hid (∀ v, v = A + T → (V.setCell ⟨w1.heap.size, 0, none⟩ (.int .i64 v)).heap[w2.heap.size + 1]? = some (L .busy none) ∧ PayJ w sum w.heap.size w1.heap.size (w2.heap.size + 1) w2.heap.size (L .ready none) (pre ++ [(⟨xa, xb⟩, xe)]) ((V.setCell ⟨w1.heap.size, 0, none⟩ (.int .i64 v)).putObj (w2.heap.size + 1) (L .ready none)) ∧ W.heap.size ≤ V.heap.size ∧ ∀ k, k < W.heap.size → ¬ k = w1.heap.size → ¬ k = w2.heap.size + 1 → ((V.setCell ⟨w1.heap.size, 0, none⟩ (.int .i64 v)).putObj (w2.heap.size + 1) (L .ready none)).heap[k]? = W.heap[k]?) := by
        intro v hv
        subst hv
        have hoth : ∀ k, k ≠ w1.heap.size → (V.setCell ⟨w1.heap.size, 0, none⟩ (.int .i64 (A + T))).heap[k]? = V.heap[k]? := fun k hk => heap_setCell_other _ _ _ _ hk
        have hacc : accOf sum 0 (pre ++ [(⟨xa, xb⟩, xe)]) = A + T := by rw [HACC.out, HA.out]
        refine ⟨(hoth _ (by omega)).trans v4.out, ⟨?_, ?_, World.putObj_heap_same (by simp; omega), ?_, ?_, ?_, ?_, ?_⟩, by omega, ?_⟩
        · rw [hacc]
          exact (World.putObj_heap_other (by omega)).trans ((heap_setCell_same V w1.heap.size 0 _ _ _ v1.out).trans rfl)
        · exact (World.putObj_heap_other (by omega)).trans ((hoth _ (by omega)).trans v2.out)
        · exact (World.putObj_heap_other (by omega)).trans ((hoth _ (by omega)).trans v5.out)
        · exact (v6.out.setCell (p := ⟨w1.heap.size, 0, none⟩) (by show w.heap.size ≤ w1.heap.size; omega) _).grown (grownBy_putObj' _ _ _) (by have := v6.out.size; simp; omega) (fun k hk => by cases hk; omega)
        · intro y hy
          rcases List.mem_append.1 hy with e | e
          · exact J6.out y e
          · simp at e; subst e; exact hc'
        · rw [hacc]; omega
        · rw [hacc, List.length_append]; simp only [List.length_cons, List.length_nil]; push_cast; omega
        · intro k hk h1 h2
          exact (World.putObj_heap_other (fun e => h2 e)).trans ((hoth k h1).trans (v7.out k hk h2))
      clear w1' w2' w3' hT2 hM hT m1 m2 t1
      by_cases hmin : sum < xe
      · gi_wp2
        exact fin.out _ (key.out _ (by omega))
      · gi_wp2
        all_goals exact fin.out _ (key.out _ (by omega))
  rintro e W2 ⟨⟨v, rfl⟩, hJd | ⟨pre, hpre, pre', x, rfl, hx, hJx⟩⟩
  · refine ⟨⟨_, rfl⟩, .inl ⟨hJd.rcd, ?_⟩⟩
    have hend := payGo_done sum rs ⟨0, 1000⟩ 0 hJd.go
    have HEND := Lib.hid hend
    have u1 : Hid ((W2.putObj (w2.heap.size + 1) (L .exhausted none)).heap[w1.heap.size]? = some (.cells #[.int .i64 (accOf sum 0 (spansFrom ⟨0, 1000⟩ rs))] 3 (0, 0))) := (World.putObj_heap_other (by omega)).trans hJd.all
    have u2 : Hid ((W2.putObj (w2.heap.size + 1) (L .exhausted none)).heap[w2.heap.size]? = some (.deferred (some []))) := (World.putObj_heap_other (by omega)).trans hJd.def_
    have u3 : Hid (Below w.heap.size w (W2.putObj (w2.heap.size + 1) (L .exhausted none))) := hJd.bel.grown (grownBy_putObj' _ _ _) hJd.bel.size (fun k hk => by cases hk; omega)
    obtain ⟨V, hV⟩ : ∃ V, W2.putObj (w2.heap.size + 1) (L .exhausted none) = V := ⟨_, rfl⟩
    rw [hV] at u1 u2 u3 ⊢
    clear hV hend
    have q1 : V.cell? ⟨w1.heap.size, 0, none⟩ = some (.int .i64 (accOf sum 0 (spansFrom ⟨0, 1000⟩ rs))) := (box_cell u1.out 0).1
    gi_wp2
    refine ⟨by simp, .inl ⟨_, _, rfl, run_takeDeferred u2.out, ?_⟩⟩
    refine ⟨_, results_tmp2 rfl _ _ _, ?_, ?_⟩
    · simp only [payOf]; rw [HEND.out]; rfl
    · exact u3.out.grown (grownBy_putObj' _ _ _) u3.out.size (fun k hk => by cases hk; omega)
  · refine ⟨⟨_, rfl⟩, .inr ⟨.exit 0, hJx.rcd, ?_⟩⟩
    obtain ⟨rest, hrest⟩ := hpre
    have hend := payGo_stop sum rs ⟨0, 1000⟩ 0 pre' rest x (by rw [← hrest]; simp) hJx.go hx
    have HEND := Lib.hid hend
    have u1 : Hid ((W2.putObj (w2.heap.size + 1) (L .exhausted (some (.exit 0)))).heap[w1.heap.size]? = some (.cells #[.int .i64 (accOf sum 0 pre')] 3 (0, 0))) := (World.putObj_heap_other (by omega)).trans hJx.all
    have u2 : Hid ((W2.putObj (w2.heap.size + 1) (L .exhausted (some (.exit 0)))).heap[w2.heap.size]? = some (.deferred (some []))) := (World.putObj_heap_other (by omega)).trans hJx.def_
    have u3 : Hid (Below w.heap.size w (W2.putObj (w2.heap.size + 1) (L .exhausted (some (.exit 0))))) := hJx.bel.grown (grownBy_putObj' _ _ _) hJx.bel.size (fun k hk => by cases hk; omega)
    obtain ⟨V, hV⟩ : ∃ V, W2.putObj (w2.heap.size + 1) (L .exhausted (some (.exit 0))) = V := ⟨_, rfl⟩
    rw [hV] at u1 u2 u3 ⊢
    clear hV hend hrest
    have q1 : V.cell? ⟨w1.heap.size, 0, none⟩ = some (.int .i64 (accOf sum 0 pre')) := (box_cell u1.out 0).1
    gi_wp2
    refine ⟨by simp, .inl ⟨_, _, rfl, run_takeDeferred u2.out, ?_⟩⟩
    refine ⟨_, results_tmp2 rfl _ _ _, ?_, ?_⟩
    · simp only [payOf]; rw [HEND.out]; rfl
    · exact u3.out.grown (grownBy_putObj' _ _ _) u3.out.size (fun k hk => by cases hk; omega)
end Go.Proofs.Ytgdhlhjflbinmaa
