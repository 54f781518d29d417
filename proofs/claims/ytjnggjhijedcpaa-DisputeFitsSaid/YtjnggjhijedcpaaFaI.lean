/- Fares: the ladder's spans, as an iterator tells them. -/
import Derived.Test.YtjnggjhijedcpaaFaH
import Derived.Test.YtjnggjhijedcpaaRange
namespace Go.Proofs.Ytjnggjhijedcpaa
open Go.RowKit Go.V Go.Shelf Go.Proofs

attribute [local go_sem] Oper.semAt_some

def spansFrom : Pair → List Pair → List (Pair × Int)
  | fr, [] => [(fr, 281474976710656)]
  | fr, r :: l => (fr, r.a) :: spansFrom r l
def accOf (sum : Int) (all : Int) (xs : List (Pair × Int)) : Int := xs.foldl (fun all x => all + (min sum x.2 - x.1.a) * x.1.b / 1000) all
theorem payGo_done (sum : Int) : ∀ (l : List Pair) (fr : Pair) (all : Int), (∀ y ∈ spansFrom fr l, y.1.a < sum) → payGo sum fr l all = accOf sum all (spansFrom fr l)
  | [], fr, all, h => by
    have := h (fr, 281474976710656) (by simp [spansFrom])
    unfold payGo
    rw [if_neg (by simp only at this; omega)]; rfl
  | r :: l, fr, all, h => by
    have := h (fr, r.a) (by simp [spansFrom])
    unfold payGo
    rw [if_neg (by simp only at this; omega)]
    exact payGo_done sum l r _ (fun y hy => h y (by simp [spansFrom, hy]))
theorem payGo_stop (sum : Int) : ∀ (l : List Pair) (fr : Pair) (all : Int) (pre rest : List (Pair × Int)) (x : Pair × Int), spansFrom fr l = pre ++ x :: rest → (∀ y ∈ pre, y.1.a < sum) → sum ≤ x.1.a → payGo sum fr l all = accOf sum all pre
  | [], fr, all, [], rest, x, e, _, hx => by
    simp only [spansFrom, List.nil_append, List.cons.injEq] at e
    obtain ⟨e1, -⟩ := e
    subst e1
    unfold payGo; rw [if_pos hx]; rfl
  | [], fr, all, y :: pre, rest, x, e, _, _ => by simp [spansFrom] at e
  | r :: l, fr, all, [], rest, x, e, _, hx => by
    simp only [spansFrom, List.nil_append, List.cons.injEq] at e
    obtain ⟨e1, -⟩ := e
    subst e1
    unfold payGo; rw [if_pos hx]; rfl
  | r :: l, fr, all, y :: pre, rest, x, e, hp, hx => by
    simp only [spansFrom, List.cons_append, List.cons.injEq] at e
    obtain ⟨e1, e2⟩ := e
    subst e1
    have := hp (fr, r.a) (by simp)
    unfold payGo
    rw [if_neg (by simp only at this; omega)]
    exact payGo_stop sum l r _ pre rest x e2 (fun y hy => hp y (by simp [hy])) hx
theorem spans_len : ∀ (l : List Pair) (fr : Pair), (spansFrom fr l).length = l.length + 1
  | [], _ => rfl
  | r :: l, _ => by simp [spansFrom, spans_len l r]
theorem spans_drop : ∀ (l : List Pair) (fr : Pair) (k : Nat), ∃ fr', (spansFrom fr l).drop k = (if k ≤ l.length then spansFrom fr' (l.drop k) else []) ∧ (∀ r, 0 < k → l[k - 1]? = some r → fr' = r) ∧ (k = 0 → fr' = fr)
  | l, fr, 0 => ⟨fr, by simp, by simp, fun _ => rfl⟩
  | [], fr, k + 1 => ⟨fr, by simp [spansFrom], by simp, by simp⟩
  | r :: l, fr, k + 1 => by
    obtain ⟨fr', h1, h2, h3⟩ := spans_drop l r k
    refine ⟨fr', by simpa [spansFrom] using h1, fun q _ hq => ?_, by simp⟩
    cases k with
    | zero => simp at hq; rw [h3 rfl]; exact hq
    | succ k => exact h2 q (by omega) (by simpa using hq)

theorem cell_of_heap {w w' : World} {b : Nat} (h : w'.heap[b]? = w.heap[b]?) (o : Nat) : w'.cell? ⟨b, o, none⟩ = w.cell? ⟨b, o, none⟩ := by simp [World.cell?, h]
theorem setCell2_grown (w : World) (g : Nat) (v0 v1 : Value) : w.grownBy ((w.setCell ⟨g, 0, none⟩ v0).setCell ⟨g, 1, none⟩ v1) (some g) :=
  ⟨rfl, rfl, rfl, by simp, fun k _ hk => by
    rw [heap_setCell_other _ ⟨g, 1, none⟩ k v1 (fun e => hk (by simp [e])), heap_setCell_other _ ⟨g, 0, none⟩ k v0 (fun e => hk (by simp [e]))]⟩
def encS (x : Pair × Int) : Array Value := #[.agg #[.int .i64 x.1.a, .int .i64 x.1.b], .int .i64 x.2]

set_option maxRecDepth 100000 in
set_option maxHeartbeats 4000000 in
/-- The iterator: it hands over the spans, one by one; what the rounds keep lies between them. -/
theorem spans1_in (m l Bl : Nat) (a : Option Addr) (n cap : Nat) (rs : List Pair) (Ba : Nat) (J Jx : List (Pair × Int) → World → Prop) (W0 : World) (hm : n ≤ 1000000) (h1m : 1 ≤ m)
    (hBl : Bl < W0.heap.size ∧ Bl ≠ Ba ∧ Bl ≠ l) (hBa : Ba < W0.heap.size) (hl : l < W0.heap.size)
    (hb : W0.heap[Bl]? = some (.cells #[.slice a n cap] 24 (0, 0))) (hs : Sl Pair.cod W0 a n cap rs) (hsa : ∀ d, a = some d → d.block ≠ Ba ∧ d.block ≠ l)
    (hJ : ∀ pre W W' row, J pre W → W.grownBy W' row → (∀ r, row = some r → W0.heap.size ≤ r) → J pre W')
    (hY : ∀ pre x rest W, spansFrom ⟨0, 1000⟩ rs = pre ++ x :: rest → J pre W → W0.heap.size ≤ W.heap.size → YieldAt Fence.wide (m - 1) Try.prog l (encS x) W fun e W' =>
      (e = .returned (.bool true) ∧ J (pre ++ [x]) W' ∧ W.heap.size ≤ W'.heap.size ∧ ∀ k, k < W.heap.size → k ≠ Ba → k ≠ l → W'.heap[k]? = W.heap[k]?) ∨ (e = .returned (.bool false) ∧ Jx (pre ++ [x]) W'))
    (h0 : J [] W0) :
    CallsIn Fence.wide m Try.prog 170 #[.func (.yield l) #[] #[], .pointer (some ⟨Bl, 0, none⟩)] W0 fun e W' => (∃ v, e = .returned v) ∧
      (J (spansFrom ⟨0, 1000⟩ rs) W' ∨ ∃ pre, pre <+: spansFrom ⟨0, 1000⟩ rs ∧ Jx pre W') := by
  have hN := Lib.hid hs.hlen
  refine callsIn_of_wp Try.func170 rfl trivial ?_ rfl
  simp only [Try.ntmps170, List.size_toArray, List.length_cons, List.length_nil, Nat.reduceAdd, Nat.reduceSub, Array.replicate_succ, Array.replicate_zero, List.push_toArray, List.append_toArray, List.nil_append, List.cons_append]
  have kb : W0.cell? ⟨Bl, 0, none⟩ = some (.slice a n cap) := (box_cell hb 0).1
  have HB := Lib.hid hb
  clear hb
  gi_wp2
  gi_loopw [9] (fun i wr => ∃ (k : Nat) (fr : Pair) (pre : List (Pair × Int)), i = .int .i64 k ∧ k ≤ n ∧ Hid (spansFrom ⟨0, 1000⟩ rs = pre ++ spansFrom fr (rs.drop k)) ∧ Hid (J pre wr) ∧ Hid (wr.heap[W0.heap.size]? = some (.cells #[.int .i64 fr.a, .int .i64 fr.b] 159 (0, 0))) ∧ W0.heap.size < wr.heap.size ∧ Hid (∀ k, k < W0.heap.size → k ≠ Ba → k ≠ l → wr.heap[k]? = W0.heap[k]?))
    (fun i _ => n - (intOf i).toNat)
  case atStart =>
    refine ⟨0, ⟨0, 1000⟩, [], rfl, by omega, rfl, hJ [] W0 _ none h0 (World.grownBy_alloc _ _ none) (fun r e => by cases e), box_new _ _, by simp, fun k hk _ _ => ?_⟩
    exact (Below.heap_alloc W0 _ k hk)
  case round =>
    obtain ⟨k, fr, pre, rfl, hk, hsp, hJp, hbf, hlt, hkeep⟩ := hrel
    obtain ⟨k0, f0⟩ := box_cell hbf.out 0
    obtain ⟨k1, f1⟩ := box_cell hbf.out 1
    replace k0 : wr.cell? ⟨W0.heap.size, 0, none⟩ = some (.int .i64 fr.a) := k0
    replace k1 : wr.cell? ⟨W0.heap.size, 1, none⟩ = some (.int .i64 fr.b) := k1
    by_cases hkn : k < n
    · obtain ⟨b, off, x, rfl, hbl, hx, c0, c1⟩ := pair_at hs hkn
      obtain ⟨s1, s2⟩ := hsa _ rfl
      have hbw := hkeep.out b hbl s1 s2
      have d0 : wr.cell? ⟨b, off + k * 2, none⟩ = some (.int .i64 x.a) := by rw [cell_of_heap hbw]; exact c0
      have d1 : wr.cell? ⟨b, off + k * 2 + 1, none⟩ = some (.int .i64 x.b) := by rw [cell_of_heap hbw]; exact c1
      have HX := Lib.hid hx
      have hbl2 := World.block_lt_of_cell? wr _ d0
      have hsp2 : spansFrom ⟨0, 1000⟩ rs = pre ++ (fr, x.a) :: spansFrom x (rs.drop (k + 1)) := by rw [hsp.out, drop_at HX.out]; rfl
      have HSP2 := Lib.hid hsp2
      have b1 : (k : Int) < (n : Int) := by omega
      clear hx c0 c1 hbw hsp2
      have hJ1 := hJ pre wr (wr.alloc (.cells #[.int .i64 x.a, .int .i64 x.b] 159)) none hJp.out (World.grownBy_alloc _ _ none) (fun r e => by cases e)
      obtain ⟨fn, tmps, assign, body, hy, hR⟩ := hY pre (fr, x.a) _ _ HSP2.out hJ1 (by simp; omega)
      dsimp only [encS] at hy
      clear hJ1
      gi_wp2
      refine hR.mono ?_
      rintro e W3 (⟨rfl, hJ3, hs3, hk3⟩ | ⟨rfl, hJx3⟩)
      · have hs3' : wr.heap.size + 1 ≤ W3.heap.size := by simpa using hs3
        have g1 : W3.heap[wr.heap.size]? = some (.cells #[.int .i64 x.a, .int .i64 x.b] 159 (0, 0)) := (hk3 _ (by simp) (by omega) (by omega)).trans (box_new _ _)
        have g2 : W3.heap[W0.heap.size]? = some (.cells #[.int .i64 fr.a, .int .i64 fr.b] 159 (0, 0)) := (hk3 _ (by simp; omega) (by omega) (by omega)).trans (box_alloc hbf.out)
        obtain ⟨p0, q0⟩ := box_cell g1 0
        obtain ⟨p1, q1⟩ := box_cell g1 1
        obtain ⟨r0, t0⟩ := box_cell g2 0
        obtain ⟨r1, t1⟩ := box_cell g2 1
        replace p0 : W3.cell? ⟨wr.heap.size, 0, none⟩ = some (.int .i64 x.a) := p0
        replace p1 : W3.cell? ⟨wr.heap.size, 1, none⟩ = some (.int .i64 x.b) := p1
        replace r0 : W3.cell? ⟨W0.heap.size, 0, none⟩ = some (.int .i64 fr.a) := r0
        replace r1 : W3.cell? ⟨W0.heap.size, 1, none⟩ = some (.int .i64 fr.b) := r1
        have HJ3 := Lib.hid hJ3
        have HK3 := Lib.hid hk3
        have G2 := Lib.hid g2
        clear g1 g2 hJ3 hk3 hR hy k0 k1 f0 f1 d0 d1
        gi_wp2
        go_roundw
        case rel =>
          refine ⟨k + 1, x, pre ++ [(fr, x.a)], by go_num, by omega, by show _ = _; rw [HSP2.out]; simp, hJ _ _ _ (some W0.heap.size) HJ3.out (setCell2_grown _ _ _ _) (fun r e => by cases e; exact Nat.le_refl _), box2_set G2.out _ _, by simp; omega, fun j hj h1 h2 => ?_⟩
          rw [heap_setCell_other _ ⟨W0.heap.size, 1, none⟩ j _ (by simp; omega), heap_setCell_other _ ⟨W0.heap.size, 0, none⟩ j _ (by simp; omega)]
          exact (HK3.out j (by simp; omega) h1 h2).trans ((Below.heap_alloc wr _ j (by omega)).trans (hkeep.out j hj h1 h2))
        case measure => simp [intOf]; omega
      · gi_wp2
        refine bodyPost_ret (results_none rfl _ _ _) rfl ?_
        exact ⟨⟨_, rfl⟩, .inr ⟨pre ++ [(fr, x.a)], ⟨_, by rw [HSP2.out, List.append_assoc]; rfl⟩, hJx3⟩⟩
    · have hkk : k = n := by omega
      subst hkk
      have hsp2 : spansFrom ⟨0, 1000⟩ rs = pre ++ (fr, 281474976710656) :: [] := by rw [hsp.out, List.drop_eq_nil_of_le (by rw [hN.out]; exact Nat.le_refl _)]; rfl
      have HSP2 := Lib.hid hsp2
      clear hsp2
      obtain ⟨fn, tmps, assign, body, hy, hR⟩ := hY pre (fr, 281474976710656) _ _ HSP2.out hJp.out (by omega)
      dsimp only [encS] at hy
      gi_wp2
      refine hR.mono ?_
      rintro e W3 (⟨rfl, hJ3, hs3, hk3⟩ | ⟨rfl, hJx3⟩)
      · gi_wp2
        go_end0
        exact ⟨⟨_, rfl⟩, .inl (by rw [HSP2.out]; exact hJ3)⟩
      · gi_wp2
        go_end0
        exact ⟨⟨_, rfl⟩, .inr ⟨pre ++ [(fr, 281474976710656)], by rw [HSP2.out]; exact List.prefix_refl _, hJx3⟩⟩
end Go.Proofs.Ytjnggjhijedcpaa
