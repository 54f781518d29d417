/- Disputes: what a call writes in place, and a map of numbers by numbers. -/
import Derived.Test.YtgdhlhjflbinmaaFaP
import Derived.Laws.OwnMore
import Derived.Deep.OwnRows
import Derived.Maps.OwnOps
namespace Go.Proofs.Ytgdhlhjflbinmaa
open Go.RowKit Go.V Go.Sort Go.Shelf Go.Proofs Go.Maps

theorem iflat (xs : List Int) : xs.flatMap icod.enc = xs.map (fun x => Value.int .i64 x) := by
  induction xs with
  | nil => rfl
  | cons x xs ih => simp only [List.flatMap_cons, List.map_cons, ih]; rfl
theorem iown_set {base : Nat} {w : World} {g n cap : Nat} {xs : List Int} (h : V.Own 3 icod base w (.slice (some ⟨g, 0, none⟩) n cap) xs) (hn : n = xs.length) (j : Nat) (x : Int) :
    V.Own 3 icod base (w.setCell ⟨g, j, none⟩ (.int .i64 x)) (.slice (some ⟨g, 0, none⟩) n cap) (xs.set j x) ∧ w.grownBy (w.setCell ⟨g, j, none⟩ (.int .i64 x)) (some g) := by
  subst hn
  have h' : w.ownsRow base 3 1 (.slice (some ⟨g, 0, none⟩) xs.length cap) xs.length (xs.flatMap icod.enc) := h
  obtain ⟨h1, h2⟩ := h'.stored j (.int .i64 x)
  refine ⟨?_, h2⟩
  show World.ownsRow _ base 3 1 _ (xs.set j x).length ((xs.set j x).flatMap icod.enc)
  rw [List.length_set, iflat, List.map_set, ← iflat]
  exact h1
theorem iown_free {base : Nat} {w : World} {g n cap : Nat} {xs : List Int} (h : V.Own 3 icod base w (.slice (some ⟨g, 0, none⟩) n cap) xs) (hn : n = xs.length) (j : Nat) : w.frozen? ⟨g, j, none⟩ = false := by
  subst hn
  exact World.ownsRow.frozenAt (show w.ownsRow base 3 1 (.slice (some ⟨g, 0, none⟩) xs.length cap) xs.length (xs.flatMap icod.enc) from h) j
theorem iown_made (w : World) (n B : Nat) (hb : B ≤ w.heap.size) (hm : n ≤ maxLen) : V.Own 3 icod B (w.alloc (.cells (madeCells #[.int .i64 0] n) 3)) (.slice (some ⟨w.heap.size, 0, none⟩) n n) (List.replicate n (0 : Int)) := by
  have := World.ownsRow_lit (base := B) (e := 3) (size := 1) w (madeCells #[.int .i64 0] n) n hb hm (by rw [size_madeCells]; omega)
  rw [toList_madeCells_one] at this
  show World.ownsRow _ B 3 1 _ (List.replicate n (0 : Int)).length ((List.replicate n (0 : Int)).flatMap icod.enc)
  rw [List.length_replicate, iflat, List.map_replicate]
  exact this
theorem own_some {α : Type} {e : TypeId} {c : Cod α} {base : Nat} {w : World} {v : Value} {xs : List α} (h : V.Own e c base w v xs) (hx : xs ≠ []) : ∃ g cap, v = .slice (some ⟨g, 0, none⟩) xs.length cap ∧ base ≤ g ∧ g < w.heap.size := by
  obtain ⟨h1, h2⟩ := h
  rcases h2 with ⟨-, h2⟩ | ⟨g, cap, cur, rfl, h3, h4, h5⟩
  · exact absurd (List.eq_nil_of_length_eq_zero h2) hx
  · exact ⟨g, cap, rfl, h3, (Array.getElem?_eq_some_iff.1 h4).1⟩

theorem rflat_set : ∀ (xs : List Ride) (i : Nat) (x : Ride), ((((xs.flatMap Ride.enc).set (i * 4) (.int .i64 x.t)).set (i * 4 + 1) (.int .i64 x.s)).set (i * 4 + 2) (.int .i64 x.e)).set (i * 4 + 3) (.int .i64 x.f) = (xs.set i x).flatMap Ride.enc
  | [], i, x => by simp
  | y :: ys, 0, x => by simp [List.flatMap_cons, Ride.enc]
  | y :: ys, i + 1, x => by
    have ih := rflat_set ys i x
    rw [List.set_cons_succ, List.flatMap_cons, List.flatMap_cons, ← ih]
    have e : (i + 1) * 4 = i * 4 + 4 := by omega
    rw [e]
    simp [Ride.enc]
theorem rown_set {base : Nat} {w : World} {g n cap : Nat} {xs : List Ride} (h : V.Own 29 Ride.cod base w (.slice (some ⟨g, 0, none⟩) n cap) xs) (hn : n = xs.length) (i : Nat) (x : Ride) {w' : World}
    (hw : w' = (((w.setCell ⟨g, i * 4, none⟩ (.int .i64 x.t)).setCell ⟨g, i * 4 + 1, none⟩ (.int .i64 x.s)).setCell ⟨g, i * 4 + 2, none⟩ (.int .i64 x.e)).setCell ⟨g, i * 4 + 3, none⟩ (.int .i64 x.f)) :
    V.Own 29 Ride.cod base w' (.slice (some ⟨g, 0, none⟩) n cap) (xs.set i x) ∧ w.grownBy w' (some g) := by
  subst hn; subst hw
  have h' : w.ownsRow base 29 4 (.slice (some ⟨g, 0, none⟩) xs.length cap) xs.length (xs.flatMap Ride.cod.enc) := h
  obtain ⟨h1, q1⟩ := h'.stored (i * 4) (.int .i64 x.t)
  obtain ⟨h2, q2⟩ := h1.stored (i * 4 + 1) (.int .i64 x.s)
  obtain ⟨h3, q3⟩ := h2.stored (i * 4 + 2) (.int .i64 x.e)
  obtain ⟨h4, q4⟩ := h3.stored (i * 4 + 3) (.int .i64 x.f)
  refine ⟨?_, ((q1.trans q2).trans q3).trans q4⟩
  show World.ownsRow _ base 29 4 _ (xs.set i x).length ((xs.set i x).flatMap Ride.cod.enc)
  rw [List.length_set]
  have := rflat_set xs i x
  have e : (xs.set i x).flatMap Ride.cod.enc = _ := this.symm
  rw [e]; exact h4
theorem rown_free {base : Nat} {w : World} {g n cap : Nat} {xs : List Ride} (h : V.Own 29 Ride.cod base w (.slice (some ⟨g, 0, none⟩) n cap) xs) (hn : n = xs.length) (j : Nat) : w.frozen? ⟨g, j, none⟩ = false := by
  subst hn
  exact World.ownsRow.frozenAt (show w.ownsRow base 29 4 (.slice (some ⟨g, 0, none⟩) xs.length cap) xs.length (xs.flatMap Ride.cod.enc) from h) j

/-! ### A map of numbers by numbers: what it answers at each -/
def Mp (w : World) (b n : Nat) (f : Int → Int) : Prop := ∃ D : DataW Unit, w.ownsMap Try.prog 3 (plainElem Try.prog 3) b n D ∧ ∀ k : Int, D.atKey (.int .i64 k) (.lit (.int .i64 0)) = .lit (.int .i64 (f k))
theorem Mp.made (w : World) : Mp (w.alloc (.map #[] 0)) w.heap.size 0 (fun _ => 0) := ⟨_, World.ownsMap_made _ _ _ _, fun k => by simp [DataW.atKey]⟩
theorem Mp.kept {w w' : World} {b n : Nat} {f : Int → Int} {row : Option Nat} (h : Mp w b n f) (hg : w.grownBy w' row) (hne : some b ≠ row) : Mp w' b n f := by
  obtain ⟨D, h1, h2⟩ := h; exact ⟨D, h1.kept hg hne, h2⟩
theorem Mp.lt {w : World} {b n : Nat} {f : Int → Int} (h : Mp w b n f) : b < w.heap.size := by obtain ⟨D, h1, _⟩ := h; exact h1.lt
theorem Mp.mono {w : World} {b n n' : Nat} {f : Int → Int} (h : Mp w b n f) (hn : n ≤ n') : Mp w b n' f := by obtain ⟨D, h1, h2⟩ := h; exact ⟨D, h1.mono hn, h2⟩
theorem Mp.below {w w' : World} {b n : Nat} {f : Int → Int} (h : Mp w b n f) (hb : Below w.heap.size w w') : Mp w' b n f := h.kept (grown_of_below hb) (by simp)
theorem mp_look {w : World} {b n : Nat} {f : Int → Int} (h : Mp w b n f) {ops : Array Oper} {rest : List Oper} {o : Oper} {a : Act} {Q : Exit → Act → World → Prop} (hg : o.guard = none) (m x : Operand) (hop : o.op = Op.lookup 69 m x false) (hm : a.eval m = .map (some b)) (k : Int) (hk : (Lit.int .i64 k).wf = true) (hx : a.eval x = .int .i64 k)
    (hK : wpList Try.prog ops Q rest (a.put o.dst (.int .i64 (f k))) w) : wpList Try.prog ops Q (o :: rest) a w := by
  obtain ⟨D, h1, h2⟩ := h
  refine wpList_lookup_own_int w hg m x 69 hop 3 3 .i64 lawI Try.underlying69 Try.underlying3 (zeroI w) b n D hm h1 _ _ hx (keyOf_int_mk Try.underlying3 hk) fun c hc _ => ?_
  rw [h2 k] at hc
  simp only [DataW.lit.injEq, Lit.int.injEq, true_and] at hc
  subst hc; exact hK
theorem mp_store {w : World} {b n : Nat} {f : Int → Int} (h : Mp w b n f) {ops : Array Oper} {rest : List Oper} {o : Oper} {a : Act} {Q : Exit → Act → World → Prop} (hg : o.guard = none) (m x v : Operand) (hop : o.op = Op.mapUpdate 69 m x v) (hm : a.eval m = .map (some b)) (hn : n < maxLen) (k y : Int) (hk : (Lit.int .i64 k).wf = true) (hy : (Lit.int .i64 y).wf = true) (hx : a.eval x = .int .i64 k) (hv : a.eval v = .int .i64 y)
    (hK : ∀ w', Mp w' b (n + 1) (fun j => if j = k then y else f j) → w.grownBy w' (some b) → wpList Try.prog ops Q rest (a.put o.dst undef) w') : wpList Try.prog ops Q (o :: rest) a w := by
  obtain ⟨D, h1, h2⟩ := h
  have hD : IsMap D := by obtain ⟨es, clock, -, -, -, e⟩ := h1; exact ⟨_, e⟩
  refine wpList_mapUpdate_own w hg m x v 69 hop 3 3 lawI Try.underlying69 _ b n D hm h1 hn _ _ (.int .i64 k) hx hv (keyOf_int_mk Try.underlying3 hk) _ [] (plainElem_int Try.underlying3 hy) fun w' h3 h4 => hK w' ⟨_, h3, fun j => ?_⟩ h4
  show _ = DataW.lit (.int .i64 (if j = k then y else f j))
  by_cases hj : j = k
  · subst hj
    rw [atKey_put_same hD (by simp [WideAt.IsKeyLit]), if_pos rfl]
  · rw [atKey_put_other (by simpa using hj), if_neg hj, h2 j]

/-! ### Where a trip's ride is -/
def findI : List Ride → Int → Int
  | [], _ => -1
  | r :: l, t => if r.t = t then 0 else if findI l t < 0 then -1 else findI l t + 1
theorem findI_none : ∀ (l : List Ride) (t : Int), (∀ r ∈ l, r.t ≠ t) → findI l t = -1
  | [], _, _ => rfl
  | r :: l, t, h => by
    unfold findI
    rw [if_neg (h r (by simp)), findI_none l t (fun x hx => h x (by simp [hx]))]
    simp
theorem findI_at : ∀ (l : List Ride) (t : Int) (k : Nat) (r : Ride), (∀ j x, j < k → l[j]? = some x → x.t ≠ t) → l[k]? = some r → r.t = t → findI l t = k
  | [], t, k, r, _, h, _ => by simp at h
  | y :: l, t, 0, r, _, h, e => by simp at h; subst h; unfold findI; rw [if_pos e]; rfl
  | y :: l, t, k + 1, r, h1, h2, e => by
    have h3 := findI_at l t k r (fun j x hj hx => h1 (j + 1) x (by omega) (by simpa using hx)) (by simpa using h2) e
    unfold findI
    rw [if_neg (h1 0 y (by omega) (by simp)), h3, if_neg (by omega)]; push_cast; rfl
theorem findI_cases : ∀ (l : List Ride) (t : Int), (findI l t = -1 ∧ ∀ r ∈ l, r.t ≠ t) ∨ ∃ (k : Nat) (r : Ride), findI l t = k ∧ k < l.length ∧ l[k]? = some r ∧ r.t = t ∧ ∀ j x, j < k → l[j]? = some x → x.t ≠ t
  | [], t => .inl ⟨rfl, fun r hr => by simp at hr⟩
  | y :: l, t => by
    by_cases e : y.t = t
    · exact .inr ⟨0, y, by unfold findI; rw [if_pos e]; rfl, by simp, by simp, e, fun j x hj => by omega⟩
    · rcases findI_cases l t with ⟨h1, h2⟩ | ⟨k, r, h1, h2, h3, h4, h5⟩
      · refine .inl ⟨by unfold findI; rw [if_neg e, h1]; simp, fun r hr => ?_⟩
        rcases List.mem_cons.1 hr with rfl | hr
        · exact e
        · exact h2 r hr
      · refine .inr ⟨k + 1, r, by unfold findI; rw [if_neg e, h1, if_neg (by omega)]; push_cast; rfl, by simp; omega, by simpa using h3, h4, fun j x hj hx => ?_⟩
        cases j with
        | zero => simp at hx; subst hx; exact e
        | succ j => exact h5 j x (by omega) (by simpa using hx)
end Go.Proofs.Ytgdhlhjflbinmaa
