/- Networks: a way's weight, walked both ways; what it is against the distance of its ends. -/
import Derived.Test.YtgfakkkiejeofaaNuQ
import Derived.Test.YtgfakkkiejeofaaNsC
import Derived.Test.YtgfakkkiejeofaaNeM
import Derived.Deep.RegionHeld3
namespace Go.Proofs.Ytgfakkkiejeofaa.Ne
open Go.RowKit Go.V Go.Proofs Go.Sort

/-! ### The plain weight -/
def wRun (L : List Lnk) (xs : List Int) : Nat → Nat → Int → Int × Bool
  | 0, _, acc => (acc, true)
  | c + 1, i, acc => if wtE L (xs.getD i 0) (xs.getD (i + 1) 0) = 0 then (0, false) else wRun L xs c (i + 1) (acc + wtE L (xs.getD i 0) (xs.getD (i + 1) 0))
def wayW (L : List Lnk) (k : Nat) (xs : List Int) : Int × Bool := if xs = [] ∨ ¬ (0 ≤ xs.getD 0 0 ∧ xs.getD 0 0 < k) then (0, false) else wRun L xs (xs.length - 1) 0 0
theorem wRun_step {L : List Lnk} {xs : List Int} {c i : Nat} {acc x : Int} (h : wtE L (xs.getD i 0) (xs.getD (i + 1) 0) = x) (hx : x ≠ 0) : wRun L xs (c + 1) i acc = wRun L xs c (i + 1) (acc + x) := by
  show (if _ then _ else _) = _
  rw [h, if_neg hx]
theorem wRun_stop {L : List Lnk} {xs : List Int} {c i : Nat} {acc : Int} (h : wtE L (xs.getD i 0) (xs.getD (i + 1) 0) = 0) : wRun L xs (c + 1) i acc = (0, false) := by
  show (if _ then _ else _) = _
  rw [if_pos h]

theorem first_at {α : Type} {p : α → Prop} [DecidablePred p] : ∀ {M : List α}, (∃ x ∈ M, p x) → ∃ (j : Nat) (x : α), M[j]? = some x ∧ p x ∧ ∀ (i : Nat) (y : α), i < j → M[i]? = some y → ¬ p y
  | [], h => by obtain ⟨x, hx, -⟩ := h; simp at hx
  | x :: M, h => by
    by_cases hp : p x
    · exact ⟨0, x, rfl, hp, fun i y hi => absurd hi (by omega)⟩
    · obtain ⟨y, hy, hpy⟩ := h
      rcases List.mem_cons.1 hy with e | hy
      · rw [e] at hpy; exact absurd hpy hp
      · obtain ⟨j, z, h1, h2, h3⟩ := first_at (M := M) ⟨y, hy, hpy⟩
        refine ⟨j + 1, z, by rw [List.getElem?_cons_succ]; exact h1, h2, fun i u hi hu => ?_⟩
        cases i with
        | zero => simp at hu; subst hu; exact hp
        | succ i => rw [List.getElem?_cons_succ] at hu; exact h3 i u (by omega) hu
theorem near_no {L : List Lnk} {k : Nat} (hL : LinksOk L k) (hp : L.Pairwise fun a b => aftB a b = true) {s t : Int} (h : wtE L s t = 0) : ∀ x ∈ nearL L s, x.b ≠ t := by
  intro x hx e
  obtain ⟨h1, h2⟩ := mem_nearL hx
  have := (edge_wt hL hp h2).2
  rw [e] at this; exact this h
theorem near_yes {L : List Lnk} {k : Nat} (hL : LinksOk L k) (hp : L.Pairwise fun a b => aftB a b = true) {s t : Int} (h : wtE L s t ≠ 0) : ∃ (j : Nat) (x : Lnk), (nearL L s)[j]? = some x ∧ x.b = t ∧ x.w = wtE L s t ∧ ∀ (i : Nat) (y : Lnk), i < j → (nearL L s)[i]? = some y → y.b ≠ t := by
  have he := wt_edge h
  have hm := nearL_mem he (hL.edge he).2.2.2.2.1
  obtain ⟨j, x, h1, h2, h3⟩ := first_at (p := fun x : Lnk => x.b = t) ⟨_, hm, rfl⟩
  refine ⟨j, x, h1, h2, ?_, h3⟩
  obtain ⟨g1, g2⟩ := mem_nearL (List.mem_of_getElem? h1)
  have := (edge_wt hL hp g2).1
  rw [h2] at this; exact this.symm

/-! ### The question, and who asks it -/


/-- What path.Weight has in memory. -/
structure PW (w wr : World) (n : Net) (hs hl : Hdr) (z g : Nat) (wa : Option Addr) (wn wc i : Nat) : Prop where
  bx : wr.heap[z]? = some (n.box hs hl)
  wy : wr.heap[z + 1]? = some (.cells #[.slice wa wn wc] 26 (0, 0))
  iv : wr.heap[g]? = some (.cells #[.int .i64 (i : Int)] 3 (0, 0))
  bl : Below z w wr
  gz : z + 1 < g
section
variable {w wr w' : World} {n : Net} {hs hl : Hdr} {z g : Nat} {wa : Option Addr} {wn wc i : Nat}
theorem PW.below (h : PW w wr n hs hl z g wa wn wc i) (hb : Below wr.heap.size wr w') : PW w w' n hs hl z g wa wn wc i :=
  ⟨box_below h.bx hb, box_below h.wy hb, box_below h.iv hb, h.bl.trans (hb.mono (by have := box_lt h.bx; omega)), h.gz⟩
end

theorem near_w {L : List Lnk} {k : Nat} (hL : LinksOk L k) (hp : L.Pairwise fun a b => aftB a b = true) {s t : Int} {x : Lnk} (hx : x ∈ nearL L s) (e : x.b = t) : wtE L s t = x.w ∧ wtE L s t ≠ 0 := by
  obtain ⟨h1, h2⟩ := mem_nearL hx
  rw [e] at h2
  exact edge_wt hL hp h2



theorem wRun_no {L : List Lnk} {xs : List Int} : ∀ (c i : Nat) (acc S : Int), wRun L xs c i acc = (S, false) → S = 0
  | 0, _, _, _, h => by cases h
  | c + 1, i, acc, S, h => by
    by_cases hw : wtE L (xs.getD i 0) (xs.getD (i + 1) 0) = 0
    · rw [wRun_stop hw] at h; cases h; rfl
    · rw [wRun_step rfl hw] at h; exact wRun_no c (i + 1) _ S h
theorem wayW_no {L : List Lnk} {k : Nat} {xs : List Int} (h : (wayW L k xs).2 = false) : (wayW L k xs).1 = 0 := by
  unfold wayW at h ⊢
  split
  · rfl
  · next g =>
    rw [if_neg g] at h
    exact wRun_no _ 0 0 _ (Prod.ext rfl h)
theorem wRun_walk {L : List Lnk} {xs : List Int} : ∀ (c i : Nat) (acc S : Int), wRun L xs c i acc = (S, true) → Wlk L (xs.getD i 0) (xs.getD (i + c) 0) (S - acc)
  | 0, i, acc, S, h => by
    cases h
    rw [Int.sub_self, Nat.add_zero]
    exact .nil
  | c + 1, i, acc, S, h => by
    by_cases hw : wtE L (xs.getD i 0) (xs.getD (i + 1) 0) = 0
    · rw [wRun_stop hw] at h; cases h
    · rw [wRun_step rfl hw] at h
      have ih := wRun_walk c (i + 1) _ S h
      have := (Wlk.one (wt_edge hw)).trans ih
      rw [show i + 1 + c = i + (c + 1) by omega] at this
      rw [show S - acc = wtE L (xs.getD i 0) (xs.getD (i + 1) 0) + (S - (acc + wtE L (xs.getD i 0) (xs.getD (i + 1) 0))) by omega]
      exact this
/-- A way that goes through: its first stop is one, and there's a way of its weight between its ends. -/
theorem wayW_yes {L : List Lnk} {k : Nat} {xs : List Int} (h : (wayW L k xs).2 = true) : xs ≠ [] ∧ (0 ≤ xs.getD 0 0 ∧ xs.getD 0 0 < k) ∧ Wlk L (xs.getD 0 0) (xs.getD (xs.length - 1) 0) (wayW L k xs).1 := by
  unfold wayW at h ⊢
  split
  · next g => rw [if_pos g] at h; cases h
  · next g =>
    rw [if_neg g] at h
    have hw := wRun_walk (xs.length - 1) 0 0 _ (Prod.ext (rfl : (wRun L xs (xs.length - 1) 0 0).1 = _) h)
    rw [Nat.zero_add, Int.sub_zero] at hw
    exact ⟨fun e => g (.inl e), Classical.byContradiction fun q => g (.inr q), hw⟩

theorem wRun_last {L : List Lnk} {xs : List Int} {x : Int} (hx : x ≠ 0) : ∀ (c i : Nat) (acc S : Int), wRun L xs c i acc = (S, true) → wtE L (xs.getD (i + c) 0) (xs.getD (i + c + 1) 0) = x → wRun L xs (c + 1) i acc = (S + x, true)
  | 0, i, acc, S, h, hw => by
    cases h
    rw [Nat.add_zero] at hw
    rw [wRun_step hw hx]; rfl
  | c + 1, i, acc, S, h, hw => by
    by_cases h0 : wtE L (xs.getD i 0) (xs.getD (i + 1) 0) = 0
    · rw [wRun_stop h0] at h; cases h
    · rw [wRun_step rfl h0] at h ⊢
      refine wRun_last hx c (i + 1) _ S h ?_
      rw [show i + 1 + c = i + (c + 1) by omega]; exact hw
theorem wRun_app {L : List Lnk} {xs : List Int} (ys : List Int) : ∀ (c i : Nat) (acc : Int), i + c < xs.length → wRun L (xs ++ ys) c i acc = wRun L xs c i acc
  | 0, _, _, _ => rfl
  | c + 1, i, acc, h => by
    have e : ∀ j, j < xs.length → (xs ++ ys).getD j 0 = xs.getD j 0 := fun j hj => by rw [List.getD_eq_getElem?_getD, List.getD_eq_getElem?_getD, List.getElem?_append_left hj]
    show (if _ then _ else _) = (if _ then _ else _)
    rw [e i (by omega), e (i + 1) (by omega), wRun_app ys c (i + 1) _ (by omega)]
/-- A way from a to v of that weight, stop by stop. -/
structure Gd (L : List Lnk) (a : Int) (xs : List Int) (v d : Int) : Prop where
  ne : xs ≠ []
  hd : xs.getD 0 0 = a
  lt : xs.getD (xs.length - 1) 0 = v
  run : wRun L xs (xs.length - 1) 0 0 = (d, true)
theorem Gd.one (L : List Lnk) (a : Int) : Gd L a [a] a 0 := ⟨by simp, rfl, rfl, rfl⟩
theorem Gd.snoc {L : List Lnk} {a u d v x : Int} {xs : List Int} (h : Gd L a xs u d) (hx : wtE L u v = x) (h0 : x ≠ 0) : Gd L a (xs ++ [v]) v (d + x) := by
  have hl : 0 < xs.length := List.length_pos_iff.2 h.ne
  have el : (xs ++ [v]).length - 1 = xs.length - 1 + 1 := by simp; omega
  have e0 : (xs ++ [v]).getD (xs.length - 1) 0 = u := by
    rw [← h.lt, List.getD_eq_getElem?_getD, List.getD_eq_getElem?_getD, List.getElem?_append_left (by omega)]
  have e1 : (xs ++ [v]).getD (xs.length - 1 + 1) 0 = v := by
    rw [List.getD_eq_getElem?_getD, show xs.length - 1 + 1 = xs.length by omega, List.getElem?_append_right (Nat.le_refl _), Nat.sub_self]; rfl
  refine ⟨by simp, ?_, by rw [el]; exact e1, ?_⟩
  · rw [← h.hd, List.getD_eq_getElem?_getD, List.getD_eq_getElem?_getD, List.getElem?_append_left hl]
  · rw [el]
    refine wRun_last h0 _ 0 0 d ?_ ?_
    · rw [wRun_app [v] _ 0 0 (by omega)]; exact h.run
    · rw [Nat.zero_add, e0, e1]; exact hx
theorem prev_wt {L : List Lnk} {k : Nat} (hL : LinksOk L k) (hp : L.Pairwise fun a b => aftB a b = true) {a : Int} (ha : 0 ≤ a ∧ a < k) {v : Int} (h0 : 0 ≤ far L k a v) (hv : v ≠ a) :
    wtE L (prevE L (far L k a) v) v ≠ 0 ∧ far L k a (prevE L (far L k a) v) + wtE L (prevE L (far L k a) v) v = far L k a v := by
  obtain ⟨l, h1, h2⟩ := back_ex hL ha h0 hv
  have hb : ∃ l, prevE L (far L k a) v = l.b ∧ l ∈ nearL L v ∧ backB (far L k a) v l = true := by
    unfold prevE
    cases hf : (nearL L v).find? (backB (far L k a) v) with
    | none => exact absurd h2 (List.find?_eq_none.1 hf l h1)
    | some x => exact ⟨x, rfl, List.mem_of_find?_eq_some hf, List.find?_some hf⟩
  obtain ⟨x, e, g1, g2⟩ := hb
  obtain ⟨i1, i2⟩ := mem_nearL g1
  have g3 := (of_decide_eq_true g2).2
  obtain ⟨j1, j2⟩ := edge_wt hL hp i2.symm
  rw [e]
  exact ⟨j2, by rw [j1]; exact g3⟩
theorem back_good {L : List Lnk} {k : Nat} (hL : LinksOk L k) (hp : L.Pairwise fun a b => aftB a b = true) {a : Int} (ha : 0 ≤ a ∧ a < k) : ∀ (c : Nat) (v : Int), 0 ≤ far L k a v → (far L k a v).toNat ≤ c → Gd L a ((backE (prevE L (far L k a)) a c v).reverse ++ [v]) v (far L k a v) := by
  intro c
  induction c with
  | zero =>
    intro v h0 hc
    by_cases e : v = a
    · rw [e, backE_self, (far_is hL ha).self]; exact Gd.one L a
    · obtain ⟨q, -, -, -, h3, h4⟩ := nxt_prev hL hp ha h0 e
      omega
  | succ c ih =>
    intro v h0 hc
    by_cases e : v = a
    · rw [e, backE_self, (far_is hL ha).self]; exact Gd.one L a
    · obtain ⟨q, -, h2, -, h3, h4⟩ := nxt_prev hL hp ha h0 e
      obtain ⟨w1, w2⟩ := prev_wt hL hp ha h0 e
      rw [h2] at w1 w2
      have := (ih q h3 (by omega)).snoc rfl w1
      rw [w2] at this
      rw [backE_go e, h2, List.reverse_cons]
      exact this
theorem backE_len (nx : Int → Int) (a : Int) : ∀ (c : Nat) (v : Int), (backE nx a c v).length ≤ c
  | 0, _ => Nat.le_refl _
  | c + 1, v => by
    by_cases e : v = a
    · rw [e, backE_self]; simp
    · rw [backE_go e, List.length_cons]; have := backE_len nx a c (nx v); omega
/-- The best way: of the distance's weight. -/
theorem wayL_good {L : List Lnk} {k : Nat} (hL : LinksOk L k) (hp : L.Pairwise fun a b => aftB a b = true) {a : Int} (ha : 0 ≤ a ∧ a < k) {b : Int} (h0 : 0 ≤ far L k a b) : Gd L a (wayL L k a b) b (far L k a b) := by
  unfold wayL
  rw [List.reverse_cons]
  exact back_good hL hp ha _ b h0 (Nat.le_refl _)
theorem wayL_len (L : List Lnk) (k : Nat) (a b : Int) : (wayL L k a b).length ≤ (far L k a b).toNat + 1 := by
  unfold wayL
  rw [List.length_reverse, List.length_cons]
  have := backE_len (prevE L (far L k a)) a (far L k a b).toNat b
  omega
theorem Gd.way {L : List Lnk} {k : Nat} {a v d : Int} {xs : List Int} (h : Gd L a xs v d) (ha : 0 ≤ a ∧ a < k) : wayW L k xs = (d, true) := by
  unfold wayW
  rw [if_neg, h.run]
  rw [h.hd]
  exact fun q => q.elim h.ne (fun q => q ha)
end Go.Proofs.Ytgfakkkiejeofaa.Ne
