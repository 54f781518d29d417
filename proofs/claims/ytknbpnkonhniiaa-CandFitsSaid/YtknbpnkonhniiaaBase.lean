/- What a slice reads as: plain lemmas on cells in memory. -/
import Derived.WalkKit
import Derived.WalkSpells
import Derived.WalkLawsBesides
import Derived.BigQuiet
import Derived.Deep.QuietTactic
import Derived.Lib.Hide
import Derived.Laws.AppendOwnNone
import Derived.OwnWalk
namespace Go.V
open Go.RowKit

/-- How a thing lies in cells: always as many. -/
structure Cod (α : Type) where
  k : Nat
  enc : α → List Value
  len : ∀ x, (enc x).length = k
  one : ∀ x, ∀ v ∈ enc x, v.oneCell' = true

def Cells (w : World) (b off : Nat) (cs : List Value) : Prop := ∀ j u, cs[j]? = some u → w.cell? ⟨b, off + j, none⟩ = some u

/-- The slice (a, n, cap) reads as xs. -/
structure Sl {α : Type} (c : Cod α) (w : World) (a : Option Addr) (n cap : Nat) (xs : List α) : Prop where
  hlen : n = xs.length
  hcap : n ≤ cap
  hmax : cap ≤ maxLen
  hnil : a = none → n = 0 ∧ cap = 0
  hat : ∀ d, a = some d → 0 < cap → d.spot = none ∧ d.block < w.heap.size ∧ Cells w d.block d.off (xs.flatMap c.enc)

theorem flat_len {α : Type} (c : Cod α) (xs : List α) : (xs.flatMap c.enc).length = xs.length * c.k := by
  induction xs with
  | nil => simp
  | cons x xs ih => simp [List.flatMap_cons, ih, c.len, Nat.add_mul]; omega

theorem flat_get {α : Type} (c : Cod α) : ∀ (xs : List α) (i j : Nat), j < c.k → (xs.flatMap c.enc)[i * c.k + j]? = (xs[i]?).bind fun x => (c.enc x)[j]?
  | [], i, j, _ => by simp
  | x :: xs, 0, j, hj => by simp [List.flatMap_cons, List.getElem?_append, c.len, hj]
  | x :: xs, i + 1, j, hj => by
    have := flat_get c xs i j hj
    rw [List.flatMap_cons, List.getElem?_append_right (by rw [c.len, Nat.add_mul]; omega), c.len, show (i + 1) * c.k + j - c.k = i * c.k + j by rw [Nat.add_mul]; omega]
    simpa using this

section
variable {α : Type} {c : Cod α} {w : World} {a : Option Addr} {n cap : Nat} {xs : List α}

theorem Sl.some (h : Sl c w a n cap xs) {i : Nat} (hi : i < n) : ∃ b off, a = some ⟨b, off, none⟩ ∧ b < w.heap.size ∧ ∃ x, xs[i]? = some x ∧ ∀ j u, (c.enc x)[j]? = some u → w.cell? ⟨b, off + i * c.k + j, none⟩ = some u := by
  cases ha : a with
  | none => have := (h.hnil ha).1; omega
  | some d =>
    obtain ⟨h1, h2, h3⟩ := h.hat d ha (Nat.lt_of_lt_of_le (Nat.lt_of_le_of_lt (Nat.zero_le _) hi) h.hcap)
    obtain ⟨b, off, s⟩ := d
    simp at h1; subst h1
    have hl := h.hlen
    refine ⟨b, off, rfl, h2, xs[i], by simp, ?_⟩
    intro j u hu
    have hj : j < c.k := by rw [← c.len xs[i]]; exact (List.getElem?_eq_some_iff.1 hu).1
    have := h3 (i * c.k + j) u (by rw [flat_get c xs i j hj]; simpa [List.getElem?_eq_getElem (show i < xs.length by omega)] using hu)
    simpa [Nat.add_assoc] using this

theorem Sl.below {w' : World} (h : Sl c w a n cap xs) (hb : Below w.heap.size w w') : Sl c w' a n cap xs :=
  ⟨h.hlen, h.hcap, h.hmax, h.hnil, fun d hd hc => by
    obtain ⟨h1, h2, h3⟩ := h.hat d hd hc
    exact ⟨h1, Nat.lt_of_lt_of_le h2 hb.size, fun j u hu => by rw [hb.cell (p := ⟨d.block, d.off + j, none⟩) h2]; exact h3 j u hu⟩⟩

end

theorem ret_int {k : IntKind} {a b : Int} (h : a = b) : Ending.returned (.int k a) = .returned (.int k b) := by rw [h]
theorem ret_bool {a b : Bool} (h : a = b) : Ending.returned (.bool a) = .returned (.bool b) := by rw [h]
theorem drop_at {α : Type} {l : List α} {k : Nat} {r : α} (h : l[k]? = some r) : l.drop k = r :: l.drop (k + 1) := by
  obtain ⟨h1, h2⟩ := List.getElem?_eq_some_iff.1 h
  rw [List.drop_eq_getElem_cons h1, h2]
theorem take_at {α : Type} {l : List α} {k : Nat} {r : α} (h : l[k]? = some r) : l.take (k + 1) = l.take k ++ [r] := by
  obtain ⟨h1, h2⟩ := List.getElem?_eq_some_iff.1 h
  rw [List.take_succ_eq_append_getElem h1, h2]

/-! ### What a call made itself -/
/-- The slice type t has elements of type e, which lie as c says, in so many bytes. -/
structure Elt {α : Type} (P : Program) (t e : TypeId) (c : Cod α) (bytes : Nat) : Prop where
  ht : P.underlying t = some (.slice e)
  row : ∃ i z, P.info? e = some i ∧ i.zero = some z ∧ i.size = c.k ∧ i.bytes = bytes ∧ z.cells.size = c.k
  pos : 0 < c.k

theorem Elt.of {α : Type} {P : Program} {t e : TypeId} {c : Cod α} {bytes : Nat} {z : Value} (ht : P.underlying t = some (.slice e)) (hr : (P.info? e).map (fun i => (i.zero, i.size, i.bytes)) = some (some z, c.k, bytes)) (hz : z.cells.size = c.k) (hp : 0 < c.k) : Elt P t e c bytes := by
  obtain ⟨i, h1, h2, h3, h4⟩ := info_parts hr
  exact ⟨ht, ⟨i, z, h1, h2, h3, h4, hz⟩, hp⟩

/-- It reads as xs, and nobody else has it; its block is base or later. -/
def Own {α : Type} (e : TypeId) (c : Cod α) (base : Nat) (w : World) (v : Value) (xs : List α) : Prop := w.ownsRow base e c.k v xs.length (xs.flatMap c.enc)

theorem add_addr (b off j : Nat) : (⟨b, off, none⟩ : Addr).add j = ⟨b, off + j, none⟩ := by
  unfold Addr.add; split <;> simp_all

section
variable {α : Type} {e : TypeId} {c : Cod α} {base : Nat} {w : World} {v : Value} {xs : List α}

theorem Own.nil : Own e c base w (.slice none 0 0) ([] : List α) := World.ownsRow_nil _ _ _ _
theorem Own.lower (h : Own e c base w v xs) {base' : Nat} (hb : base' ≤ base) : Own e c base' w v xs := by
  obtain ⟨h1, h2⟩ := h
  refine ⟨h1, ?_⟩
  rcases h2 with h2 | ⟨g, cap, cur, h2, h3, h4⟩
  · exact .inl h2
  · exact .inr ⟨g, cap, cur, h2, by omega, h4⟩
theorem Own.kept (h : Own e c base w v xs) {w' : World} {row : Option Nat} (hg : w.grownBy w' row) (hne : v.ownBlock = none ∨ v.ownBlock ≠ row) : Own e c base w' v xs := World.ownsRow.kept h hg hne
theorem Own.below (h : Own e c base w v xs) {w' : World} (hb : Below w.heap.size w w') : Own e c base w' v xs := by
  obtain ⟨h1, h2⟩ := h
  refine ⟨h1, ?_⟩
  rcases h2 with h2 | ⟨g, cap, cur, h2, h3, h4, h5⟩
  · exact .inl h2
  · exact .inr ⟨g, cap, cur, h2, h3, by rw [hb.block g (Array.getElem?_eq_some_iff.1 h4).1]; exact h4, h5⟩
theorem Own.slice (h : Own e c base w v xs) : ∃ a cap, v = .slice a xs.length cap ∧ Sl c w a xs.length cap xs ∧ (∀ d, a = Option.some d → ∃ g cur, d = ⟨g, 0, none⟩ ∧ base ≤ g ∧ w.heap[g]? = Option.some (.cells cur e (0, 0))) := by
  obtain ⟨h1, h2⟩ := id h
  rcases h2 with ⟨rfl, hn⟩ | ⟨g, cap, cur, rfl, hb, hg, hn, hm, hs, ht⟩
  · have : xs = [] := List.eq_nil_of_length_eq_zero hn
    subst this
    exact ⟨none, 0, rfl, ⟨rfl, Nat.le_refl _, by unfold maxLen; omega, (fun _ => ⟨rfl, rfl⟩), (fun d hd => nomatch hd)⟩, (fun d hd => nomatch hd)⟩
  · refine ⟨Option.some ⟨g, 0, none⟩, cap, rfl, ⟨rfl, hn, hm, (fun hd => nomatch hd), (fun d hd _ => ?_)⟩, (fun d hd => ?_)⟩
    · simp at hd; subst hd
      refine ⟨rfl, (Array.getElem?_eq_some_iff.1 hg).1, fun j u hu => ?_⟩
      have := World.ownsRow.cells h (g := g) rfl j u hu
      rwa [add_addr] at this
    · simp at hd; subst hd
      exact ⟨g, cur, rfl, hb, hg⟩

/-- A slice that lies in a new block by itself. -/
theorem sl_new (w : World) (cs : Array Value) (t : TypeId) (xs : List α) (n : Nat) (hn : n = xs.length) (hm : n ≤ maxLen) (hc : cs.toList = xs.flatMap c.enc) :
    Sl c (w.alloc (.cells cs t)) (Option.some ⟨w.heap.size, 0, none⟩) n n xs :=
  ⟨hn, Nat.le_refl _, hm, (fun h => nomatch h), fun d hd _ => by
    simp at hd; subst hd
    refine ⟨rfl, by simp, fun j u hu => ?_⟩
    rw [← hc] at hu
    rw [Nat.zero_add, World.cell?_alloc_new]
    simpa using hu⟩

theorem Sl.at0 {a : Option Addr} {n cap : Nat} (h : Sl c w a n cap xs) {w' : World} (hw : ∀ a v, w.cell? a = Option.some v → w'.cell? a = Option.some v) (hs : w.heap.size ≤ w'.heap.size) : Sl c w' a n cap xs :=
  ⟨h.hlen, h.hcap, h.hmax, h.hnil, fun d hd hc => by
    obtain ⟨h1, h2, h3⟩ := h.hat d hd hc
    exact ⟨h1, Nat.lt_of_lt_of_le h2 hs, fun j u hu => hw _ _ (h3 j u hu)⟩⟩

/-- Its cells, read off its address. -/
theorem Sl.src {d : Addr} {n cap : Nat} (h : Sl c w (Option.some d) n cap xs) : ∀ j u, (xs.flatMap c.enc)[j]? = Option.some u → w.cell? (d.add j) = Option.some u := by
  intro j u hu
  by_cases hc : 0 < cap
  · obtain ⟨g1, -, g3⟩ := h.hat d rfl hc
    obtain ⟨b, off, sp⟩ := d
    have g1 : sp = none := g1
    subst g1
    rw [add_addr]; exact g3 j u hu
  · have e : xs = [] := List.eq_nil_of_length_eq_zero (by rw [← h.hlen]; have := h.hcap; omega)
    subst e
    simp at hu

/-- What was read of a slice, of a piece of it. -/
theorem Sl.piece {a : Option Addr} {n cap : Nat} (h : Sl c w a n cap xs) {lo hi : Nat} (h1 : lo ≤ hi) (h2 : hi ≤ n) (hc : 0 < cap) :
    (a = none ∧ Sl c w none (hi - lo) (cap - lo) ((xs.take hi).drop lo)) ∨ ∃ b off, a = Option.some ⟨b, off, none⟩ ∧ Sl c w (Option.some ⟨b, off + lo * c.k, none⟩) (hi - lo) (cap - lo) ((xs.take hi).drop lo) := by
  have hl := h.hlen
  have hlen : hi - lo = ((xs.take hi).drop lo).length := by simp; omega
  cases a with
  | none =>
    obtain ⟨rfl, rfl⟩ := h.hnil rfl
    exact .inl ⟨rfl, hlen, by omega, by omega, fun _ => by omega, fun d hd => nomatch hd⟩
  | some d =>
    obtain ⟨g1, g2, g3⟩ := h.hat d rfl hc
    obtain ⟨b, off, sp⟩ := d
    simp at g1; subst g1
    refine .inr ⟨b, off, rfl, hlen, by have := h.hcap; omega, by have := h.hmax; omega, (fun hd => nomatch hd), fun d hd _ => ?_⟩
    simp at hd; subst hd
    refine ⟨rfl, g2, fun j u hu => ?_⟩
    have hj : j < (hi - lo) * c.k := by have := (List.getElem?_eq_some_iff.1 hu).1; rw [flat_len, ← hlen] at this; exact this
    have hk : 0 < c.k := by rcases Nat.eq_zero_or_pos c.k with e | e; rw [e] at hj; omega; exact e
    have e1 : (((xs.take hi).drop lo).flatMap c.enc)[j]? = (xs.flatMap c.enc)[lo * c.k + j]? := by
      have f1 := flat_get c ((xs.take hi).drop lo) (j / c.k) (j % c.k) (Nat.mod_lt _ hk)
      have f2 := flat_get c xs (lo + j / c.k) (j % c.k) (Nat.mod_lt _ hk)
      have f3 : j / c.k * c.k + j % c.k = j := by rw [Nat.mul_comm]; exact Nat.div_add_mod j c.k
      rw [f3] at f1
      rw [show (lo + j / c.k) * c.k + j % c.k = lo * c.k + j by rw [Nat.add_mul]; omega] at f2
      rw [f1, f2]
      have hjd : j / c.k < hi - lo := by rw [Nat.div_lt_iff_lt_mul hk]; exact hj
      rw [List.getElem?_drop, List.getElem?_take_of_lt (by omega)]
    rw [e1] at hu
    have := g3 _ u hu
    show w.cell? ⟨b, off + lo * c.k + j, none⟩ = _
    rw [Nat.add_assoc]; exact this

theorem Sl.upto {a : Option Addr} {n cap : Nat} (h : Sl c w a n cap xs) {j : Nat} (hj : j ≤ n) : Sl c w a j cap (xs.take j) := by
  have hl := h.hlen
  refine ⟨by simp; omega, by have := h.hcap; omega, h.hmax, fun ha => ⟨by have := (h.hnil ha).1; omega, (h.hnil ha).2⟩, fun d hd hc => ?_⟩
  obtain ⟨h1, h2, h3⟩ := h.hat d hd hc
  refine ⟨h1, h2, fun i u hu => h3 i u ?_⟩
  have e : xs.flatMap c.enc = (xs.take j).flatMap c.enc ++ (xs.drop j).flatMap c.enc := by rw [← List.flatMap_append, List.take_append_drop]
  rw [e, List.getElem?_append_left (List.getElem?_eq_some_iff.1 hu).1]; exact hu
theorem Sl.from {b off n cap : Nat} (h : Sl c w (Option.some ⟨b, off, none⟩) n cap xs) {j : Nat} (hj : j ≤ n) (hc : 0 < cap) : Sl c w (Option.some ⟨b, off + j * c.k, none⟩) (n - j) (cap - j) (xs.drop j) := by
  rcases h.piece hj (Nat.le_refl n) hc with ⟨e, _⟩ | ⟨b', off', e, h2⟩
  · cases e
  · cases e
    rwa [List.take_of_length_le (by rw [h.hlen]; omega)] at h2

theorem Own.alloc (h : Own e c base w v xs) (o : Obj) : Own e c base (w.alloc o) v xs := World.ownsRow.alloc h o

/-- 'append(s, x...)', s the call's own, x whatever slice. -/
theorem wpList_app {P : Program} {t : TypeId} {bytes : Nat} (E : Elt P t e c bytes) {ops : Array Oper} {rest : List Oper} {o : Oper} {a : Act} {Q : Exit → Act → World → Prop} (hgd : o.guard = none) (s x : Operand)
    (ho : o.op = .call { callee := .builtin .append, args := #[s, x], argTypes := #[t, t] }) (v : Value) (xs : List α) (hs : a.eval s = v) (hown : Own e c base w v xs)
    (ax : Option Addr) (m cx : Nat) (ys : List α) (hx : a.eval x = .slice ax m cx) (hsl : Sl c w ax m cx ys) (hm : xs.length + m ≤ maxLen) (hb : (xs.length + m) * bytes ≤ 140737488355328) (hbase : base ≤ w.heap.size)
    (h : ∀ v' w', Own e c base w' v' (xs ++ ys) → w.grownBy w' v.ownBlock → wpList P ops Q rest (a.put o.dst v') w') : wpList P ops Q (o :: rest) a w := by
  obtain ⟨i, z, h1, h2, h3, h4, h5⟩ := E.row
  cases ax with
  | none =>
    obtain ⟨rfl, rfl⟩ := hsl.hnil rfl
    have hy : ys = [] := List.eq_nil_of_length_eq_zero hsl.hlen.symm
    subst hy
    refine wpList_append_own_none hgd s x t ho base e i c.k E.ht h1 v xs.length _ hs hown hx (h v w (by rw [List.append_nil]; exact hown) ⟨rfl, rfl, rfl, Nat.le_refl _, fun _ _ _ => rfl⟩)
  | some d =>
    refine wpList_append_own _ hgd s x t ho base e i z c.k bytes E.ht h1 h2 h3 h4 h5 E.pos v xs.length _ hs hown d m cx (ys.flatMap c.enc) hx (by rw [flat_len, hsl.hlen]) ?_ ?_ hm hb hbase ?_
    · exact hsl.src
    · exact fun u hu => by obtain ⟨y, -, hy⟩ := List.mem_flatMap.1 hu; exact c.one y u hy
    · intro v' w' k1 k2 k3
      refine h v' w' ?_ k2
      unfold Own
      rw [List.length_append, List.flatMap_append, ← hsl.hlen]; exact k1
end
end Go.V
