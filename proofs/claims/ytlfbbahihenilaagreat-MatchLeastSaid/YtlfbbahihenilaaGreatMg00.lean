/- What a slice reads as: plain lemmas on cells in memory. -/
/- Slices of slices: what they read as. -/
/- Slices of slices that a call made itself. -/
/- Rows of rows: the last one is put anew. -/
/- An append, and where the new row lies: several rows of the call's own, side by side. -/
/- Blocks that hold one thing; rows of numbers. -/
/- Stops: how they lie; which may be. -/
import Derived.WalkKit
import Derived.WalkSpells
import Derived.WalkLawsBesides
import Derived.BigQuiet
import Derived.Deep.QuietTactic
import Derived.Lib.Hide
import Derived.Laws.AppendOwnNone
import Derived.OwnWalk
import Derived.Maps.AppendAt
import Derived.Test.YtlfbbahihenilaaGreatRows
import Derived.Lib.QuietBelow
import Derived.Deep.Cut
import Derived.Deep.CutBlock
import Derived.Deep.CutRange
import Derived.Deep.DeepCutAuto
import Derived.Deep.DeepFit
import Derived.Laws.OwnMore
import Derived.Deep.OwnRows
import Derived.StillTailTactics
import Derived.Deep.RegionLaw
namespace Go.V
open Go.RowKit

/-- How a thing lies in cells: always as many. -/
structure Cod (α : Type) where
  k : Nat
  enc : α → List Value
  len : ∀ x, (enc x).length = k
  one : ∀ x, ∀ v ∈ enc x, v.oneCell' = true

def Cells (w : World) (b off : Nat) (cs : List Value) : Prop := ∀ j u, cs[j]? = some u → w.cell? ⟨b, off + j, none⟩ = some u

/-- The slice (a, n, cap) reads as xs. -/
structure Sl {α : Type} (c : Cod α) (w : World) (a : Option Addr) (n cap : Nat) (xs : List α) : Prop where
  hlen : n = xs.length
  hcap : n ≤ cap
  hmax : cap ≤ maxLen
  hnil : a = none → n = 0 ∧ cap = 0
  hat : ∀ d, a = some d → 0 < cap → d.spot = none ∧ d.block < w.heap.size ∧ Cells w d.block d.off (xs.flatMap c.enc)

theorem flat_len {α : Type} (c : Cod α) (xs : List α) : (xs.flatMap c.enc).length = xs.length * c.k := by
  induction xs with
  | nil => simp
  | cons x xs ih => simp [List.flatMap_cons, ih, c.len, Nat.add_mul]; omega

theorem flat_get {α : Type} (c : Cod α) : ∀ (xs : List α) (i j : Nat), j < c.k → (xs.flatMap c.enc)[i * c.k + j]? = (xs[i]?).bind fun x => (c.enc x)[j]?
  | [], i, j, _ => by simp
  | x :: xs, 0, j, hj => by simp [List.flatMap_cons, List.getElem?_append, c.len, hj]
  | x :: xs, i + 1, j, hj => by
    have := flat_get c xs i j hj
    rw [List.flatMap_cons, List.getElem?_append_right (by rw [c.len, Nat.add_mul]; omega), c.len, show (i + 1) * c.k + j - c.k = i * c.k + j by rw [Nat.add_mul]; omega]
    simpa using this

section
variable {α : Type} {c : Cod α} {w : World} {a : Option Addr} {n cap : Nat} {xs : List α}

theorem Sl.some (h : Sl c w a n cap xs) {i : Nat} (hi : i < n) : ∃ b off, a = some ⟨b, off, none⟩ ∧ b < w.heap.size ∧ ∃ x, xs[i]? = some x ∧ ∀ j u, (c.enc x)[j]? = some u → w.cell? ⟨b, off + i * c.k + j, none⟩ = some u := by
  cases ha : a with
  | none => have := (h.hnil ha).1; omega
  | some d =>
    obtain ⟨h1, h2, h3⟩ := h.hat d ha (Nat.lt_of_lt_of_le (Nat.lt_of_le_of_lt (Nat.zero_le _) hi) h.hcap)
    obtain ⟨b, off, s⟩ := d
    simp at h1; subst h1
    have hl := h.hlen
    refine ⟨b, off, rfl, h2, xs[i], by simp, ?_⟩
    intro j u hu
    have hj : j < c.k := by rw [← c.len xs[i]]; exact (List.getElem?_eq_some_iff.1 hu).1
    have := h3 (i * c.k + j) u (by rw [flat_get c xs i j hj]; simpa [List.getElem?_eq_getElem (show i < xs.length by omega)] using hu)
    simpa [Nat.add_assoc] using this

theorem Sl.below {w' : World} (h : Sl c w a n cap xs) (hb : Below w.heap.size w w') : Sl c w' a n cap xs :=
  ⟨h.hlen, h.hcap, h.hmax, h.hnil, fun d hd hc => by
    obtain ⟨h1, h2, h3⟩ := h.hat d hd hc
    exact ⟨h1, Nat.lt_of_lt_of_le h2 hb.size, fun j u hu => by rw [hb.cell (p := ⟨d.block, d.off + j, none⟩) h2]; exact h3 j u hu⟩⟩

end

theorem ret_int {k : IntKind} {a b : Int} (h : a = b) : Ending.returned (.int k a) = .returned (.int k b) := by rw [h]
theorem ret_bool {a b : Bool} (h : a = b) : Ending.returned (.bool a) = .returned (.bool b) := by rw [h]
theorem drop_at {α : Type} {l : List α} {k : Nat} {r : α} (h : l[k]? = some r) : l.drop k = r :: l.drop (k + 1) := by
  obtain ⟨h1, h2⟩ := List.getElem?_eq_some_iff.1 h
  rw [List.drop_eq_getElem_cons h1, h2]
theorem take_at {α : Type} {l : List α} {k : Nat} {r : α} (h : l[k]? = some r) : l.take (k + 1) = l.take k ++ [r] := by
  obtain ⟨h1, h2⟩ := List.getElem?_eq_some_iff.1 h
  rw [List.take_succ_eq_append_getElem h1, h2]

/-! ### What a call made itself -/
/-- The slice type t has elements of type e, which lie as c says, in so many bytes. -/
structure Elt {α : Type} (P : Program) (t e : TypeId) (c : Cod α) (bytes : Nat) : Prop where
  ht : P.underlying t = some (.slice e)
  row : ∃ i z, P.info? e = some i ∧ i.zero = some z ∧ i.size = c.k ∧ i.bytes = bytes ∧ z.cells.size = c.k
  pos : 0 < c.k

theorem Elt.of {α : Type} {P : Program} {t e : TypeId} {c : Cod α} {bytes : Nat} {z : Value} (ht : P.underlying t = some (.slice e)) (hr : (P.info? e).map (fun i => (i.zero, i.size, i.bytes)) = some (some z, c.k, bytes)) (hz : z.cells.size = c.k) (hp : 0 < c.k) : Elt P t e c bytes := by
  obtain ⟨i, h1, h2, h3, h4⟩ := info_parts hr
  exact ⟨ht, ⟨i, z, h1, h2, h3, h4, hz⟩, hp⟩

/-- It reads as xs, and nobody else has it; its block is base or later. -/
def Own {α : Type} (e : TypeId) (c : Cod α) (base : Nat) (w : World) (v : Value) (xs : List α) : Prop := w.ownsRow base e c.k v xs.length (xs.flatMap c.enc)

theorem add_addr (b off j : Nat) : (⟨b, off, none⟩ : Addr).add j = ⟨b, off + j, none⟩ := by
  unfold Addr.add; split <;> simp_all

section
variable {α : Type} {e : TypeId} {c : Cod α} {base : Nat} {w : World} {v : Value} {xs : List α}

theorem Own.nil : Own e c base w (.slice none 0 0) ([] : List α) := World.ownsRow_nil _ _ _ _
theorem Own.lower (h : Own e c base w v xs) {base' : Nat} (hb : base' ≤ base) : Own e c base' w v xs := by
  obtain ⟨h1, h2⟩ := h
  refine ⟨h1, ?_⟩
  rcases h2 with h2 | ⟨g, cap, cur, h2, h3, h4⟩
  · exact .inl h2
  · exact .inr ⟨g, cap, cur, h2, by omega, h4⟩
theorem Own.kept (h : Own e c base w v xs) {w' : World} {row : Option Nat} (hg : w.grownBy w' row) (hne : v.ownBlock = none ∨ v.ownBlock ≠ row) : Own e c base w' v xs := World.ownsRow.kept h hg hne
theorem Own.below (h : Own e c base w v xs) {w' : World} (hb : Below w.heap.size w w') : Own e c base w' v xs := by
  obtain ⟨h1, h2⟩ := h
  refine ⟨h1, ?_⟩
  rcases h2 with h2 | ⟨g, cap, cur, h2, h3, h4, h5⟩
  · exact .inl h2
  · exact .inr ⟨g, cap, cur, h2, h3, by rw [hb.block g (Array.getElem?_eq_some_iff.1 h4).1]; exact h4, h5⟩
theorem Own.slice (h : Own e c base w v xs) : ∃ a cap, v = .slice a xs.length cap ∧ Sl c w a xs.length cap xs ∧ (∀ d, a = Option.some d → ∃ g cur, d = ⟨g, 0, none⟩ ∧ base ≤ g ∧ w.heap[g]? = Option.some (.cells cur e (0, 0))) := by
  obtain ⟨h1, h2⟩ := id h
  rcases h2 with ⟨rfl, hn⟩ | ⟨g, cap, cur, rfl, hb, hg, hn, hm, hs, ht⟩
  · have : xs = [] := List.eq_nil_of_length_eq_zero hn
    subst this
    exact ⟨none, 0, rfl, ⟨rfl, Nat.le_refl _, by unfold maxLen; omega, (fun _ => ⟨rfl, rfl⟩), (fun d hd => nomatch hd)⟩, (fun d hd => nomatch hd)⟩
  · refine ⟨Option.some ⟨g, 0, none⟩, cap, rfl, ⟨rfl, hn, hm, (fun hd => nomatch hd), (fun d hd _ => ?_)⟩, (fun d hd => ?_)⟩
    · simp at hd; subst hd
      refine ⟨rfl, (Array.getElem?_eq_some_iff.1 hg).1, fun j u hu => ?_⟩
      have := World.ownsRow.cells h (g := g) rfl j u hu
      rwa [add_addr] at this
    · simp at hd; subst hd
      exact ⟨g, cur, rfl, hb, hg⟩

/-- A slice that lies in a new block by itself. -/
theorem sl_new (w : World) (cs : Array Value) (t : TypeId) (xs : List α) (n : Nat) (hn : n = xs.length) (hm : n ≤ maxLen) (hc : cs.toList = xs.flatMap c.enc) :
    Sl c (w.alloc (.cells cs t)) (Option.some ⟨w.heap.size, 0, none⟩) n n xs :=
  ⟨hn, Nat.le_refl _, hm, (fun h => nomatch h), fun d hd _ => by
    simp at hd; subst hd
    refine ⟨rfl, by simp, fun j u hu => ?_⟩
    rw [← hc] at hu
    rw [Nat.zero_add, World.cell?_alloc_new]
    simpa using hu⟩

theorem Sl.at0 {a : Option Addr} {n cap : Nat} (h : Sl c w a n cap xs) {w' : World} (hw : ∀ a v, w.cell? a = Option.some v → w'.cell? a = Option.some v) (hs : w.heap.size ≤ w'.heap.size) : Sl c w' a n cap xs :=
  ⟨h.hlen, h.hcap, h.hmax, h.hnil, fun d hd hc => by
    obtain ⟨h1, h2, h3⟩ := h.hat d hd hc
    exact ⟨h1, Nat.lt_of_lt_of_le h2 hs, fun j u hu => hw _ _ (h3 j u hu)⟩⟩

/-- Its cells, read off its address. -/
theorem Sl.src {d : Addr} {n cap : Nat} (h : Sl c w (Option.some d) n cap xs) : ∀ j u, (xs.flatMap c.enc)[j]? = Option.some u → w.cell? (d.add j) = Option.some u := by
  intro j u hu
  by_cases hc : 0 < cap
  · obtain ⟨g1, -, g3⟩ := h.hat d rfl hc
    obtain ⟨b, off, sp⟩ := d
    have g1 : sp = none := g1
    subst g1
    rw [add_addr]; exact g3 j u hu
  · have e : xs = [] := List.eq_nil_of_length_eq_zero (by rw [← h.hlen]; have := h.hcap; omega)
    subst e
    simp at hu

/-- What was read of a slice, of a piece of it. -/
theorem Sl.piece {a : Option Addr} {n cap : Nat} (h : Sl c w a n cap xs) {lo hi : Nat} (h1 : lo ≤ hi) (h2 : hi ≤ n) (hc : 0 < cap) :
    (a = none ∧ Sl c w none (hi - lo) (cap - lo) ((xs.take hi).drop lo)) ∨ ∃ b off, a = Option.some ⟨b, off, none⟩ ∧ Sl c w (Option.some ⟨b, off + lo * c.k, none⟩) (hi - lo) (cap - lo) ((xs.take hi).drop lo) := by
  have hl := h.hlen
  have hlen : hi - lo = ((xs.take hi).drop lo).length := by simp; omega
  cases a with
  | none =>
    obtain ⟨rfl, rfl⟩ := h.hnil rfl
    exact .inl ⟨rfl, hlen, by omega, by omega, fun _ => by omega, fun d hd => nomatch hd⟩
  | some d =>
    obtain ⟨g1, g2, g3⟩ := h.hat d rfl hc
    obtain ⟨b, off, sp⟩ := d
    simp at g1; subst g1
    refine .inr ⟨b, off, rfl, hlen, by have := h.hcap; omega, by have := h.hmax; omega, (fun hd => nomatch hd), fun d hd _ => ?_⟩
    simp at hd; subst hd
    refine ⟨rfl, g2, fun j u hu => ?_⟩
    have hj : j < (hi - lo) * c.k := by have := (List.getElem?_eq_some_iff.1 hu).1; rw [flat_len, ← hlen] at this; exact this
    have hk : 0 < c.k := by rcases Nat.eq_zero_or_pos c.k with e | e; rw [e] at hj; omega; exact e
    have e1 : (((xs.take hi).drop lo).flatMap c.enc)[j]? = (xs.flatMap c.enc)[lo * c.k + j]? := by
      have f1 := flat_get c ((xs.take hi).drop lo) (j / c.k) (j % c.k) (Nat.mod_lt _ hk)
      have f2 := flat_get c xs (lo + j / c.k) (j % c.k) (Nat.mod_lt _ hk)
      have f3 : j / c.k * c.k + j % c.k = j := by rw [Nat.mul_comm]; exact Nat.div_add_mod j c.k
      rw [f3] at f1
      rw [show (lo + j / c.k) * c.k + j % c.k = lo * c.k + j by rw [Nat.add_mul]; omega] at f2
      rw [f1, f2]
      have hjd : j / c.k < hi - lo := by rw [Nat.div_lt_iff_lt_mul hk]; exact hj
      rw [List.getElem?_drop, List.getElem?_take_of_lt (by omega)]
    rw [e1] at hu
    have := g3 _ u hu
    show w.cell? ⟨b, off + lo * c.k + j, none⟩ = _
    rw [Nat.add_assoc]; exact this

theorem Sl.upto {a : Option Addr} {n cap : Nat} (h : Sl c w a n cap xs) {j : Nat} (hj : j ≤ n) : Sl c w a j cap (xs.take j) := by
  have hl := h.hlen
  refine ⟨by simp; omega, by have := h.hcap; omega, h.hmax, fun ha => ⟨by have := (h.hnil ha).1; omega, (h.hnil ha).2⟩, fun d hd hc => ?_⟩
  obtain ⟨h1, h2, h3⟩ := h.hat d hd hc
  refine ⟨h1, h2, fun i u hu => h3 i u ?_⟩
  have e : xs.flatMap c.enc = (xs.take j).flatMap c.enc ++ (xs.drop j).flatMap c.enc := by rw [← List.flatMap_append, List.take_append_drop]
  rw [e, List.getElem?_append_left (List.getElem?_eq_some_iff.1 hu).1]; exact hu
theorem Sl.from {b off n cap : Nat} (h : Sl c w (Option.some ⟨b, off, none⟩) n cap xs) {j : Nat} (hj : j ≤ n) (hc : 0 < cap) : Sl c w (Option.some ⟨b, off + j * c.k, none⟩) (n - j) (cap - j) (xs.drop j) := by
  rcases h.piece hj (Nat.le_refl n) hc with ⟨e, _⟩ | ⟨b', off', e, h2⟩
  · cases e
  · cases e
    rwa [List.take_of_length_le (by rw [h.hlen]; omega)] at h2

theorem Own.alloc (h : Own e c base w v xs) (o : Obj) : Own e c base (w.alloc o) v xs := World.ownsRow.alloc h o

/-- 'append(s, x...)', s the call's own, x whatever slice. -/
theorem wpList_app {P : Program} {t : TypeId} {bytes : Nat} (E : Elt P t e c bytes) {ops : Array Oper} {rest : List Oper} {o : Oper} {a : Act} {Q : Exit → Act → World → Prop} (hgd : o.guard = none) (s x : Operand)
    (ho : o.op = .call { callee := .builtin .append, args := #[s, x], argTypes := #[t, t] }) (v : Value) (xs : List α) (hs : a.eval s = v) (hown : Own e c base w v xs)
    (ax : Option Addr) (m cx : Nat) (ys : List α) (hx : a.eval x = .slice ax m cx) (hsl : Sl c w ax m cx ys) (hm : xs.length + m ≤ maxLen) (hb : (xs.length + m) * bytes ≤ 140737488355328) (hbase : base ≤ w.heap.size)
    (h : ∀ v' w', Own e c base w' v' (xs ++ ys) → w.grownBy w' v.ownBlock → wpList P ops Q rest (a.put o.dst v') w') : wpList P ops Q (o :: rest) a w := by
  obtain ⟨i, z, h1, h2, h3, h4, h5⟩ := E.row
  cases ax with
  | none =>
    obtain ⟨rfl, rfl⟩ := hsl.hnil rfl
    have hy : ys = [] := List.eq_nil_of_length_eq_zero hsl.hlen.symm
    subst hy
    refine wpList_append_own_none hgd s x t ho base e i c.k E.ht h1 v xs.length _ hs hown hx (h v w (by rw [List.append_nil]; exact hown) ⟨rfl, rfl, rfl, Nat.le_refl _, fun _ _ _ => rfl⟩)
  | some d =>
    refine wpList_append_own _ hgd s x t ho base e i z c.k bytes E.ht h1 h2 h3 h4 h5 E.pos v xs.length _ hs hown d m cx (ys.flatMap c.enc) hx (by rw [flat_len, hsl.hlen]) ?_ ?_ hm hb hbase ?_
    · exact hsl.src
    · exact fun u hu => by obtain ⟨y, -, hy⟩ := List.mem_flatMap.1 hu; exact c.one y u hy
    · intro v' w' k1 k2 k3
      refine h v' w' ?_ k2
      unfold Own
      rw [List.length_append, List.flatMap_append, ← hsl.hlen]; exact k1
end
end Go.V

namespace Go.V
open Go.RowKit

structure Hdr where
  a : Option Addr
  n : Nat
  cap : Nat
deriving Inhabited
def Hdr.enc (h : Hdr) : List Value := [.slice h.a h.n h.cap]
def Hdr.cod : Cod Hdr := ⟨1, Hdr.enc, fun _ => rfl, by simp [Hdr.enc, Value.oneCell']⟩
abbrev Hdr.val (h : Hdr) : Value := .slice h.a h.n h.cap

/-- The slice (a, n, cap) of slices reads as xss. -/
structure Sls {α : Type} (c : Cod α) (w : World) (a : Option Addr) (n cap : Nat) (hs : List Hdr) (xss : List (List α)) : Prop where
  hd : Sl Hdr.cod w a n cap hs
  len : hs.length = xss.length
  each : ∀ (i : Nat) (h : Hdr) (xs : List α), hs[i]? = some h → xss[i]? = some xs → Sl c w h.a h.n h.cap xs

section
variable {α : Type} {c : Cod α} {w : World} {a : Option Addr} {n cap : Nat} {hs : List Hdr} {xss : List (List α)}
theorem Sls.below {w' : World} (h : Sls c w a n cap hs xss) (hb : Below w.heap.size w w') : Sls c w' a n cap hs xss :=
  ⟨h.hd.below hb, h.len, fun i hh xs h1 h2 => (h.each i hh xs h1 h2).below hb⟩
theorem Sls.n_eq (h : Sls c w a n cap hs xss) : n = xss.length := by rw [h.hd.hlen, h.len]
theorem Sls.at {i : Nat} (h : Sls c w a n cap hs xss) (hi : i < n) : ∃ b off g xs, a = some ⟨b, off, none⟩ ∧ b < w.heap.size ∧ hs[i]? = some g ∧ xss[i]? = some xs ∧ w.cell? ⟨b, off + i, none⟩ = some (.slice g.a g.n g.cap) ∧ Sl c w g.a g.n g.cap xs := by
  obtain ⟨b, off, e, hb, g, hg, hc⟩ := h.hd.some hi
  have hx : i < xss.length := by rw [← h.n_eq]; exact hi
  refine ⟨b, off, g, xss[i], e, hb, hg, List.getElem?_eq_getElem hx, ?_, h.each i g _ hg (List.getElem?_eq_getElem hx)⟩
  have := hc 0 _ rfl
  simpa [Hdr.cod] using this
end
end Go.V

namespace Go.V
open Go.RowKit

def Hdr.blk (h : Hdr) : Nat := match h.a with
  | some d => d.block
  | none => 0

theorem own_ne {α : Type} {e : TypeId} {c : Cod α} {base : Nat} {w : World} {v : Value} {xs : List α} (h : Own e c base w v xs) (hx : xs ≠ []) : ∃ g cap cur, v = .slice (some ⟨g, 0, none⟩) xs.length cap ∧ base ≤ g ∧ w.heap[g]? = some (.cells cur e (0, 0)) := by
  obtain ⟨h1, h2⟩ := h
  rcases h2 with ⟨_, hn⟩ | ⟨g, cap, cur, h2, h3, h4, _⟩
  · exact absurd (List.eq_nil_of_length_eq_zero hn) hx
  · exact ⟨g, cap, cur, h2, h3, h4⟩
theorem own_blk {α : Type} {e : TypeId} {c : Cod α} {base : Nat} {w : World} {h : Hdr} {xs : List α} (ho : Own e c base w h.val xs) (hx : xs ≠ []) : h.val.ownBlock = some h.blk ∧ h.blk < w.heap.size ∧ base ≤ h.blk ∧ ∃ cur, w.heap[h.blk]? = some (.cells cur e (0, 0)) := by
  obtain ⟨g, cap, cur, h1, h2, h3⟩ := own_ne ho hx
  obtain ⟨a, n, cp⟩ := h
  simp only [Hdr.val, Value.slice.injEq] at h1
  obtain ⟨rfl, -, -⟩ := h1
  exact ⟨rfl, (Array.getElem?_eq_some_iff.1 h3).1, h2, cur, h3⟩
/-- Rows of different element types are different rows. -/
theorem own_apart {α β : Type} {e e' : TypeId} {c : Cod α} {c' : Cod β} {base base' : Nat} {w : World} {v v' : Value} {xs : List α} {ys : List β} (hne : e ≠ e') (h : Own e c base w v xs) (h' : Own e' c' base' w v' ys) : v.ownBlock = none ∨ v.ownBlock ≠ v'.ownBlock := by
  obtain ⟨_, h2⟩ := h
  obtain ⟨_, h2'⟩ := h'
  rcases h2 with ⟨rfl, _⟩ | ⟨g, cap, cur, rfl, _, h4, _⟩
  · exact .inl rfl
  · rcases h2' with ⟨rfl, _⟩ | ⟨g', cap', cur', rfl, _, h4', _⟩
    · exact .inr (by simp [Value.ownBlock])
    · refine .inr (fun hh => ?_)
      simp [Value.ownBlock] at hh
      subst hh
      rw [h4] at h4'
      simp at h4'
      exact hne h4'.2

structure OwnG {α : Type} (e1 e2 : TypeId) (c : Cod α) (base : Nat) (w : World) (v : Value) (hs : List Hdr) (gs : List (List α)) : Prop where
  own : Own e2 Hdr.cod base w v hs
  len : hs.length = gs.length
  each : ∀ (i : Nat) (h : Hdr) (g : List α), hs[i]? = some h → gs[i]? = some g → Own e1 c base w h.val g ∧ g ≠ []
  inc : ∀ (i j : Nat) (h h' : Hdr), i < j → hs[i]? = some h → hs[j]? = some h' → h.blk < h'.blk

section
variable {α : Type} {e1 e2 : TypeId} {c : Cod α} {base : Nat} {w : World} {v : Value} {hs : List Hdr} {gs : List (List α)}
theorem OwnG.nil : OwnG e1 e2 c base w (.slice none 0 0) [] [] :=
  ⟨Own.nil, rfl, (fun i h g h1 => by simp at h1), (fun i j h h' _ h1 => by simp at h1)⟩
theorem OwnG.below (h : OwnG e1 e2 c base w v hs gs) {w' : World} (hb : Below w.heap.size w w') : OwnG e1 e2 c base w' v hs gs :=
  ⟨h.own.below hb, h.len, fun i hh g h1 h2 => ⟨(h.each i hh g h1 h2).1.below hb, (h.each i hh g h1 h2).2⟩, h.inc⟩
theorem OwnG.get (h : OwnG e1 e2 c base w v hs gs) {i : Nat} {hh : Hdr} (hi : hs[i]? = some hh) : ∃ g, gs[i]? = some g ∧ Own e1 c base w hh.val g ∧ g ≠ [] := by
  have : i < gs.length := by rw [← h.len]; exact (List.getElem?_eq_some_iff.1 hi).1
  exact ⟨gs[i], List.getElem?_eq_getElem this, h.each i hh _ hi (List.getElem?_eq_getElem this)⟩
theorem OwnG.lt (h : OwnG e1 e2 c base w v hs gs) : ∀ hh ∈ hs, hh.blk < w.heap.size := by
  intro hh hm
  obtain ⟨i, hi⟩ := List.mem_iff_getElem?.1 hm
  obtain ⟨g, -, ho, hne⟩ := h.get hi
  exact (own_blk ho hne).2.1
theorem OwnG.sls (h : OwnG e1 e2 c base w v hs gs) : ∃ a cap, v = .slice a gs.length cap ∧ Sls c w a gs.length cap hs gs := by
  obtain ⟨a, cap, h1, h2, -⟩ := h.own.slice
  rw [h.len] at h1 h2
  refine ⟨a, cap, h1, h2, h.len, fun i hh g g1 g2 => ?_⟩
  obtain ⟨a', cap', e', hs', -⟩ := (h.each i hh g g1 g2).1.slice
  obtain ⟨x, y, z⟩ := hh
  simp only [Hdr.val, Value.slice.injEq] at e'
  obtain ⟨rfl, rfl, rfl⟩ := e'
  exact hs'
/-- One more, behind all. -/
theorem OwnG.push (hne : e1 ≠ e2) (h : OwnG e1 e2 c base w v hs gs) {w' : World} {v' : Value} {hh : Hdr} {g : List α} (ho : Own e1 c base w hh.val g) (hg : g ≠ []) (hl : ∀ x ∈ hs, x.blk < hh.blk) (hv : Own e2 Hdr.cod base w' v' (hs ++ [hh])) (hgr : w.grownBy w' v.ownBlock) :
    OwnG e1 e2 c base w' v' (hs ++ [hh]) (gs ++ [g]) := by
  refine ⟨hv, by simp [h.len], fun i x y h1 h2 => ?_, fun i j x x' hij h1 h2 => ?_⟩
  · by_cases hi : i < hs.length
    · rw [List.getElem?_append_left hi] at h1
      rw [List.getElem?_append_left (by rw [← h.len]; exact hi)] at h2
      obtain ⟨k1, k2⟩ := h.each i x y h1 h2
      exact ⟨k1.kept hgr (own_apart hne k1 h.own), k2⟩
    · rw [List.getElem?_append_right (by omega)] at h1
      rw [List.getElem?_append_right (by rw [← h.len]; omega), ← h.len] at h2
      have : i - hs.length = 0 := by have := (List.getElem?_eq_some_iff.1 h1).1; simp at this; omega
      rw [this] at h1 h2
      simp at h1 h2
      subst h1; subst h2
      exact ⟨ho.kept hgr (own_apart hne ho h.own), hg⟩
  · by_cases hj : j < hs.length
    · rw [List.getElem?_append_left hj] at h2
      rw [List.getElem?_append_left (by omega)] at h1
      exact h.inc i j x x' hij h1 h2
    · rw [List.getElem?_append_right (by omega)] at h2
      have : j - hs.length = 0 := by have := (List.getElem?_eq_some_iff.1 h2).1; simp at this; omega
      rw [this] at h2
      simp at h2
      subst h2
      rw [List.getElem?_append_left (by omega)] at h1
      exact hl x (List.mem_of_getElem? h1)
theorem OwnG.lower (h : OwnG e1 e2 c base w v hs gs) {base' : Nat} (hb : base' ≤ base) : OwnG e1 e2 c base' w v hs gs :=
  ⟨h.own.lower hb, h.len, fun i hh g h1 h2 => ⟨(h.each i hh g h1 h2).1.lower hb, (h.each i hh g h1 h2).2⟩, h.inc⟩
/-- A row of the inner type that is none of them is written to. -/
theorem OwnG.kept (h : OwnG e1 e2 c base w v hs gs) {w' : World} {row : Option Nat} (hg : w.grownBy w' row) (hv : v.ownBlock = none ∨ v.ownBlock ≠ row) (hr : ∀ x ∈ hs, row ≠ some x.blk) : OwnG e1 e2 c base w' v hs gs :=
  ⟨h.own.kept hg hv, h.len, fun i hh g h1 h2 => by
    obtain ⟨k1, k2⟩ := h.each i hh g h1 h2
    exact ⟨k1.kept hg (.inr (by rw [(own_blk k1 k2).1]; exact (hr hh (List.mem_of_getElem? h1)).symm)), k2⟩, h.inc⟩
end
end Go.V

namespace Go.V
open Go.RowKit

theorem own_new {α : Type} {c : Cod α} (w : World) (cs : Array Value) (e : TypeId) (base : Nat) (xs : List α) (n : Nat) (hn : n = xs.length) (hb : base ≤ w.heap.size) (hm : n ≤ maxLen) (hc : cs.toList = xs.flatMap c.enc) :
    Own e c base (w.alloc (.cells cs e)) (.slice (some ⟨w.heap.size, 0, none⟩) n n) xs := by
  unfold Own
  rw [← hn, ← hc]
  exact World.ownsRow_lit w cs n hb hm (by rw [← Array.length_toList, hc, flat_len, hn])

theorem own_at {α : Type} {e : TypeId} {c : Cod α} {base : Nat} {w : World} {h : Hdr} {xs : List α} (ho : Own e c base w h.val xs) (hx : xs ≠ []) : Own e c h.blk w h.val xs := by
  obtain ⟨g, cap, cur, h1, h2, h3⟩ := own_ne ho hx
  obtain ⟨k1, k2⟩ := ho
  refine ⟨k1, ?_⟩
  rcases k2 with ⟨k2, _⟩ | ⟨g', cap', cur', k2, k3, k4⟩
  · rw [h1] at k2; cases k2
  · refine .inr ⟨g', cap', cur', k2, ?_, k4⟩
    obtain ⟨a, n, cp⟩ := h
    simp only [Hdr.val, Value.slice.injEq] at k2
    obtain ⟨rfl, -, -⟩ := k2
    exact Nat.le_refl _

theorem hdr_flat (hs : List Hdr) : hs.flatMap Hdr.cod.enc = hs.map Hdr.val := by
  induction hs with
  | nil => rfl
  | cons h hs ih => rw [List.flatMap_cons, ih]; rfl

section
variable {α : Type} {e1 e2 : TypeId} {c : Cod α} {base : Nat} {w : World} {v : Value} {hs : List Hdr} {gs : List (List α)}
theorem OwnG.replace (hne : e1 ≠ e2) {go n cap : Nat} (h : OwnG e1 e2 c base w (.slice (some ⟨go, 0, none⟩) n cap) hs gs) {G : Nat} {hh hh' : Hdr} {g' : List α} (hn : n = hs.length) (hi : hs[G]? = some hh) (hlast : hs.length = G + 1) {w2 : World} (hg1 : w.grownBy w2 hh.val.ownBlock) (ho : Own e1 c hh.blk w2 hh'.val g') (hg' : g' ≠ []) :
    OwnG e1 e2 c base (w2.setCell ⟨go, G, none⟩ hh'.val) (.slice (some ⟨go, 0, none⟩) n cap) (hs.set G hh') (gs.set G g') ∧ w2.grownBy (w2.setCell ⟨go, G, none⟩ hh'.val) (some go) := by
  obtain ⟨g, hgi, hown, hgne⟩ := h.get hi
  obtain ⟨b1, b2, b3, -⟩ := own_blk hown hgne
  obtain ⟨d1, d2, d3, -⟩ := own_blk ho hg'
  have hout : Own e2 Hdr.cod base w2 (.slice (some ⟨go, 0, none⟩) n cap) hs := h.own.kept hg1 (own_apart (fun e => hne e.symm) h.own hown)
  have hrow : w2.ownsRow base e2 1 (.slice (some ⟨go, 0, none⟩) n cap) n (hs.map Hdr.val) := by
    have := hout; unfold Own at this; rw [hdr_flat, ← hn] at this; exact this
  obtain ⟨s1, s2⟩ := hrow.stored G hh'.val
  refine ⟨⟨?_, by simp [h.len], fun i x y h1 h2 => ?_, fun i j x x' hij h1 h2 => ?_⟩, s2⟩
  · unfold Own
    rw [hdr_flat, List.map_set, List.length_set, ← hn]; exact s1
  · have hsep : ∀ {bb : Nat} {z : Hdr} {zs : List α}, Own e1 c bb w2 z.val zs → z.val.ownBlock = none ∨ z.val.ownBlock ≠ some go := fun hz => own_apart hne hz hout
    by_cases e : i = G
    · subst e
      rw [List.getElem?_set_self (by omega)] at h1
      rw [List.getElem?_set_self (by rw [← h.len]; omega)] at h2
      cases h1; cases h2
      exact ⟨(ho.lower b3).kept s2 (hsep ho), hg'⟩
    · rw [List.getElem?_set_ne (fun e' => e e'.symm)] at h1 h2
      obtain ⟨k1, k2⟩ := h.each i x y h1 h2
      have hlt : i < G := by have := (List.getElem?_eq_some_iff.1 h1).1; omega
      have k3 : Own e1 c base w2 x.val y := k1.kept hg1 (.inr (by
        rw [(own_blk k1 k2).1, b1]
        have := h.inc i G x hh hlt h1 hi
        intro e'; have := Option.some.inj e'; omega))
      exact ⟨k3.kept s2 (hsep k3), k2⟩
  · have hj : j < hs.length := by have := (List.getElem?_eq_some_iff.1 h2).1; simpa using this
    rw [List.getElem?_set_ne (by omega)] at h1
    by_cases e : j = G
    · subst e
      rw [List.getElem?_set_self hj] at h2
      cases h2
      have := h.inc i j x hh hij h1 hi
      omega
    · rw [List.getElem?_set_ne (fun e' => e e'.symm)] at h2
      exact h.inc i j x x' hij h1 h2
theorem OwnG.cell {go n cap : Nat} (h : OwnG e1 e2 c base w (.slice (some ⟨go, 0, none⟩) n cap) hs gs) (hn : n = hs.length) {G : Nat} {hh : Hdr} (hi : hs[G]? = some hh) : w.cell? ⟨go, G, none⟩ = some hh.val ∧ w.frozen? ⟨go, G, none⟩ = false := by
  have hrow : w.ownsRow base e2 1 (.slice (some ⟨go, 0, none⟩) n cap) n (hs.map Hdr.val) := by
    have := h.own; unfold Own at this; rw [hdr_flat, ← hn] at this; exact this
  refine ⟨?_, hrow.frozenAt G⟩
  rw [hrow.cellAt G (by rw [hn]; have := (List.getElem?_eq_some_iff.1 hi).1; omega), List.getElem?_map, hi]; rfl
theorem own_hdr {e : TypeId} {base : Nat} {w : World} {hs : List Hdr} {go n cap : Nat} (h : Own e Hdr.cod base w (.slice (some ⟨go, 0, none⟩) n cap) hs) (hn : n = hs.length) {G : Nat} {hh : Hdr} (hi : hs[G]? = some hh) : w.cell? ⟨go, G, none⟩ = some hh.val ∧ w.frozen? ⟨go, G, none⟩ = false := by
  have hrow : w.ownsRow base e 1 (.slice (some ⟨go, 0, none⟩) n cap) n (hs.map Hdr.val) := by
    have := h; unfold Own at this; rw [hdr_flat, ← hn] at this; exact this
  refine ⟨?_, hrow.frozenAt G⟩
  rw [hrow.cellAt G (by rw [hn]; have := (List.getElem?_eq_some_iff.1 hi).1; omega), List.getElem?_map, hi]; rfl
end
end Go.V

namespace Go.V
open Go.RowKit

section
variable {α : Type} {e : TypeId} {c : Cod α} {base : Nat} {w : World} {v : Value} {xs : List α}
theorem wpList_app_at {P : Program} {t : TypeId} {bytes : Nat} (E : Elt P t e c bytes) {ops : Array Oper} {rest : List Oper} {o : Oper} {a : Act} {Q : Exit → Act → World → Prop} (hgd : o.guard = none) (s x : Operand)
    (ho : o.op = .call { callee := .builtin .append, args := #[s, x], argTypes := #[t, t] }) (v : Value) (xs : List α) (hs : a.eval s = v) (hown : Own e c base w v xs)
    (ax : Option Addr) (m cx : Nat) (ys : List α) (hx : a.eval x = .slice ax m cx) (hsl : Sl c w ax m cx ys) (hm : xs.length + m ≤ maxLen) (hb : (xs.length + m) * bytes ≤ 140737488355328) (hbase : base ≤ w.heap.size)
    (h : ∀ v' w', Own e c base w' v' (xs ++ ys) → w.grownBy w' v.ownBlock → (v'.ownBlock = v.ownBlock ∨ v'.ownBlock = some w.heap.size) → wpList P ops Q rest (a.put o.dst v') w') : wpList P ops Q (o :: rest) a w := by
  obtain ⟨i, z, h1, h2, h3, h4, h5⟩ := E.row
  cases ax with
  | none =>
    obtain ⟨rfl, rfl⟩ := hsl.hnil rfl
    have hy : ys = [] := List.eq_nil_of_length_eq_zero hsl.hlen.symm
    subst hy
    refine wpList_append_own_none hgd s x t ho base e i c.k E.ht h1 v xs.length _ hs hown hx (h v w (by rw [List.append_nil]; exact hown) ⟨rfl, rfl, rfl, Nat.le_refl _, fun _ _ _ => rfl⟩ (.inl rfl))
  | some d =>
    refine wpList_append_own_at _ hgd s x t ho base e i z c.k bytes E.ht h1 h2 h3 h4 h5 E.pos v xs.length _ hs hown d m cx (ys.flatMap c.enc) hx (by rw [flat_len, hsl.hlen]) ?_ ?_ hm hb hbase ?_
    · exact hsl.src
    · exact fun u hu => by obtain ⟨y, -, hy⟩ := List.mem_flatMap.1 hu; exact c.one y u hy
    · intro v' w' k1 k2 _ k3
      refine h v' w' ?_ k2 k3
      unfold Own
      rw [List.length_append, List.flatMap_append, ← hsl.hlen]; exact k1

/-- Two rows that lie apart. -/
def Apart (v u : Value) : Prop := v.ownBlock = none ∨ v.ownBlock ≠ u.ownBlock
theorem Apart.next {β : Type} {e' : TypeId} {c' : Cod β} {base' : Nat} {ys : List β} {v v' u : Value} {w : World} (h : Apart v u) (hat : v'.ownBlock = v.ownBlock ∨ v'.ownBlock = some w.heap.size) (hu : Own e' c' base' w u ys) : Apart v' u := by
  rcases hat with k | k
  · unfold Apart; rw [k]; exact h
  · refine .inr fun hh => ?_
    rw [k] at hh
    have := (World.ownsRow.lt hu _ hh.symm).2
    omega
theorem Apart.symm {v u : Value} (h : Apart v u) : Apart u v := by
  rcases h with h | h
  · cases hu : u.ownBlock with
    | none => exact .inl hu
    | some g => exact .inr (by rw [hu, h]; simp)
  · exact .inr fun hh => h hh.symm
theorem Apart.nil {u : Value} : Apart (.slice none 0 0) u := .inl rfl
end
end Go.V

namespace Go.Proofs.YtlfbbahihenilaaGreat.Ne
open Go.RowKit Go.V Go.Proofs

theorem box_alloc {w : World} {g : Nat} {o ob : Obj} (h : w.heap[g]? = some ob) : (w.alloc o).heap[g]? = some ob := by
  have hg := (Array.getElem?_eq_some_iff.1 h).1
  unfold World.alloc
  simp only []
  rw [Array.getElem?_push_lt hg]; exact (Array.getElem?_eq_some_iff.1 h).2 ▸ rfl
theorem box_new (w : World) (o : Obj) : (w.alloc o).heap[w.heap.size]? = some o := by
  unfold World.alloc
  simp
theorem box_cell {w : World} {g : Nat} {e : TypeId} {cs : Array Value} (h : w.heap[g]? = some (.cells cs e (0, 0))) (j : Nat) : w.cell? ⟨g, j, none⟩ = cs[j]? ∧ w.frozen? ⟨g, j, none⟩ = false := by
  constructor
  · simp [World.cell?, h]
  · simp [World.frozen?, h]
theorem box_below {w w' : World} {g : Nat} {ob : Obj} (h : w.heap[g]? = some ob) (hb : Below w.heap.size w w') : w'.heap[g]? = some ob := (hb.block g (Array.getElem?_eq_some_iff.1 h).1).trans h
theorem box_lt {w : World} {g : Nat} {ob : Obj} (h : w.heap[g]? = some ob) : g < w.heap.size := (Array.getElem?_eq_some_iff.1 h).1
theorem box2_cells {w : World} {g : Nat} {e : TypeId} {u0 u1 : Value} (h : w.heap[g]? = some (.cells #[u0, u1] e (0, 0))) : w.cell? ⟨g, 0, none⟩ = some u0 ∧ w.cell? ⟨g, 1, none⟩ = some u1 ∧ w.frozen? ⟨g, 0, none⟩ = false ∧ w.frozen? ⟨g, 1, none⟩ = false :=
  ⟨(box_cell h 0).1, (box_cell h 1).1, (box_cell h 0).2, (box_cell h 1).2⟩
theorem box3_cells {w : World} {g : Nat} {e : TypeId} {u0 u1 u2 : Value} (h : w.heap[g]? = some (.cells #[u0, u1, u2] e (0, 0))) : w.cell? ⟨g, 0, none⟩ = some u0 ∧ w.cell? ⟨g, 1, none⟩ = some u1 ∧ w.cell? ⟨g, 2, none⟩ = some u2 ∧ w.frozen? ⟨g, 0, none⟩ = false ∧ w.frozen? ⟨g, 1, none⟩ = false ∧ w.frozen? ⟨g, 2, none⟩ = false :=
  ⟨(box_cell h 0).1, (box_cell h 1).1, (box_cell h 2).1, (box_cell h 0).2, (box_cell h 1).2, (box_cell h 2).2⟩
theorem bcell {W w1 : World} (hb : Below W.heap.size W w1) : (∀ b o, b < W.heap.size → w1.cell? ⟨b, o, none⟩ = W.cell? ⟨b, o, none⟩) ∧ (∀ b o, b < W.heap.size → w1.frozen? ⟨b, o, none⟩ = W.frozen? ⟨b, o, none⟩) :=
  ⟨fun b o h => hb.cell (p := ⟨b, o, none⟩) h, fun b o h => hb.frozen (p := ⟨b, o, none⟩) h⟩
theorem below_drewN {B : Nat} {a w : World} (h : Below B a w) (n : Nat) : Below B a (w.drewN n) := ⟨h.os, h.tape, h.output, h.size, h.block⟩

def icod : Cod Int := ⟨1, fun x => [.int .i64 x], fun _ => rfl, by simp [Value.oneCell']⟩
def Iok (x : Int) : Prop := (Lit.int .i64 x).wf = true

theorem int_at {w : World} {a : Option Addr} {n cap : Nat} {l : List Int} (h : Sl icod w a n cap l) {i : Nat} (hi : i < n) :
   ∃ b off r, a = some ⟨b, off, none⟩ ∧ b < w.heap.size ∧ l[i]? = some r ∧ w.cell? ⟨b, off + i, none⟩ = some (.int .i64 r) := by
  obtain ⟨b, off, rfl, hb, r, hr, hc⟩ := h.some hi
  refine ⟨b, off, r, rfl, hb, hr, ?_⟩
  have := hc 0 _ rfl
  simpa [icod] using this

end Go.Proofs.YtlfbbahihenilaaGreat.Ne

namespace Go.Proofs.YtlfbbahihenilaaGreat.Ne
open Go.RowKit Go.V Go.Proofs

structure Stp where
  x : Int
  y : Int
deriving DecidableEq, Inhabited
def Stp.enc (r : Stp) : List Value := [.int .i64 r.x, .int .i64 r.y]
def Stp.cod : Cod Stp := ⟨2, Stp.enc, fun _ => rfl, by simp [Stp.enc, Value.oneCell']⟩
abbrev Stp.val (r : Stp) : Value := .agg #[.int .i64 r.x, .int .i64 r.y]
def Stp.ok (r : Stp) : Prop := (Lit.int .i64 r.x).wf = true ∧ (Lit.int .i64 r.y).wf = true
theorem stp_at {w : World} {a : Option Addr} {n cap : Nat} {l : List Stp} (h : Sl Stp.cod w a n cap l) {i : Nat} (hi : i < n) :
   ∃ b off r, a = some ⟨b, off, none⟩ ∧ b < w.heap.size ∧ l[i]? = some r ∧ w.cell? ⟨b, off + i * 2, none⟩ = some (.int .i64 r.x) ∧ w.cell? ⟨b, off + i * 2 + 1, none⟩ = some (.int .i64 r.y) := by
  obtain ⟨b, off, rfl, hb, r, hr, hc⟩ := h.some hi
  exact ⟨b, off, r, rfl, hb, hr, hc 0 _ rfl, hc 1 _ rfl⟩
def stpB (s : Stp) : Bool := decide (0 ≤ s.x ∧ s.x < 67108864 ∧ 0 ≤ s.y ∧ s.y < 67108864)
def mayB (x y : Int) : Bool := decide (0 ≤ x ∧ x < 67108864 ∧ 0 ≤ y ∧ y < 67108864)

set_option maxHeartbeats 400000 in
theorem may_any (x y : Int) (w : World) :
    Calls Tryz.prog 71 #[.int .i64 x, .int .i64 y] w fun e w' => e = .returned (.bool (mayB x y)) ∧ w = w' := by
  by_cases h1 : 0 ≤ x
  · by_cases h2 : x < 67108864
    · by_cases h3 : 0 ≤ y
      all_goals
        go_enter Tryz.func71, Tryz.ntmps71
        go_wp2
        go_ret
        exact ⟨ret_bool (by unfold mayB; rw [Bool.eq_iff_iff]; simp [*] <;> omega), rfl⟩
    · go_enter Tryz.func71, Tryz.ntmps71
      go_wp2
      go_ret
      exact ⟨ret_bool (by unfold mayB; rw [Bool.eq_iff_iff]; simp [*] <;> omega), rfl⟩
  · go_enter Tryz.func71, Tryz.ntmps71
    go_wp2
    go_ret
    exact ⟨ret_bool (by unfold mayB; rw [Bool.eq_iff_iff]; simp <;> omega), rfl⟩
set_option maxHeartbeats 400000 in
theorem rmay_any (x y : Int) (w : World) :
    Calls Tryz.prog 58 #[.int .i64 x, .int .i64 y] w fun e w' => e = .returned (.bool (mayB x y)) ∧ w = w' := by
  by_cases h1 : 0 ≤ x
  · by_cases h2 : x < 67108864
    · by_cases h3 : 0 ≤ y
      all_goals
        go_enter Tryz.func58, Tryz.ntmps58
        go_wp2
        go_ret
        exact ⟨ret_bool (by unfold mayB; rw [Bool.eq_iff_iff]; simp [*] <;> omega), rfl⟩
    · go_enter Tryz.func58, Tryz.ntmps58
      go_wp2
      go_ret
      exact ⟨ret_bool (by unfold mayB; rw [Bool.eq_iff_iff]; simp [*] <;> omega), rfl⟩
  · go_enter Tryz.func58, Tryz.ntmps58
    go_wp2
    go_ret
    exact ⟨ret_bool (by unfold mayB; rw [Bool.eq_iff_iff]; simp <;> omega), rfl⟩
end Go.Proofs.YtlfbbahihenilaaGreat.Ne
