/- An append, and where the new row lies: several rows of the call's own, side by side. -/
import Derived.Test.YtknbpnkonhniiaaBase4
import Derived.Maps.AppendAt
namespace Go.V
open Go.RowKit

section
variable {α : Type} {e : TypeId} {c : Cod α} {base : Nat} {w : World} {v : Value} {xs : List α}
theorem wpList_app_at {P : Program} {t : TypeId} {bytes : Nat} (E : Elt P t e c bytes) {ops : Array Oper} {rest : List Oper} {o : Oper} {a : Act} {Q : Exit → Act → World → Prop} (hgd : o.guard = none) (s x : Operand)
    (ho : o.op = .call { callee := .builtin .append, args := #[s, x], argTypes := #[t, t] }) (v : Value) (xs : List α) (hs : a.eval s = v) (hown : Own e c base w v xs)
    (ax : Option Addr) (m cx : Nat) (ys : List α) (hx : a.eval x = .slice ax m cx) (hsl : Sl c w ax m cx ys) (hm : xs.length + m ≤ maxLen) (hb : (xs.length + m) * bytes ≤ 140737488355328) (hbase : base ≤ w.heap.size)
    (h : ∀ v' w', Own e c base w' v' (xs ++ ys) → w.grownBy w' v.ownBlock → (v'.ownBlock = v.ownBlock ∨ v'.ownBlock = some w.heap.size) → wpList P ops Q rest (a.put o.dst v') w') : wpList P ops Q (o :: rest) a w := by
  obtain ⟨i, z, h1, h2, h3, h4, h5⟩ := E.row
  cases ax with
  | none =>
    obtain ⟨rfl, rfl⟩ := hsl.hnil rfl
    have hy : ys = [] := List.eq_nil_of_length_eq_zero hsl.hlen.symm
    subst hy
    refine wpList_append_own_none hgd s x t ho base e i c.k E.ht h1 v xs.length _ hs hown hx (h v w (by rw [List.append_nil]; exact hown) ⟨rfl, rfl, rfl, Nat.le_refl _, fun _ _ _ => rfl⟩ (.inl rfl))
  | some d =>
    refine wpList_append_own_at _ hgd s x t ho base e i z c.k bytes E.ht h1 h2 h3 h4 h5 E.pos v xs.length _ hs hown d m cx (ys.flatMap c.enc) hx (by rw [flat_len, hsl.hlen]) ?_ ?_ hm hb hbase ?_
    · exact hsl.src
    · exact fun u hu => by obtain ⟨y, -, hy⟩ := List.mem_flatMap.1 hu; exact c.one y u hy
    · intro v' w' k1 k2 _ k3
      refine h v' w' ?_ k2 k3
      unfold Own
      rw [List.length_append, List.flatMap_append, ← hsl.hlen]; exact k1

/-- Two rows that lie apart. -/
def Apart (v u : Value) : Prop := v.ownBlock = none ∨ v.ownBlock ≠ u.ownBlock
theorem Apart.next {β : Type} {e' : TypeId} {c' : Cod β} {base' : Nat} {ys : List β} {v v' u : Value} {w : World} (h : Apart v u) (hat : v'.ownBlock = v.ownBlock ∨ v'.ownBlock = some w.heap.size) (hu : Own e' c' base' w u ys) : Apart v' u := by
  rcases hat with k | k
  · unfold Apart; rw [k]; exact h
  · refine .inr fun hh => ?_
    rw [k] at hh
    have := (World.ownsRow.lt hu _ hh.symm).2
    omega
theorem Apart.symm {v u : Value} (h : Apart v u) : Apart u v := by
  rcases h with h | h
  · cases hu : u.ownBlock with
    | none => exact .inl hu
    | some g => exact .inr (by rw [hu, h]; simp)
  · exact .inr fun hh => h hh.symm
theorem Apart.nil {u : Value} : Apart (.slice none 0 0) u := .inl rfl
end
end Go.V
