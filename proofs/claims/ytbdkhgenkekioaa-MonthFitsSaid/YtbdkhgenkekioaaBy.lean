/- Blocks that hold one thing, put anew; results. -/
import Derived.Test.YtbdkhgenkekioaaBx
namespace Go.Proofs.Ytbdkhgenkekioaa.Wi
open Go.RowKit Go.V Go.Proofs
open Go.Proofs.Ytbdkhgenkekioaa.Ne (box_alloc box_new box_cell box_below box_lt box2_cells box3_cells)

theorem box3_set {w : World} {g : Nat} {e : TypeId} {u0 u1 u2 : Value} (h : w.heap[g]? = some (.cells #[u0, u1, u2] e (0, 0))) (v0 v1 v2 : Value) : (((w.setCell ⟨g, 0, none⟩ v0).setCell ⟨g, 1, none⟩ v1).setCell ⟨g, 2, none⟩ v2).heap[g]? = some (.cells #[v0, v1, v2] e (0, 0)) := by
  have h1 := heap_setCell_same w g 0 _ e v0 h
  have h2 := heap_setCell_same _ g 1 _ e v1 h1
  have h3 := heap_setCell_same _ g 2 _ e v2 h2
  rw [h3]; rfl
theorem below_set3 {w wr : World} {B g : Nat} (hb : Below B w wr) (hg : B ≤ g) (v0 v1 v2 : Value) : Below B w (((wr.setCell ⟨g, 0, none⟩ v0).setCell ⟨g, 1, none⟩ v1).setCell ⟨g, 2, none⟩ v2) :=
  ((hb.setCell (p := ⟨g, 0, none⟩) hg v0).setCell (p := ⟨g, 1, none⟩) hg v1).setCell (p := ⟨g, 2, none⟩) hg v2
theorem results_row_tmp {P : Program} {fn : Func} {p u : Tmp} {ty : TypeId} (h : fn.results = #[.cell p ty, .tmp u]) (tmps : Array Value) (w : World) (g : Nat) (t : TypeId) (cs : Array Value) (fr : Nat × Nat) (d : TypeDesc)
    (hp : tmps.getD p undef = .pointer (some ⟨g, 0, none⟩)) (hg : w.heap[g]? = some (.cells cs t fr))
    (hu : P.underlying ty = some d) (hd : (match d with | .struct _ | .array _ _ => true | _ => false) = true) (hi : (P.info? ty).map (·.size) = some cs.size) :
    (results fn tmps).run P w = .ok (.tuple #[.agg cs, tmps.getD u undef]) w := by
  rw [results_cell_tmp h, hp]
  simp [asAddr, run_loadVar_row w g t ty cs fr d hg hu hd hi, Result.andThen]
/-- Two rows of unlike things lie apart. -/
theorem own_apart {α β : Type} {c : Cod α} {c2 : Cod β} {e e2 : TypeId} {B B2 : Nat} {w : World} {v u : Value} {xs : List α} {ys : List β} (h : V.Own e c B w v xs) (h2 : V.Own e2 c2 B2 w u ys) (ht : e ≠ e2) : v.ownBlock = none ∨ v.ownBlock ≠ u.ownBlock := by
  obtain ⟨-, h1⟩ := h
  obtain ⟨-, h2⟩ := h2
  rcases h1 with ⟨rfl, -⟩ | ⟨b, cap, cur, rfl, -, hb, -⟩
  · exact .inl rfl
  refine .inr ?_
  rcases h2 with ⟨rfl, -⟩ | ⟨b2, cap2, cur2, rfl, -, hb2, -⟩
  · simp [Value.ownBlock]
  · intro q
    simp [Value.ownBlock] at q
    subst q
    rw [hb] at hb2
    simp at hb2
    exact ht hb2.2
theorem set_grown (w : World) (g j : Nat) (v : Value) : w.grownBy (w.setCell ⟨g, j, none⟩ v) (some g) :=
  ⟨rfl, rfl, rfl, by simp, fun k _ hk => heap_setCell_other _ ⟨g, j, none⟩ k v (fun e => hk (by simp [e]))⟩
theorem drew_grown (w : World) (r : Option Nat) : w.grownBy w.drew r := ⟨rfl, rfl, rfl, Nat.le_refl _, fun _ _ _ => rfl⟩
theorem own_lt_ne {α : Type} {c : Cod α} {e : TypeId} {B g : Nat} {w : World} {v : Value} {xs : List α} (h : V.Own e c B w v xs) (hg : g < B) : v.ownBlock = none ∨ v.ownBlock ≠ some g :=
  .inr (fun q => by have := (World.ownsRow.lt h g q).1; omega)

theorem own_set3 {α : Type} {c : Cod α} {e : TypeId} {B q : Nat} {w : World} {v : Value} {xs : List α} (h : V.Own e c B w v xs) (hq : q < B) (v0 v1 v2 : Value) : V.Own e c B (((w.setCell ⟨q, 0, none⟩ v0).setCell ⟨q, 1, none⟩ v1).setCell ⟨q, 2, none⟩ v2) v xs :=
  ((h.kept (set_grown _ q 0 v0) (own_lt_ne h hq)).kept (set_grown _ q 1 v1) (own_lt_ne h hq)).kept (set_grown _ q 2 v2) (own_lt_ne h hq)
theorem own_sl {α : Type} {c : Cod α} {e : TypeId} {B : Nat} {w : World} {a : Option Addr} {n cap : Nat} {xs : List α} (h : V.Own e c B w (.slice a n cap) xs) : Sl c w a n cap xs := by
  obtain ⟨a1, b1, e1, s1, -⟩ := h.slice
  cases e1
  exact s1

theorem sl_from {α : Type} {c : Cod α} {w : World} {a : Option Addr} {n cap : Nat} {xs : List α} (h : Sl c w a n cap xs) {q : Nat} (hq : q ≤ n) : Sl c w (if cap = q then a else a.map (·.add (q * c.k))) (n - q) (cap - q) (xs.drop q) := by
  have h1 := h.hlen
  have h2 := h.hcap
  have h3 := h.hmax
  by_cases e : cap = q
  · rw [if_pos e]
    have e2 : xs.drop q = [] := List.drop_eq_nil_of_le (by omega)
    rw [e2]
    refine ⟨by simp; omega, by omega, by omega, fun e3 => ⟨by omega, by omega⟩, fun d hd hc => by omega⟩
  · rw [if_neg e]
    refine ⟨by rw [List.length_drop]; omega, by omega, by omega, fun e3 => ?_, fun d hd hc => ?_⟩
    · cases a with
      | none => have := h.hnil rfl; omega
      | some d => cases e3
    · cases a with
      | none => cases hd
      | some d0 =>
        obtain ⟨g1, g2, g3⟩ := h.hat d0 rfl (by omega)
        obtain ⟨b, off, sp⟩ := d0
        have g1 : sp = none := g1
        subst g1
        have hd : (⟨b, off, none⟩ : Addr).add (q * c.k) = d := Option.some.inj hd
        rw [add_addr] at hd
        subst hd
        refine ⟨rfl, g2, fun j u hu => ?_⟩
        have := g3 (q * c.k + j) u (by
          have e4 : xs = xs.take q ++ xs.drop q := (List.take_append_drop q xs).symm
          have e5 : ((xs.take q).flatMap c.enc).length = q * c.k := by rw [flat_len, List.length_take, Nat.min_eq_left (by omega)]
          rw [e4, List.flatMap_append, List.getElem?_append_right (by omega), e5, Nat.add_sub_cancel_left]
          exact hu)
        show w.cell? ⟨b, off + q * c.k + j, none⟩ = some u
        rw [Nat.add_assoc]; exact this
theorem map_add0 {α : Type} {c : Cod α} {w : World} {a : Option Addr} {n cap : Nat} {xs : List α} (_ : Sl c w a n cap xs) (s : Nat) : a.map (·.add (0 * s)) = a := by
  cases a with
  | none => rfl
  | some d =>
    simp [Addr.add]
end Go.Proofs.Ytbdkhgenkekioaa.Wi
