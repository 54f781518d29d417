/- How an argument is opened: a slice of things that are always so many cells. -/
import Derived.Test.YtknbpnkonhniiaaBase
import Derived.ProofKit
import Derived.OpenShut
import Derived.ShutString
import Derived.ChangeOld
import Derived.Below
import Derived.Deep.Slices
import Derived.Lib.SmallJoins
namespace Go.V
open Go.RowKit Go.ChangeShapes Go.WideShapes Go.ChangeAt

theorem add_addr' (b off j : Nat) : (⟨b, off, none⟩ : Addr).add j = ⟨b, off + j, none⟩ := add_addr b off j

/-- A slice argument's address, as it must be. -/
theorem okWide_addr {P : Program} {w : World} {r : Reach} {base : Nat} {t e : TypeId} {d : Addr} {n cap : Nat} (ht : P.underlying t = some (.slice e)) (h : Value.okWide P w r base t (.slice (some d) n cap)) : d.spot = none ∧ d.block < w.heap.size := by
  simp only [Value.okWide, ht, Cell.okWide, Cell.ok, World.has] at h
  obtain ⟨-, -, -, h1, row, cells, h2, -⟩ := h
  refine ⟨h1, ?_⟩
  unfold World.shape? at h2
  split at h2
  · next hh => exact (Array.getElem?_eq_some_iff.1 hh).1
  · cases h2

theorem list_of {α : Type} {p : Nat → α → Prop} : ∀ n, (∀ i, i < n → ∃ x, p i x) → ∃ xs : List α, xs.length = n ∧ ∀ i x, xs[i]? = some x → p i x
  | 0, _ => ⟨[], rfl, fun i x hx => by simp at hx⟩
  | n + 1, h => by
    obtain ⟨xs, h1, h2⟩ := list_of n (fun i hi => h i (by omega))
    obtain ⟨x, hx⟩ := h n (by omega)
    refine ⟨xs ++ [x], by simp [h1], fun i y hy => ?_⟩
    by_cases hi : i < n
    · rw [List.getElem?_append_left (by omega)] at hy; exact h2 i y hy
    · have hl := (List.getElem?_eq_some_iff.1 hy).1
      simp at hl
      have : i = n := by omega
      subst this
      rw [List.getElem?_append_right (by omega)] at hy
      simp [h1] at hy; subst hy; exact hx

theorem open_sl {α : Type} {c : Cod α} {ok : α → Prop} {H : Type} {enc : TypeId × Value → H} {P : Program} {w : World} {b0 base : Nat} {spare : Nat → Bool} {held : Bool} {t e : TypeId} {v : Value} {d : DataW H} {ps : List MemPlace} (ht : P.underlying t = some (.slice e)) (hc : P.cellsOf e = c.k)
    (hel : ∀ n cs y, DataW.trod enc P w b0 spare held n e cs = some y → ∃ x, cs = c.enc x ∧ ok x)
    (hval : Value.okWide P w .any base t v) (h : DataW.Trod enc P w b0 spare held t v d ps) : ∃ a n cap xs, v = .slice a n cap ∧ Sl c w a n cap xs ∧ ∀ x ∈ xs, ok x := by
  obtain ⟨a, n, cap, rfl⟩ := okWide_slice ht hval
  obtain ⟨fuel, hf⟩ := h
  rcases Go.Deep.open_slice ht hf with ⟨hcs, _⟩ | ⟨d, n', cap', m, _, D, Pl, hcs, -, hl, hm, hmm, -, hx⟩
  · simp [Value.cells] at hcs
    obtain ⟨rfl, rfl, rfl⟩ := hcs
    exact ⟨none, 0, 0, [], rfl, ⟨rfl, Nat.le_refl _, by unfold maxLen; omega, fun _ => ⟨rfl, rfl⟩, fun d hd => nomatch hd⟩, fun x hx => by simp at hx⟩
  · simp [Value.cells] at hcs
    obtain ⟨rfl, rfl, rfl⟩ := hcs
    obtain ⟨hs, hb⟩ := okWide_addr ht hval
    obtain ⟨b, off, sp⟩ := d
    change sp = none at hs
    subst hs
    have hle : n ≤ m := by rw [hmm]; split <;> omega
    have hx' : ∀ i, i < n → ∃ x, ok x ∧ ∀ j u, (c.enc x)[j]? = some u → w.cell? ⟨b, off + i * c.k + j, none⟩ = some u := by
      intro i hi
      obtain ⟨cs', h1, h2⟩ := hx i (by omega)
      obtain ⟨x, rfl, hok⟩ := hel _ _ _ h2
      refine ⟨x, hok, fun j u hu => ?_⟩
      have hj : j < c.k := by rw [← c.len x]; exact (List.getElem?_eq_some_iff.1 hu).1
      rw [hc, add_addr] at h1
      obtain ⟨_, _, h4⟩ := World.cells?_some h1
      have h5 := h4 j (by simpa [hc] using hj)
      rw [add_addr] at h5
      rw [h5]; exact hu
    obtain ⟨xs, hl1, hl2⟩ := list_of n hx'
    refine ⟨some ⟨b, off, none⟩, n, cap, xs, rfl, ⟨hl1.symm, hl, hm, (fun hd => nomatch hd), fun d hd _ => ?_⟩, fun x hx => ?_⟩
    · simp at hd; subst hd
      refine ⟨rfl, hb, fun j u hu => ?_⟩
      have hj : j < n * c.k := by have := (List.getElem?_eq_some_iff.1 hu).1; rw [flat_len, hl1] at this; exact this
      have hk : 0 < c.k := by rcases Nat.eq_zero_or_pos c.k with e | e; rw [e] at hj; omega; exact e
      have f1 := flat_get c xs (j / c.k) (j % c.k) (Nat.mod_lt _ hk)
      have f3 : j / c.k * c.k + j % c.k = j := by rw [Nat.mul_comm]; exact Nat.div_add_mod j c.k
      rw [f3, hu] at f1
      obtain ⟨x, g1, g2⟩ := Option.bind_eq_some_iff.1 f1.symm
      have := (hl2 _ _ g1).2 _ _ g2
      show w.cell? ⟨b, off + j, none⟩ = _
      rw [Nat.add_assoc, f3] at this
      exact this
    · obtain ⟨i, hi⟩ := List.mem_iff_getElem?.1 hx
      exact (hl2 i x hi).1
/-- An array of two numbers. -/
theorem open_i2 {H : Type} {enc : TypeId × Value → H} {P : Program} {w : World} {b0 base : Nat} {spare : Nat → Bool} {held : Bool} {t e : TypeId} {v : Value} {d : DataW H} {ps : List MemPlace} (ht : P.underlying t = some (.array 2 e)) (he : P.underlying e = some (.int .i64)) (hc : P.cellsOf t = 2) (hc1 : P.cellsOf e = 1)
    (hval : Value.okWide P w .any base t v) (h : DataW.Trod enc P w b0 spare held t v d ps) : ∃ p q : Int, v = .agg #[.int .i64 p, .int .i64 q] := by
  simp only [Value.okWide, ht] at hval
  obtain ⟨cs, rfl, hs, -⟩ := hval
  obtain ⟨fuel, hf⟩ := h
  obtain ⟨xs, m, -, -, hl, hxl, hx⟩ := DataW.trod_array ht hf
  obtain ⟨l⟩ := cs
  rw [hc] at hs
  match l, hs with
  | [v0, v1], _ =>
    have h0 := hx 0 (by omega)
    have h1 := hx 1 (by omega)
    match xs, hxl with
    | [y0, y1], _ =>
      simp [Value.cells, hc1] at h0 h1
      obtain ⟨n0, e0, -, w0⟩ := DataW.trod_int he h0
      obtain ⟨n1, e1, -, w1⟩ := DataW.trod_int he h1
      simp at e0 e1
      subst e0; subst e1
      exact ⟨n0, n1, rfl⟩
end Go.V
