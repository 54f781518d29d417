/- How an argument is opened: two bytes in an array. -/
import Derived.Test.YtdkgjheldpdohaaOpen
namespace Go.V
open Go.RowKit Go.ChangeShapes Go.WideShapes Go.ChangeAt

theorem u8_nat {n : Int} (h : (Lit.int .u8 n).wf = true) : ∃ p : Nat, n = p ∧ p ≤ 255 := by
  have h2 : 0 ≤ n ∧ n ≤ 255 := by
    have := h
    simp [Lit.wf, IntKind.min, IntKind.max, IntKind.signed, IntKind.bits] at this
    omega
  exact ⟨n.toNat, by omega, by omega⟩

theorem open_u8x2 {H : Type} {enc : TypeId × Value → H} {P : Program} {w : World} {b0 base : Nat} {spare : Nat → Bool} {held : Bool} {t e : TypeId} {v : Value} {d : DataW H} {ps : List MemPlace} (ht : P.underlying t = some (.array 2 e)) (he : P.underlying e = some (.int .u8)) (hc : P.cellsOf t = 2) (hc1 : P.cellsOf e = 1)
    (hval : Value.okWide P w .any base t v) (h : DataW.Trod enc P w b0 spare held t v d ps) : ∃ p q : Nat, v = .agg #[.int .u8 p, .int .u8 q] ∧ p ≤ 255 ∧ q ≤ 255 := by
  simp only [Value.okWide, ht] at hval
  obtain ⟨cs, rfl, hs, -⟩ := hval
  obtain ⟨fuel, hf⟩ := h
  obtain ⟨xs, m, -, -, hl, hxl, hx⟩ := DataW.trod_array ht hf
  obtain ⟨l⟩ := cs
  rw [hc] at hs
  match l, hs with
  | [v0, v1], _ =>
    have h0 := hx 0 (by omega)
    have h1 := hx 1 (by omega)
    match xs, hxl with
    | [y0, y1], _ =>
      simp [Value.cells, hc1] at h0 h1
      obtain ⟨n0, e0, -, w0⟩ := DataW.trod_int he h0
      obtain ⟨n1, e1, -, w1⟩ := DataW.trod_int he h1
      simp at e0 e1
      subst e0; subst e1
      obtain ⟨p, rfl, hp⟩ := u8_nat w0
      obtain ⟨q, rfl, hq⟩ := u8_nat w1
      exact ⟨p, q, rfl, hp, hq⟩
end Go.V
