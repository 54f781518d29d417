/- How an argument is opened: three bytes in an array. -/
import Derived.Test.YteihffnmgacfpaaOpen
namespace Go.V
open Go.RowKit Go.ChangeShapes Go.WideShapes Go.ChangeAt

theorem u8_nat3 {n : Int} (h : (Lit.int .u8 n).wf = true) : ∃ p : Nat, n = p ∧ p ≤ 255 := by
  have h2 : 0 ≤ n ∧ n ≤ 255 := by
    have := h
    simp [Lit.wf, IntKind.min, IntKind.max, IntKind.signed, IntKind.bits] at this
    omega
  exact ⟨n.toNat, by omega, by omega⟩
theorem list3 {α : Type} {l : List α} (h : l.length = 3) : ∃ a b c, l = [a, b, c] := by
  match l, h with
  | [a, b, c], _ => exact ⟨a, b, c, rfl⟩

theorem open_u8x3 {H : Type} {enc : TypeId × Value → H} {P : Program} {w : World} {b0 base : Nat} {spare : Nat → Bool} {held : Bool} {t e : TypeId} {v : Value} {d : DataW H} {ps : List MemPlace} (ht : P.underlying t = some (.array 3 e)) (he : P.underlying e = some (.int .u8)) (hc : P.cellsOf t = 3) (hc1 : P.cellsOf e = 1)
    (hval : Value.okWide P w .any base t v) (h : DataW.Trod enc P w b0 spare held t v d ps) : ∃ p q r : Nat, v = .agg #[.int .u8 p, .int .u8 q, .int .u8 r] ∧ p ≤ 255 ∧ q ≤ 255 ∧ r ≤ 255 := by
  simp only [Value.okWide, ht] at hval
  obtain ⟨cs, rfl, hs, -⟩ := hval
  obtain ⟨fuel, hf⟩ := h
  obtain ⟨xs, m, -, -, hl, hxl, hx⟩ := DataW.trod_array ht hf
  obtain ⟨l⟩ := cs
  rw [hc] at hs
  obtain ⟨v0, v1, v2, rfl⟩ := list3 (l := l) (by simpa using hs)
  have h0 := hx 0 (by omega)
  have h1 := hx 1 (by omega)
  have h2 := hx 2 (by omega)
  obtain ⟨y0, y1, y2, rfl⟩ := list3 hxl
  simp [Value.cells, hc1] at h0 h1 h2
  obtain ⟨n0, e0, -, w0⟩ := DataW.trod_int he h0
  obtain ⟨n1, e1, -, w1⟩ := DataW.trod_int he h1
  obtain ⟨n2, e2, -, w2⟩ := DataW.trod_int he h2
  simp at e0 e1 e2
  subst e0; subst e1; subst e2
  obtain ⟨p, rfl, hp⟩ := u8_nat3 w0
  obtain ⟨q, rfl, hq⟩ := u8_nat3 w1
  obtain ⟨r, rfl, hr⟩ := u8_nat3 w2
  exact ⟨p, q, r, rfl, hp, hq, hr⟩
end Go.V
