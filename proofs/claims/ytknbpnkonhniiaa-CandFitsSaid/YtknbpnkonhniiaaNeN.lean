/- Networks: a network argument, opened. -/
import Derived.Test.YtknbpnkonhniiaaNeA
import Derived.Test.YtknbpnkonhniiaaOpen
namespace Go.Proofs.Ytknbpnkonhniiaa.Ne
open Go.RowKit Go.V Go.Proofs Go.ChangeShapes Go.WideShapes Go.ChangeAt

theorem list2 {α : Type} {l : List α} (h : l.length = 2) : ∃ a b, l = [a, b] := by
  match l, h with
  | [a, b], _ => exact ⟨a, b, rfl⟩
theorem list3 {α : Type} {l : List α} (h : l.length = 3) : ∃ a b c, l = [a, b, c] := by
  match l, h with
  | [a, b, c], _ => exact ⟨a, b, c, rfl⟩

theorem stp_opened {H : Type} {enc : TypeId × Value → H} {w : World} {b0 : Nat} {spare : Nat → Bool} {held : Bool} (n : Nat) (cs : List Value) (y : DataW H × List MemPlace) (h : DataW.trod enc Try.prog w b0 spare held n 53 cs = some y) : ∃ x, cs = Stp.cod.enc x ∧ Stp.ok x := by
  obtain ⟨y0, y1, m, rfl, hl, k0, k1⟩ := trod_struct2 Try.underlying53 h
  have hc : Try.prog.cellsOf 3 = 1 := by kernel_rfl
  have hl' : cs.length = 2 := by rw [hl]; kernel_rfl
  obtain ⟨v0, v1, rfl⟩ := list2 hl'
  rw [hc] at k0 k1
  obtain ⟨n0, e0, -, w0⟩ := DataW.trod_int Try.underlying3 k0
  obtain ⟨n1, e1, -, w1⟩ := DataW.trod_int Try.underlying3 k1
  simp at e0 e1
  subst e0; subst e1
  exact ⟨⟨n0, n1⟩, rfl, w0, w1⟩
theorem lnk_opened {H : Type} {enc : TypeId × Value → H} {w : World} {b0 : Nat} {spare : Nat → Bool} {held : Bool} (n : Nat) (cs : List Value) (y : DataW H × List MemPlace) (h : DataW.trod enc Try.prog w b0 spare held n 62 cs = some y) : ∃ x, cs = lcod.enc x ∧ lok x := by
  obtain ⟨xs, m, -, rfl, hl, hlen, hf⟩ := DataW.trod_struct Try.underlying62 h
  have hc : Try.prog.cellsOf 3 = 1 := by kernel_rfl
  have hl' : cs.length = 3 := by rw [hl]; kernel_rfl
  obtain ⟨v0, v1, v2, rfl⟩ := list3 hl'
  have hx3 : xs.length = 3 := by rw [hlen]; rfl
  obtain ⟨y0, y1, y2, rfl⟩ := list3 hx3
  have k0 := hf 0 _ rfl
  have k1 := hf 1 _ rfl
  have k2 := hf 2 _ rfl
  simp [hc] at k0 k1 k2
  obtain ⟨n0, e0, -, w0⟩ := DataW.trod_int Try.underlying3 k0
  obtain ⟨n1, e1, -, w1⟩ := DataW.trod_int Try.underlying3 k1
  obtain ⟨n2, e2, -, w2⟩ := DataW.trod_int Try.underlying3 k2
  simp at e0 e1 e2
  subst e0; subst e1; subst e2
  exact ⟨⟨n0, n1, n2⟩, rfl, w0, w1, w2⟩
theorem int_opened {H : Type} {enc : TypeId × Value → H} {w : World} {b0 : Nat} {spare : Nat → Bool} {held : Bool} (n : Nat) (cs : List Value) (y : DataW H × List MemPlace) (h : DataW.trod enc Try.prog w b0 spare held n 3 cs = some y) : ∃ x, cs = icod.enc x ∧ Iok x := by
  obtain ⟨n0, e0, -, w0⟩ := DataW.trod_int Try.underlying3 h
  exact ⟨n0, e0, w0⟩
theorem slice_val {P : Program} {w : World} {r : Reach} {base : Nat} {u e : TypeId} {v : Value} (hu : P.underlying u = some (.slice e)) (h : Cell.okWide P w r base u v) : Value.okWide P w r base u v := by
  simp only [Value.okWide, hu]; exact h

set_option maxRecDepth 100000 in
theorem open_net {H : Type} {enc : TypeId × Value → H} {w : World} {b0 base : Nat} {spare : Nat → Bool} {held : Bool} {v : Value} {d : DataW H} {ps : List MemPlace} (hval : Value.okWide Try.prog w .any base 25 v) (h : DataW.Trod enc Try.prog w b0 spare held 25 v d ps) :
    ∃ (n : Net) (hs hl : Hdr), v = n.val hs hl ∧ NetIn w n hs hl ∧ Iok n.ver ∧ (∀ s ∈ n.stops, Stp.ok s) ∧ ∀ l ∈ n.links, lok l := by
  simp only [Value.okWide, Try.underlying25] at hval
  obtain ⟨cs, rfl, hsz, ts, hts, -, hcell⟩ := hval
  obtain ⟨fuel, hf⟩ := h
  obtain ⟨xs, m, -, -, hl, hxl, hx⟩ := DataW.trod_struct Try.underlying25 hf
  have hc3 : Try.prog.cellsOf 25 = 3 := by kernel_rfl
  have hts' : Try.prog.cellTypes Try.prog.depth 25 = some [3, 22, 23] := by kernel_rfl
  rw [hts'] at hts
  cases hts
  have hc1 : Try.prog.cellsOf 3 = 1 := by kernel_rfl
  have hcs : Try.prog.cellsOf 22 = 1 := by kernel_rfl
  have hcl : Try.prog.cellsOf 23 = 1 := by kernel_rfl
  obtain ⟨l⟩ := cs
  rw [hc3] at hsz
  obtain ⟨v0, v1, v2, rfl⟩ := list3 (l := l) (by simpa using hsz)
  have hx3 : xs.length = 3 := by rw [hxl]; rfl
  obtain ⟨y0, y1, y2, rfl⟩ := list3 hx3
  have g0 := hx 0 _ rfl
  have g1 := hx 1 _ rfl
  have g2 := hx 2 _ rfl
  simp [Value.cells, hc1, hcs, hcl] at g0 g1 g2
  have k1 : Value.okWide Try.prog w .any base 22 v1 := by
    obtain ⟨u, hu, hk⟩ := hcell 1 v1 rfl
    cases hu
    exact slice_val Try.underlying22 hk
  have k2 : Value.okWide Try.prog w .any base 23 v2 := by
    obtain ⟨u, hu, hk⟩ := hcell 2 v2 rfl
    cases hu
    exact slice_val Try.underlying23 hk
  obtain ⟨n0, e0, -, w0⟩ := DataW.trod_int Try.underlying3 g0
  simp at e0
  subst e0
  obtain ⟨a1, m1, p1, l1, rfl, s1, o1⟩ := open_sl (c := Stp.cod) (ok := Stp.ok) (d := y1.1) (ps := y1.2) Try.underlying22 (by kernel_rfl) (fun n cs y => stp_opened n cs y) k1 ⟨m, by obtain ⟨a, n, c, rfl⟩ := okWide_slice Try.underlying22 k1; exact g1⟩
  obtain ⟨a2, m2, p2, l2, rfl, s2, o2⟩ := open_sl (c := lcod) (ok := lok) (d := y2.1) (ps := y2.2) Try.underlying23 (by kernel_rfl) (fun n cs y => lnk_opened n cs y) k2 ⟨m, by obtain ⟨a, n, c, rfl⟩ := okWide_slice Try.underlying23 k2; exact g2⟩
  exact ⟨⟨n0, l1, l2⟩, ⟨a1, m1, p1⟩, ⟨a2, m2, p2⟩, rfl, ⟨s1, s2⟩, w0, o1, o2⟩
end Go.Proofs.Ytknbpnkonhniiaa.Ne
