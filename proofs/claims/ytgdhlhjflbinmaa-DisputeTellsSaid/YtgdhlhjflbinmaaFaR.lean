/- Fares: a tariff argument, opened. -/
import Derived.Test.YtgdhlhjflbinmaaFaPlain
import Derived.Test.YtgdhlhjflbinmaaOpen
namespace Go.Proofs.Ytgdhlhjflbinmaa
open Go.RowKit Go.V Go.Proofs Go.ChangeShapes Go.WideShapes Go.ChangeAt

theorem list2 {α : Type} {l : List α} (h : l.length = 2) : ∃ a b, l = [a, b] := by
  match l, h with
  | [a, b], _ => exact ⟨a, b, rfl⟩
theorem list9 {α : Type} {l : List α} (h : l.length = 9) : ∃ a b c d e f g i j, l = [a, b, c, d, e, f, g, i, j] := by
  match l, h with
  | [a, b, c, d, e, f, g, i, j], _ => exact ⟨a, b, c, d, e, f, g, i, j, rfl⟩

theorem pair_opened {H : Type} {enc : TypeId × Value → H} {w : World} {b0 : Nat} {spare : Nat → Bool} {held : Bool} {ty : TypeId} {f0 f1 : Field} (ht : Try.prog.underlying ty = some (.struct #[f0, f1])) (h0 : f0.type = 3 ∧ f0.offset = 0) (h1 : f1.type = 3 ∧ f1.offset = 1) (hc2 : Try.prog.cellsOf ty = 2) (n : Nat) (cs : List Value) (y : DataW H × List MemPlace) (h : DataW.trod enc Try.prog w b0 spare held n ty cs = some y) : ∃ x, cs = Pair.cod.enc x ∧ True := by
  obtain ⟨y0, y1, m, rfl, hl, k0, k1⟩ := trod_struct2 ht h
  have hc : Try.prog.cellsOf 3 = 1 := by kernel_rfl
  have hl' : cs.length = 2 := by rw [hl, hc2]
  obtain ⟨v0, v1, rfl⟩ := list2 hl'
  rw [h0.1, h0.2, hc] at k0
  rw [h1.1, h1.2, hc] at k1
  obtain ⟨n0, e0, -, -⟩ := DataW.trod_int Try.underlying3 k0
  obtain ⟨n1, e1, -, -⟩ := DataW.trod_int Try.underlying3 k1
  simp at e0 e1
  subst e0; subst e1
  exact ⟨⟨n0, n1⟩, rfl, trivial⟩
theorem int_opened {H : Type} {enc : TypeId × Value → H} {w : World} {b0 : Nat} {spare : Nat → Bool} {held : Bool} (n : Nat) (cs : List Value) (y : DataW H × List MemPlace) (h : DataW.trod enc Try.prog w b0 spare held n 3 cs = some y) : ∃ x, cs = icod.enc x ∧ True := by
  obtain ⟨n0, e0, -, -⟩ := DataW.trod_int Try.underlying3 h
  exact ⟨n0, e0, trivial⟩

theorem slice_val {P : Program} {w : World} {r : Reach} {base : Nat} {u e : TypeId} {v : Value} (hu : P.underlying u = some (.slice e)) (h : Cell.okWide P w r base u v) : Value.okWide P w r base u v := by
  simp only [Value.okWide, hu]; exact h

set_option maxRecDepth 100000 in
theorem open_tar {H : Type} {enc : TypeId × Value → H} {w : World} {b0 base : Nat} {spare : Nat → Bool} {held : Bool} {v : Value} {d : DataW H} {ps : List MemPlace} (hval : Value.okWide Try.prog w .any base 26 v) (h : DataW.Trod enc Try.prog w b0 spare held 26 v d ps) :
    ∃ (t : Tar) (hb hs hr : Hdr), v = t.val hb hs hr ∧ TarIn w t hb hs hr := by
  simp only [Value.okWide, Try.underlying26] at hval
  obtain ⟨cs, rfl, hsz, ts, hts, -, hcell⟩ := hval
  obtain ⟨fuel, hf⟩ := h
  obtain ⟨xs, m, -, -, hl, hxl, hx⟩ := DataW.trod_struct Try.underlying26 hf
  have hc9 : Try.prog.cellsOf 26 = 9 := by kernel_rfl
  have hts' : Try.prog.cellTypes Try.prog.depth 26 = some [3, 22, 3, 3, 23, 3, 3, 3, 24] := by kernel_rfl
  rw [hts'] at hts
  cases hts
  have hc1 : Try.prog.cellsOf 3 = 1 := by kernel_rfl
  have hcb : Try.prog.cellsOf 22 = 1 := by kernel_rfl
  have hci : Try.prog.cellsOf 23 = 1 := by kernel_rfl
  have hcr : Try.prog.cellsOf 24 = 1 := by kernel_rfl
  obtain ⟨l⟩ := cs
  rw [hc9] at hsz
  obtain ⟨v0, v1, v2, v3, v4, v5, v6, v7, v8, rfl⟩ := list9 (l := l) (by simpa using hsz)
  have hx9 : xs.length = 9 := by rw [hxl]; rfl
  obtain ⟨y0, y1, y2, y3, y4, y5, y6, y7, y8, rfl⟩ := list9 hx9
  have g0 := hx 0 _ rfl
  have g1 := hx 1 _ rfl
  have g2 := hx 2 _ rfl
  have g3 := hx 3 _ rfl
  have g4 := hx 4 _ rfl
  have g5 := hx 5 _ rfl
  have g6 := hx 6 _ rfl
  have g7 := hx 7 _ rfl
  have g8 := hx 8 _ rfl
  simp [Value.cells, hc1, hcb, hci, hcr] at g0 g1 g2 g3 g4 g5 g6 g7 g8
  have k1 : Value.okWide Try.prog w .any base 22 v1 := by
    obtain ⟨u, hu, hk⟩ := hcell 1 v1 rfl
    cases hu
    exact slice_val Try.underlying22 hk
  have k4 : Value.okWide Try.prog w .any base 23 v4 := by
    obtain ⟨u, hu, hk⟩ := hcell 4 v4 rfl
    cases hu
    exact slice_val Try.underlying23 hk
  have k8 : Value.okWide Try.prog w .any base 24 v8 := by
    obtain ⟨u, hu, hk⟩ := hcell 8 v8 rfl
    cases hu
    exact slice_val Try.underlying24 hk
  obtain ⟨n0, e0, -, -⟩ := DataW.trod_int Try.underlying3 g0
  obtain ⟨n2, e2, -, -⟩ := DataW.trod_int Try.underlying3 g2
  obtain ⟨n3, e3, -, -⟩ := DataW.trod_int Try.underlying3 g3
  obtain ⟨n5, e5, -, -⟩ := DataW.trod_int Try.underlying3 g5
  obtain ⟨n6, e6, -, -⟩ := DataW.trod_int Try.underlying3 g6
  obtain ⟨n7, e7, -, -⟩ := DataW.trod_int Try.underlying3 g7
  simp at e0 e2 e3 e5 e6 e7
  subst e0; subst e2; subst e3; subst e5; subst e6; subst e7
  obtain ⟨a1, m1, p1, l1, rfl, s1, -⟩ := open_sl (c := Pair.cod) (ok := fun _ => True) (d := y1.1) (ps := y1.2) Try.underlying22 (by kernel_rfl) (fun n cs y => pair_opened Try.underlying72 ⟨rfl, rfl⟩ ⟨rfl, rfl⟩ (by kernel_rfl) n cs y) k1 ⟨m, by obtain ⟨a, n, c, rfl⟩ := okWide_slice Try.underlying22 k1; exact g1⟩
  obtain ⟨a4, m4, p4, l4, rfl, s4, -⟩ := open_sl (c := icod) (ok := fun _ => True) (d := y4.1) (ps := y4.2) Try.underlying23 (by kernel_rfl) (fun n cs y => int_opened n cs y) k4 ⟨m, by obtain ⟨a, n, c, rfl⟩ := okWide_slice Try.underlying23 k4; exact g4⟩
  obtain ⟨a8, m8, p8, l8, rfl, s8, -⟩ := open_sl (c := Pair.cod) (ok := fun _ => True) (d := y8.1) (ps := y8.2) Try.underlying24 (by kernel_rfl) (fun n cs y => pair_opened Try.underlying74 ⟨rfl, rfl⟩ ⟨rfl, rfl⟩ (by kernel_rfl) n cs y) k8 ⟨m, by obtain ⟨a, n, c, rfl⟩ := okWide_slice Try.underlying24 k8; exact g8⟩
  exact ⟨⟨n0, l1, n2, n3, l4, n5, n6, n7, l8⟩, ⟨a1, m1, p1⟩, ⟨a4, m4, p4⟩, ⟨a8, m8, p8⟩, rfl, s1, s4, s8⟩
end Go.Proofs.Ytgdhlhjflbinmaa
