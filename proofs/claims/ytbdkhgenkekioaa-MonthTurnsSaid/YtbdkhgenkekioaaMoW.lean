/- Months: an asking, opened. -/
import Derived.Test.YtbdkhgenkekioaaMoU
import Derived.Test.YtbdkhgenkekioaaMoV
namespace Go.Proofs.Ytbdkhgenkekioaa
open Go.RowKit Go.V Go.Sort Go.Shelf Go.Proofs Go.Maps Go.ChangeShapes Go.WideShapes Go.ChangeAt
theorem list14 {α : Type} {l : List α} (h : l.length = 14) : ∃ a b c d e f g i j k m n p q, l = [a, b, c, d, e, f, g, i, j, k, m, n, p, q] := by
  match l, h with
  | [a, b, c, d, e, f, g, i, j, k, m, n, p, q], _ => exact ⟨a, b, c, d, e, f, g, i, j, k, m, n, p, q, rfl⟩
set_option maxRecDepth 100000 in
theorem open_ask {H : Type} {enc : TypeId × Value → H} {w : World} {b0 base : Nat} {spare : Nat → Bool} {held : Bool} {v : Value} {d : DataW H} {ps : List MemPlace} (hsp : ∀ b, spare b = true) (hval : Value.okWide Try.prog w .any base 29 v) (h : DataW.Trod enc Try.prog w b0 spare held 29 v d ps) :
    ∃ (q : AskP) (g : Hdr), v = q.val g ∧ Ride.ok q.r ∧ (∀ r ∈ q.o.rides, Ride.ok r) ∧ Sl Ride.cod w g.a g.n g.cap q.o.rides := by
  simp only [Value.okWide, Try.underlying29] at hval
  obtain ⟨cs, rfl, hsz, -⟩ := hval
  obtain ⟨fuel, hf⟩ := h
  obtain ⟨xs, m, -, -, hl, hxl, hx⟩ := DataW.trod_struct Try.underlying29 hf
  have hc14 : Try.prog.cellsOf 29 = 14 := by kernel_rfl
  have hc1 : Try.prog.cellsOf 3 = 1 := by kernel_rfl
  have hcr : Try.prog.cellsOf 24 = 4 := by kernel_rfl
  have hcm : Try.prog.cellsOf 27 = 6 := by kernel_rfl
  obtain ⟨l⟩ := cs
  rw [hc14] at hsz
  obtain ⟨v0, v1, v2, v3, v4, v5, v6, v7, v8, v9, v10, v11, v12, v13, rfl⟩ := list14 (l := l) (by simpa using hsz)
  have hx6 : xs.length = 6 := by rw [hxl]; rfl
  obtain ⟨y0, y1, y2, y3, y4, y5, rfl⟩ := list6 hx6
  have g0 := hx 0 _ rfl
  have g1 := hx 1 _ rfl
  have g2 := hx 2 _ rfl
  have g3 := hx 3 _ rfl
  have g4 := hx 4 _ rfl
  have g5 := hx 5 _ rfl
  simp [Value.cells, hc1, hcr, hcm] at g0 g1 g2 g3 g4 g5
  obtain ⟨n0, e0, -, -⟩ := DataW.trod_int Try.underlying3 g0
  obtain ⟨n1, e1, -, -⟩ := DataW.trod_int Try.underlying3 g1
  obtain ⟨n2, e2, -, -⟩ := DataW.trod_int Try.underlying3 g2
  obtain ⟨n3, e3, -, -⟩ := DataW.trod_int Try.underlying3 g3
  obtain ⟨r, e4, hr⟩ := mride_opened _ _ _ g4
  obtain ⟨x, e5, zs, hsl, hok⟩ := month_opened hsp _ _ _ g5
  have e4 : [v4, v5, v6, v7] = [.int .i64 r.t, .int .i64 r.s, .int .i64 r.e, .int .i64 r.f] := e4
  have e5 : [v8, v9, v10, v11, v12, v13] = [.int .i64 x.a, .int .i64 x.m, .int .i64 x.t, .int .i64 x.c, .slice x.h.a x.h.n x.h.cap, .bool x.z] := e5
  simp at e0 e1 e2 e3 e4 e5
  obtain ⟨rfl, rfl, rfl, rfl⟩ := e4
  obtain ⟨rfl, rfl, rfl, rfl, rfl, rfl⟩ := e5
  subst e0; subst e1; subst e2; subst e3
  exact ⟨⟨n0, n1, n2, n3, r, ⟨x.a, x.m, x.t, x.c, zs, x.z⟩⟩, x.h, rfl, hr, hok, hsl⟩
end Go.Proofs.Ytbdkhgenkekioaa
