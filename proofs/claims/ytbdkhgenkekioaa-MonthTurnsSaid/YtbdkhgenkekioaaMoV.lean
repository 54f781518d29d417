/- Months: how arguments that hold them are opened. -/
import Derived.Test.YtbdkhgenkekioaaMoA
import Derived.Test.YtbdkhgenkekioaaOpen
namespace Go.V
open Go.RowKit Go.ChangeShapes Go.WideShapes Go.ChangeAt
/-- A slice within an argument, all of whose room is read. -/
theorem trod_sl {α : Type} {c : Cod α} {ok : α → Prop} {H : Type} {enc : TypeId × Value → H} {P : Program} {w : World} {b0 : Nat} {spare : Nat → Bool} {held : Bool} {t e : TypeId} {n : Nat} {cs : List Value} {y : DataW H × List MemPlace} (hsp : ∀ b, spare b = true) (ht : P.underlying t = some (.slice e)) (hc : P.cellsOf e = c.k) (hk : 0 < c.k)
    (hel : ∀ n cs y, DataW.trod enc P w b0 spare held n e cs = some y → ∃ x, cs = c.enc x ∧ ok x) (h : DataW.trod enc P w b0 spare held n t cs = some y) : ∃ (a : Option Addr) (l r : Nat) (xs : List α), cs = [.slice a l r] ∧ Sl c w a l r xs ∧ ∀ x ∈ xs, ok x := by
  rcases Go.Deep.open_slice ht h with ⟨hcs, _⟩ | ⟨d, n, cap, m, _, D, Pl, hcs, -, hl, hm, hmm, -, hx⟩
  · exact ⟨none, 0, 0, [], hcs, ⟨rfl, Nat.le_refl _, Nat.zero_le _, fun _ => ⟨rfl, rfl⟩, fun d hd => nomatch hd⟩, fun x hx => by simp at hx⟩
  · rw [hsp, if_pos rfl] at hmm
    subst hmm
    by_cases h0 : 0 < m
    · obtain ⟨cs0, h1, h2⟩ := hx 0 h0
      obtain ⟨x0, rfl, -⟩ := hel _ _ _ h2
      obtain ⟨_, hl0, h4⟩ := World.cells?_some h1
      have h5 := h4 0 (by rw [hc]; exact hk)
      obtain ⟨u0, hu0⟩ : ∃ u, (c.enc x0)[0]? = some u := ⟨_, List.getElem?_eq_getElem (by rw [c.len]; exact hk)⟩
      rw [hu0] at h5
      obtain ⟨b, off, sp⟩ := d
      have hs : sp = none := by simpa [Addr.add] using World.cell?_spot h5
      subst hs
      have hb : b < w.heap.size := by have := World.block_lt_of_cell? w _ h5; simpa [Addr.add] using this
      have hx' : ∀ i, i < n → ∃ x, ok x ∧ ∀ j u, (c.enc x)[j]? = some u → w.cell? ⟨b, off + i * c.k + j, none⟩ = some u := by
        intro i hi
        obtain ⟨cs', h1, h2⟩ := hx i (by omega)
        obtain ⟨x, rfl, hok⟩ := hel _ _ _ h2
        refine ⟨x, hok, fun j u hu => ?_⟩
        have hj : j < c.k := by rw [← c.len x]; exact (List.getElem?_eq_some_iff.1 hu).1
        rw [hc, add_addr] at h1
        obtain ⟨_, _, h4⟩ := World.cells?_some h1
        have h5 := h4 j (by simpa [hc] using hj)
        rw [add_addr] at h5
        rw [h5]; exact hu
      obtain ⟨xs, hl1, hl2⟩ := list_of n hx'
      refine ⟨some ⟨b, off, none⟩, n, m, xs, hcs, ⟨hl1.symm, hl, hm, (fun hd => nomatch hd), fun d hd _ => ?_⟩, fun x hx => ?_⟩
      · simp at hd; subst hd
        refine ⟨rfl, hb, fun j u hu => ?_⟩
        have hj : j < n * c.k := by have := (List.getElem?_eq_some_iff.1 hu).1; rw [flat_len, hl1] at this; exact this
        have f1 := flat_get c xs (j / c.k) (j % c.k) (Nat.mod_lt _ hk)
        have f3 : j / c.k * c.k + j % c.k = j := by rw [Nat.mul_comm]; exact Nat.div_add_mod j c.k
        rw [f3, hu] at f1
        obtain ⟨x, g1, g2⟩ := Option.bind_eq_some_iff.1 f1.symm
        have := (hl2 _ _ g1).2 _ _ g2
        show w.cell? ⟨b, off + j, none⟩ = _
        rw [Nat.add_assoc, f3] at this
        exact this
      · obtain ⟨i, hi⟩ := List.mem_iff_getElem?.1 hx
        exact (hl2 i x hi).1
    · have e0 : m = 0 := by omega
      subst e0
      have e1 : n = 0 := by omega
      subst e1
      exact ⟨some d, 0, 0, [], hcs, ⟨rfl, Nat.le_refl _, Nat.zero_le _, (fun hd => nomatch hd), fun d _ hc => absurd hc (Nat.lt_irrefl 0)⟩, fun x hx => by simp at hx⟩
end Go.V
namespace Go.Proofs.Ytbdkhgenkekioaa
open Go.RowKit Go.V Go.Sort Go.Shelf Go.Proofs Go.Maps Go.ChangeShapes Go.WideShapes Go.ChangeAt

set_option maxRecDepth 100000 in
theorem mride_opened {H : Type} {enc : TypeId × Value → H} {w : World} {b0 : Nat} {spare : Nat → Bool} {held : Bool} (n : Nat) (cs : List Value) (y : DataW H × List MemPlace) (h : DataW.trod enc Try.prog w b0 spare held n 24 cs = some y) : ∃ x, cs = Ride.cod.enc x ∧ Ride.ok x := by
  obtain ⟨y0, y1, y2, y3, m, rfl, hl, h0, h1, h2, h3⟩ := Go.Joins.trod_struct4 Try.underlying24 h
  have hl' : cs.length = 4 := by rw [hl]; kernel_rfl
  have hc : Try.prog.cellsOf 3 = 1 := by kernel_rfl
  match cs, hl' with
  | [v0, v1, v2, v3], _ =>
    rw [hc] at h0 h1 h2 h3
    obtain ⟨n0, e0, -, w0⟩ := DataW.trod_int Try.underlying3 h0
    obtain ⟨n1, e1, -, w1⟩ := DataW.trod_int Try.underlying3 h1
    obtain ⟨n2, e2, -, w2⟩ := DataW.trod_int Try.underlying3 h2
    obtain ⟨n3, e3, -, w3⟩ := DataW.trod_int Try.underlying3 h3
    simp at e0 e1 e2 e3
    subst e0; subst e1; subst e2; subst e3
    exact ⟨⟨n0, n1, n2, n3⟩, rfl, w0, w1, w2, w3⟩
/-- A month's cells, and its rides. -/
def MHok (w : World) (x : MH) : Prop := ∃ l : List Ride, Sl Ride.cod w x.h.a x.h.n x.h.cap l ∧ (∀ r ∈ l, Ride.ok r)
theorem list6 {α : Type} {l : List α} (h : l.length = 6) : ∃ a b c d e f, l = [a, b, c, d, e, f] := by
  match l, h with
  | [a, b, c, d, e, f], _ => exact ⟨a, b, c, d, e, f, rfl⟩
set_option maxRecDepth 100000 in
theorem month_opened {H : Type} {enc : TypeId × Value → H} {w : World} {b0 : Nat} {spare : Nat → Bool} {held : Bool} (hsp : ∀ b, spare b = true) (n : Nat) (cs : List Value) (y : DataW H × List MemPlace) (h : DataW.trod enc Try.prog w b0 spare held n 27 cs = some y) : ∃ x, cs = MH.cod.enc x ∧ MHok w x := by
  obtain ⟨xs, m, -, -, hl, hxl, hx⟩ := DataW.trod_struct Try.underlying27 h
  have hl' : cs.length = 6 := by rw [hl]; kernel_rfl
  have hc1 : Try.prog.cellsOf 3 = 1 := by kernel_rfl
  have hcs : Try.prog.cellsOf 25 = 1 := by kernel_rfl
  have hcb : Try.prog.cellsOf 4 = 1 := by kernel_rfl
  obtain ⟨v0, v1, v2, v3, v4, v5, rfl⟩ := list6 hl'
  have hx6 : xs.length = 6 := by rw [hxl]; rfl
  obtain ⟨y0, y1, y2, y3, y4, y5, rfl⟩ := list6 hx6
  have g0 := hx 0 _ rfl
  have g1 := hx 1 _ rfl
  have g2 := hx 2 _ rfl
  have g3 := hx 3 _ rfl
  have g4 := hx 4 _ rfl
  have g5 := hx 5 _ rfl
  simp [hc1, hcs, hcb] at g0 g1 g2 g3 g4 g5
  obtain ⟨n0, e0, -, -⟩ := DataW.trod_int Try.underlying3 g0
  obtain ⟨n1, e1, -, -⟩ := DataW.trod_int Try.underlying3 g1
  obtain ⟨n2, e2, -, -⟩ := DataW.trod_int Try.underlying3 g2
  obtain ⟨n3, e3, -, -⟩ := DataW.trod_int Try.underlying3 g3
  obtain ⟨a, l, r, zs, e4, hsl, hok⟩ := trod_sl (c := Ride.cod) (ok := Ride.ok) hsp Try.underlying25 (by kernel_rfl) (by decide) (fun n cs y hy => mride_opened n cs y hy) g4
  obtain ⟨bz, e5, -⟩ := DataW.trod_bool Try.underlying4 g5
  simp at e0 e1 e2 e3 e4 e5
  subst e0; subst e1; subst e2; subst e3; subst e4; subst e5
  exact ⟨⟨n0, n1, n2, n3, ⟨a, l, r⟩, bz⟩, rfl, zs, hsl, hok⟩
theorem monIn_of {w : World} {a : Option Addr} {n cap : Nat} {X : List MH} (h : Sl MH.cod w a n cap X) (hx : ∀ x ∈ X, MHok w x) : ∃ hs ms, MonIn w a n cap hs ms ∧ ∀ m ∈ ms, ∀ r ∈ m.rides, Ride.ok r := by
  have key : ∀ X : List MH, (∀ x ∈ X, MHok w x) → ∃ ms : List Mon, ms.length = X.length ∧ ∀ (i : Nat) (x : MH) (m : Mon), X[i]? = some x → ms[i]? = some m → m.hd x.h = x ∧ Sl Ride.cod w x.h.a x.h.n x.h.cap m.rides ∧ ∀ r ∈ m.rides, Ride.ok r := by
    intro X
    induction X with
    | nil => intro _; exact ⟨[], rfl, fun i x m h => by simp at h⟩
    | cons x X ih =>
      intro hX
      obtain ⟨ms, h1, h2⟩ := ih (fun y hy => hX y (by simp [hy]))
      obtain ⟨l, h3, h4⟩ := hX x (by simp)
      refine ⟨⟨x.a, x.m, x.t, x.c, l, x.z⟩ :: ms, by simp [h1], fun i y m e1 e2 => ?_⟩
      cases i with
      | zero => simp at e1 e2; subst e1; subst e2; exact ⟨rfl, h3, h4⟩
      | succ i => exact h2 i y m (by simpa using e1) (by simpa using e2)
  obtain ⟨ms, h1, h2⟩ := key X hx
  have e : List.zipWith Mon.hd ms (X.map MH.h) = X := by
    apply List.ext_getElem?
    intro i
    rw [List.getElem?_zipWith, List.getElem?_map]
    cases e1 : X[i]? with
    | none =>
      cases ms[i]? <;> rfl
    | some x =>
      have hi := (List.getElem?_eq_some_iff.1 e1).1
      have e2 : ms[i]? = some ms[i] := List.getElem?_eq_getElem (by omega)
      rw [e2]
      exact congrArg some (h2 i x _ e1 e2).1
  refine ⟨X.map MH.h, ms, ⟨by rw [e]; exact h, by simp [h1], fun i g m e1 e2 => ?_⟩, fun m hm r hr => ?_⟩
  · rw [List.getElem?_map] at e1
    cases e3 : X[i]? with
    | none => rw [e3] at e1; cases e1
    | some x =>
      rw [e3] at e1
      cases e1
      exact (h2 i x m e3 e2).2.1
  · obtain ⟨i, hi⟩ := List.mem_iff_getElem?.1 hm
    have hl := (List.getElem?_eq_some_iff.1 hi).1
    have e3 : X[i]? = some X[i] := List.getElem?_eq_getElem (by omega)
    exact (h2 i _ m e3 hi).2.2 r hr
set_option maxRecDepth 100000 in
theorem open_months {H : Type} {enc : TypeId × Value → H} {w : World} {b0 base : Nat} {spare : Nat → Bool} {held : Bool} {v : Value} {d : DataW H} {ps : List MemPlace} (hsp : ∀ b, spare b = true) (hval : Value.okWide Try.prog w .any base 22 v) (h : DataW.Trod enc Try.prog w b0 spare held 22 v d ps) :
    ∃ a n cap hs ms, v = .slice a n cap ∧ MonIn w a n cap hs ms ∧ ∀ m ∈ ms, ∀ r ∈ m.rides, Ride.ok r := by
  obtain ⟨a, n, cap, X, rfl, hsl, hok⟩ := open_sl (c := MH.cod) (ok := MHok w) Try.underlying22 (by kernel_rfl) (fun n cs y hy => month_opened hsp n cs y hy) hval h
  obtain ⟨hs, ms, h1, h2⟩ := monIn_of hsl hok
  exact ⟨a, n, cap, hs, ms, rfl, h1, h2⟩
end Go.Proofs.Ytbdkhgenkekioaa
