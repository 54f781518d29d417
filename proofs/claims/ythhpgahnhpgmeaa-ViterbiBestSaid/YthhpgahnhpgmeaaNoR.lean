/- Costs: a weighing and a play, opened. -/
import Derived.Test.YthhpgahnhpgmeaaNoD
import Derived.Test.YthhpgahnhpgmeaaNeN
namespace Go.Proofs.Ythhpgahnhpgmeaa.Ne
open Go.RowKit Go.V Go.Proofs Go.ChangeShapes Go.WideShapes Go.ChangeAt

theorem list4 {α : Type} {l : List α} (h : l.length = 4) : ∃ a b c d, l = [a, b, c, d] := by
  match l, h with
  | [a, b, c, d], _ => exact ⟨a, b, c, d, rfl⟩
/-- A slice within an argument: nothing is known of it but what can be read. -/
theorem trod_slQ {α : Type} {c : Cod α} {H : Type} {enc : TypeId × Value → H} {P : Program} {w : World} {b0 : Nat} {spare : Nat → Bool} {held : Bool} {t e : TypeId} {n : Nat} {cs : List Value} {y : DataW H × List MemPlace} (ht : P.underlying t = some (.slice e)) (hc : P.cellsOf e = c.k) (hk : 0 < c.k)
    (hel : ∀ n cs y, DataW.trod enc P w b0 spare held n e cs = some y → ∃ x, cs = c.enc x) (h : DataW.trod enc P w b0 spare held n t cs = some y) : ∃ x : Hdr, cs = [.slice x.a x.n x.cap] ∧ ∃ xs, SlQ c w x.a x.n x.cap xs := by
  rcases Go.Deep.open_slice ht h with ⟨hcs, _⟩ | ⟨d, n, cap, m, _, D, Pl, hcs, -, hl, hm, hmm, -, hx⟩
  · exact ⟨⟨none, 0, 0⟩, hcs, [], rfl, Nat.le_refl _, Nat.zero_le _, fun h => absurd h (Nat.lt_irrefl 0)⟩
  · refine ⟨⟨some d, n, cap⟩, hcs, ?_⟩
    by_cases h0 : n = 0
    · subst h0
      exact ⟨[], rfl, hl, hm, fun h => absurd h (Nat.lt_irrefl 0)⟩
    have hle : n ≤ m := by rw [hmm]; split <;> omega
    obtain ⟨cs0, h1, h2⟩ := hx 0 (by omega)
    obtain ⟨x0, rfl⟩ := hel _ _ _ h2
    obtain ⟨_, hl0, h4⟩ := World.cells?_some h1
    have h5 := h4 0 (by rw [hc]; exact hk)
    have h6 : ∃ u, (c.enc x0)[0]? = some u := ⟨_, List.getElem?_eq_getElem (by rw [c.len]; exact hk)⟩
    obtain ⟨u0, hu0⟩ := h6
    rw [hu0] at h5
    obtain ⟨b, off, sp⟩ := d
    have hs : sp = none := by simpa [Addr.add] using World.cell?_spot h5
    subst hs
    have hb : b < w.heap.size := by have := World.block_lt_of_cell? w _ h5; simpa [Addr.add] using this
    have hx' : ∀ i, i < n → ∃ x, ∀ j u, (c.enc x)[j]? = some u → w.cell? ⟨b, off + i * c.k + j, none⟩ = some u := by
      intro i hi
      obtain ⟨cs', h1, h2⟩ := hx i (by omega)
      obtain ⟨x, rfl⟩ := hel _ _ _ h2
      refine ⟨x, fun j u hu => ?_⟩
      have hj : j < c.k := by rw [← c.len x]; exact (List.getElem?_eq_some_iff.1 hu).1
      rw [hc, add_addr] at h1
      obtain ⟨_, _, h4⟩ := World.cells?_some h1
      have h5 := h4 j (by simpa [hc] using hj)
      rw [add_addr] at h5
      rw [h5]; exact hu
    obtain ⟨xs, hl1, hl2⟩ := list_of n hx'
    refine ⟨xs, hl1.symm, hl, hm, fun _ => ⟨hl1.symm, hl, hm, (fun hd => nomatch hd), fun d hd _ => ?_⟩⟩
    simp at hd; subst hd
    refine ⟨rfl, hb, fun j u hu => ?_⟩
    have hj : j < n * c.k := by have := (List.getElem?_eq_some_iff.1 hu).1; rw [flat_len, hl1] at this; exact this
    have f1 := flat_get c xs (j / c.k) (j % c.k) (Nat.mod_lt _ hk)
    have f3 : j / c.k * c.k + j % c.k = j := by rw [Nat.mul_comm]; exact Nat.div_add_mod j c.k
    rw [f3, hu] at f1
    obtain ⟨x, g1, g2⟩ := Option.bind_eq_some_iff.1 f1.symm
    have := hl2 _ _ g1 _ _ g2
    show w.cell? ⟨b, off + j, none⟩ = _
    rw [Nat.add_assoc, f3] at this
    exact this

theorem pnt_opened {H : Type} {enc : TypeId × Value → H} {w : World} {b0 : Nat} {spare : Nat → Bool} {held : Bool} (n : Nat) (cs : List Value) (y : DataW H × List MemPlace) (h : DataW.trod enc Try.prog w b0 spare held n 101 cs = some y) : ∃ x, cs = pcod.enc x := by
  obtain ⟨y0, y1, m, rfl, hl, k0, k1⟩ := trod_struct2 Try.underlying101 h
  have hc : Try.prog.cellsOf 3 = 1 := by kernel_rfl
  have hl' : cs.length = 2 := by rw [hl]; kernel_rfl
  obtain ⟨v0, v1, rfl⟩ := list2 hl'
  rw [hc] at k0 k1
  obtain ⟨n0, e0, -, w0⟩ := DataW.trod_int Try.underlying3 k0
  obtain ⟨n1, e1, -, w1⟩ := DataW.trod_int Try.underlying3 k1
  simp at e0 e1
  subst e0; subst e1
  exact ⟨⟨n0, n1⟩, rfl⟩

set_option maxRecDepth 100000 in
theorem open_wgh {H : Type} {enc : TypeId × Value → H} {w : World} {b0 base : Nat} {spare : Nat → Bool} {held : Bool} {v : Value} {d : DataW H} {ps : List MemPlace} (hval : Value.okWide Try.prog w .any base 48 v) (h : DataW.Trod enc Try.prog w b0 spare held 48 v d ps) : ∃ x : Wgh, v = x.val := by
  simp only [Value.okWide, Try.underlying48] at hval
  obtain ⟨cs, rfl, hsz, -⟩ := hval
  obtain ⟨fuel, hf⟩ := h
  obtain ⟨xs, m, -, -, hl, hxl, hx⟩ := DataW.trod_struct Try.underlying48 hf
  have hc4 : Try.prog.cellsOf 48 = 4 := by kernel_rfl
  have hc1 : Try.prog.cellsOf 3 = 1 := by kernel_rfl
  obtain ⟨l⟩ := cs
  rw [hc4] at hsz
  obtain ⟨v0, v1, v2, v3, rfl⟩ := list4 (l := l) (by simpa using hsz)
  have hx4 : xs.length = 4 := by rw [hxl]; rfl
  obtain ⟨y0, y1, y2, y3, rfl⟩ := list4 hx4
  have g0 := hx 0 _ rfl
  have g1 := hx 1 _ rfl
  have g2 := hx 2 _ rfl
  have g3 := hx 3 _ rfl
  simp [Value.cells, hc1] at g0 g1 g2 g3
  obtain ⟨n0, e0, -, -⟩ := DataW.trod_int Try.underlying3 g0
  obtain ⟨n1, e1, -, -⟩ := DataW.trod_int Try.underlying3 g1
  obtain ⟨n2, e2, -, -⟩ := DataW.trod_int Try.underlying3 g2
  obtain ⟨n3, e3, -, -⟩ := DataW.trod_int Try.underlying3 g3
  simp at e0 e1 e2 e3
  subst e0; subst e1; subst e2; subst e3
  exact ⟨⟨n0, n1, n2, n3⟩, rfl⟩

set_option maxRecDepth 100000 in
theorem open_pts {H : Type} {enc : TypeId × Value → H} {w : World} {b0 base : Nat} {spare : Nat → Bool} {held : Bool} {v : Value} {d : DataW H} {ps : List MemPlace} (hval : Value.okWide Try.prog w .any base 49 v) (h : DataW.Trod enc Try.prog w b0 spare held 49 v d ps) :
    ∃ (hp : Hdr) (gs : List (List Pnt)), v = .slice hp.a hp.n hp.cap ∧ PtsIn w hp.a hp.n hp.cap gs := by
  obtain ⟨a0, m0, p0, l0, rfl, s0, o0⟩ := open_sl (c := hcod) (ok := fun x : Hdr => ∃ g, SlQ pcod w x.a x.n x.cap g) Try.underlying49 (by kernel_rfl) (fun n cs y hh => trod_slQ Try.underlying102 (by kernel_rfl) (by decide) (fun n cs y => pnt_opened n cs y) hh) hval h
  obtain ⟨gs, hg1, hg2⟩ := list_of (p := fun i g => ∀ x : Hdr, l0[i]? = some x → SlQ pcod w x.a x.n x.cap g) l0.length (fun i hi => by
    obtain ⟨g, hg⟩ := o0 (l0[i]) (List.getElem_mem hi)
    refine ⟨g, fun x hx => ?_⟩
    rw [List.getElem?_eq_getElem hi] at hx
    cases hx
    exact hg)
  exact ⟨⟨a0, m0, p0⟩, gs, rfl, ⟨l0, s0.q, hg1.symm, fun i x g hx hg => hg2 i g hg x hx⟩⟩

end Go.Proofs.Ythhpgahnhpgmeaa.Ne
