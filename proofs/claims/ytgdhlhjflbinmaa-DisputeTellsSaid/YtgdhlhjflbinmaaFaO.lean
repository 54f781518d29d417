/- Fares: bills held against one another; which tariffs a play goes through with. -/
import Derived.Test.YtgdhlhjflbinmaaFaL
namespace Go.Proofs.Ytgdhlhjflbinmaa
open Go.RowKit Go.V Go.Proofs

/-- The bill's groups, as they read. -/
structure BillIn (w : World) (a : Option Addr) (n cap : Nat) (hs : List GH) (gs : List Grp) : Prop where
  hd : Sl GH.cod w a n cap hs
  len : hs.length = gs.length
  each : ∀ (i : Nat) (h : GH) (g : Grp), hs[i]? = some h → gs[i]? = some g → Sl icod w h.h.a h.h.n h.h.cap g.trips ∧ h.far = g.far ∧ h.price = g.price
theorem BillIn.below {w w' : World} {a : Option Addr} {n cap : Nat} {hs : List GH} {gs : List Grp} (h : BillIn w a n cap hs gs) (hb : Below w.heap.size w w') : BillIn w' a n cap hs gs :=
  ⟨h.hd.below hb, h.len, fun i x g h1 h2 => ⟨(h.each i x g h1 h2).1.below hb, (h.each i x g h1 h2).2⟩⟩
theorem BillIn.n_eq {w : World} {a : Option Addr} {n cap : Nat} {hs : List GH} {gs : List Grp} (h : BillIn w a n cap hs gs) : n = gs.length := by rw [h.hd.hlen, h.len]
theorem BillIn.at {w : World} {a : Option Addr} {n cap : Nat} {hs : List GH} {gs : List Grp} (h : BillIn w a n cap hs gs) {i : Nat} (hi : i < n) : ∃ b off at_ ct g, a = some ⟨b, off, none⟩ ∧ b < w.heap.size ∧ gs[i]? = some g ∧ w.cell? ⟨b, off + i * 3, none⟩ = some (.slice at_ g.trips.length ct) ∧ w.cell? ⟨b, off + i * 3 + 1, none⟩ = some (.int .i64 g.far) ∧ w.cell? ⟨b, off + i * 3 + 2, none⟩ = some (.int .i64 g.price) ∧ Sl icod w at_ g.trips.length ct g.trips := by
  obtain ⟨b, off, rfl, hb, x, hx, hc⟩ := h.hd.some hi
  have hg : i < gs.length := by rw [← h.n_eq]; exact hi
  obtain ⟨k1, k2, k3⟩ := h.each i x gs[i] hx (List.getElem?_eq_getElem hg)
  have hl := k1.hlen
  refine ⟨b, off, x.h.a, x.h.cap, gs[i], rfl, hb, List.getElem?_eq_getElem hg, ?_, ?_, ?_, by rw [← hl]; exact k1⟩
  · have := hc 0 _ rfl; rw [hl] at this; exact this
  · have := hc 1 _ rfl; rw [k2] at this; exact this
  · have := hc 2 _ rfl; rw [k3] at this; exact this
theorem BillR.billIn {base : Nat} {w : World} {v : Value} {gs : List Grp} {sum pay : Int} (h : BillR base w v gs sum pay) : ∃ a cap hs, v = .agg #[.slice a gs.length cap, .int .i64 sum, .int .i64 pay] ∧ BillIn w a gs.length cap hs gs := by
  obtain ⟨a, n, cap, hs, rfl, ho⟩ := h
  obtain ⟨a', cap', e, hsl⟩ := ho.slice
  cases e
  refine ⟨a, cap, hs, rfl, hsl, ho.len, fun i x g h1 h2 => ?_⟩
  obtain ⟨k1, k2⟩ := ho.each i x g h1 h2
  obtain ⟨a', c', e, hs', -⟩ := k1.slice
  obtain ⟨⟨u, v, z⟩, fa, pr⟩ := x
  simp only [Hdr.val, Value.slice.injEq] at e
  obtain ⟨rfl, rfl, rfl⟩ := e
  exact ⟨hs', k2⟩

theorem box_belowN {w : World} {g : Nat} {ob : Obj} (h : w.heap[g]? = some ob) (k : Nat) : (w.drewN k).heap[g]? = some ob := h

end Go.Proofs.Ytgdhlhjflbinmaa
