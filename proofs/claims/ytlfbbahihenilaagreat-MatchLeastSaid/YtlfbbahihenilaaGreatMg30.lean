/- Ways: the chapter's example: walked. -/
/- How an argument is opened: a slice of things that are always so many cells. -/
/- Networks: a network argument, opened. -/
/- Candidates: a weighing and samples, opened. -/
/- Ways: rules, opened. -/
import Derived.Test.YtlfbbahihenilaaGreatMhMtS
import Derived.Test.YtlfbbahihenilaaGreatMg28
import Derived.Test.YtlfbbahihenilaaGreatMg00
import Derived.ProofKit
import Derived.OpenShut
import Derived.ShutString
import Derived.ChangeOld
import Derived.Below
import Derived.Deep.Slices
import Derived.Lib.SmallJoins
import Derived.Test.YtlfbbahihenilaaGreatMg02
import Derived.Test.YtlfbbahihenilaaGreatMg05
namespace Go.Proofs.YtlfbbahihenilaaGreat.Ne
open Go.RowKit Go.V Go.Proofs

def mwNet : Net := ⟨1, [⟨5, 5⟩], []⟩
def mwR : Rul := ⟨⟨100, 0⟩, ⟨50, 3, 1, 0⟩, 30⟩
def mwL : List Smp := [⟨3, 5, 5⟩]
theorem mwRow : rowE mwNet mwR.x ⟨3, 5, 5⟩ = [⟨0, 0⟩] := by
  have hg : GoodL ⟨5, 5⟩ mwNet.stops 2500 [⟨0, 0⟩] := by
    refine ⟨by decide, fun f => ?_⟩
    constructor
    · intro hf
      rcases List.mem_cons.1 hf with rfl | hf
      · exact ⟨0, by decide, by decide, by decide⟩
      · cases hf
    · rintro ⟨k, hk, rfl, -⟩
      have hk : k < 1 := hk
      obtain rfl : k = 0 := by omega
      exact List.mem_cons.2 (.inl (by decide))
  have hs : List.Pairwise ltF [(⟨0, 0⟩ : Fnd)] := List.pairwise_singleton _ _
  unfold rowE ptsE
  have e := near_uniq hg hs
  show (nearF ⟨5, 5⟩ mwNet.stops 2500).take 3 = _
  rw [← e]
  rfl
theorem mwErr : allErr mwNet mwR.x mwL = 0 := by
  refine allErr_ok (by decide) (by decide) (by decide) (by decide) ?_
  intro s hs
  have : s = ⟨3, 5, 5⟩ := by
    rcases List.mem_cons.1 hs with e | e
    · exact e
    · cases e
  subst this
  rw [mwRow]
  decide
theorem mwRows : rowsE mwNet mwR.x mwL = [[⟨0, 0⟩]] := by
  unfold rowsE mwL
  rw [List.map_cons, List.map_nil, mwRow]
  rfl
theorem mwWay : trE mwNet 1 mwR mwL = ⟨0, [0], 0, [⟨0, 3, 3⟩], []⟩ := by
  have hk : keepE mwR.f mwL = mwL := rfl
  unfold trE
  rw [hk, if_neg (by decide), if_neg (by decide), if_neg (by decide), if_neg (fun h => h mwErr), mwRows]
  have hg : goE (stepE mwNet 1 mwR.x) [[⟨0, 0⟩]] none = some [0] := rfl
  rw [hg]
  rfl
set_option maxHeartbeats 2000000 in
set_option maxRecDepth 100000 in
theorem plain26_any (w : World) : Calls Tryz.prog 20 #[] w fun e w' => e = .returned mwR.val ∧ Below w.heap.size w w' := by
  go_enter Tryz.func20, Tryz.ntmps20
  go_wp2_with fail
  exact bodyPost_ret (results_cell_row rfl _ _ w.heap.size _ _ _ _ rfl (box_new w _) Tryz.underlying31 rfl (by kernel_rfl)) rfl ⟨rfl, (Below.refl _ _).alloc (Nat.le_refl _) _⟩
set_option maxHeartbeats 4000000 in
set_option maxRecDepth 100000 in
theorem awake26_any (w : World) : Calls Tryz.prog 6 #[] w fun e w' => e = .returned (.bool true) ∧ Below w.heap.size w w' := by
  have hst : ∀ V : World, Sl Stp.cod (V.alloc (.cells #[.int .i64 5, .int .i64 5] 70)) (some ⟨V.heap.size, 0, none⟩) 1 1 mwNet.stops := fun V => sl_new (c := Stp.cod) V #[.int .i64 5, .int .i64 5] 70 mwNet.stops 1 rfl (by unfold maxLen; omega) rfl
  have hsm : ∀ V : World, Sl Smp.cod (V.alloc (.cells #[.int .i64 3, .int .i64 5, .int .i64 5] 73)) (some ⟨V.heap.size, 0, none⟩) 1 1 mwL := fun V => sl_new (c := Smp.cod) V #[.int .i64 3, .int .i64 5, .int .i64 5] 73 mwL 1 rfl (by unfold maxLen; omega) rfl
  have HS := Lib.hid hst
  have HM := Lib.hid hsm
  clear hst hsm
  have hb0 : Below w.heap.size w (w.alloc (.cells #[.int .i64 5, .int .i64 5] 70)) := (Below.refl _ _).alloc (Nat.le_refl _) _
  have HB0 := Lib.hid hb0
  clear hb0
  have HMT : Hid (∀ (V : World), Below (w.alloc (.cells #[.int .i64 5, .int .i64 5] 70)).heap.size (w.alloc (.cells #[.int .i64 5, .int .i64 5] 70)) V → Calls Tryz.prog 8 #[mwNet.val ⟨some ⟨w.heap.size, 0, none⟩, 1, 1⟩ ⟨none, 0, 0⟩, mwR.val, .slice (some ⟨V.heap.size, 0, none⟩) 1 1] (V.alloc (.cells #[.int .i64 3, .int .i64 5, .int .i64 5] 73)) fun e w' => ∃ (s rr lg : Hdr), e = .returned (.tuple #[.agg #[.slice s.a s.n s.cap, .int .i64 0, .slice rr.a 1 rr.cap, .slice lg.a 0 lg.cap], .int .i64 0]) ∧ Below V.heap.size V w') := fun V hV => by
    have hb1 : Below V.heap.size V (V.alloc (.cells #[.int .i64 3, .int .i64 5, .int .i64 5] 73)) := (Below.refl _ _).alloc (Nat.le_refl _) _
    refine (mtch_any mwNet ⟨some ⟨w.heap.size, 0, none⟩, 1, 1⟩ ⟨none, 0, 0⟩ mwR (some ⟨V.heap.size, 0, none⟩) 1 1 mwL _ ⟨((HS.out w).below hV).below hb1, sl_nil _ _⟩ ⟨show (1 : Nat) ≤ 60 by omega, Nat.zero_le _⟩ (by omega) (HM.out V)).mono ?_
    rintro e w' ⟨s, rr, lg, rfl, ho, hb⟩
    rw [show trE mwNet (Hdr.mk (some ⟨w.heap.size, 0, none⟩) 1 1).n mwR mwL = ⟨0, [0], 0, [⟨0, 3, 3⟩], []⟩ from mwWay] at ho ⊢
    have h1 : rr.n = 1 := (own_sl ho.r).hlen
    have h2 : lg.n = 0 := (own_sl ho.l).hlen
    refine ⟨s, rr, lg, ?_, hb1.trans (hb.mono hb1.size)⟩
    rw [← h1, ← h2]
  go_enter Tryz.func6, Tryz.ntmps6
  go_wp2_with (first
    | (go_at_call 20; go_fit (plain26_any _); rintro e w1 ⟨rfl, hb1⟩; have HB1 := Lib.hid hb1; clear hb1)
    | (go_at_call 8; go_fit (HMT.out _ HB1.out); rintro e w2 ⟨s, rr, lg, rfl, hb2⟩; have HB2 := Lib.hid hb2; have HX2 := Lib.hid (box_new w2 (.cells #[.slice s.a s.n s.cap, .int .i64 0, .slice rr.a 1 rr.cap, .slice lg.a 0 lg.cap] 39)); obtain ⟨x0, x1, x2, x3⟩ := box4w_cells HX2.out; clear hb2))
  go_ret
  exact ⟨rfl, (HB0.out.trans ((HB1.out.trans (HB2.out.mono HB1.out.size)).mono HB0.out.size)).alloc (by have := HB0.out.size; have := HB1.out.size; have := HB2.out.size; omega) _⟩
end Go.Proofs.YtlfbbahihenilaaGreat.Ne

namespace Go.V
open Go.RowKit Go.ChangeShapes Go.WideShapes Go.ChangeAt

theorem add_addr' (b off j : Nat) : (⟨b, off, none⟩ : Addr).add j = ⟨b, off + j, none⟩ := add_addr b off j

/-- A slice argument's address, as it must be. -/
theorem okWide_addr {P : Program} {w : World} {r : Reach} {base : Nat} {t e : TypeId} {d : Addr} {n cap : Nat} (ht : P.underlying t = some (.slice e)) (h : Value.okWide P w r base t (.slice (some d) n cap)) : d.spot = none ∧ d.block < w.heap.size := by
  simp only [Value.okWide, ht, Cell.okWide, Cell.ok, World.has] at h
  obtain ⟨-, -, -, h1, row, cells, h2, -⟩ := h
  refine ⟨h1, ?_⟩
  unfold World.shape? at h2
  split at h2
  · next hh => exact (Array.getElem?_eq_some_iff.1 hh).1
  · cases h2

theorem list_of {α : Type} {p : Nat → α → Prop} : ∀ n, (∀ i, i < n → ∃ x, p i x) → ∃ xs : List α, xs.length = n ∧ ∀ i x, xs[i]? = some x → p i x
  | 0, _ => ⟨[], rfl, fun i x hx => by simp at hx⟩
  | n + 1, h => by
    obtain ⟨xs, h1, h2⟩ := list_of n (fun i hi => h i (by omega))
    obtain ⟨x, hx⟩ := h n (by omega)
    refine ⟨xs ++ [x], by simp [h1], fun i y hy => ?_⟩
    by_cases hi : i < n
    · rw [List.getElem?_append_left (by omega)] at hy; exact h2 i y hy
    · have hl := (List.getElem?_eq_some_iff.1 hy).1
      simp at hl
      have : i = n := by omega
      subst this
      rw [List.getElem?_append_right (by omega)] at hy
      simp [h1] at hy; subst hy; exact hx

theorem open_sl {α : Type} {c : Cod α} {ok : α → Prop} {H : Type} {enc : TypeId × Value → H} {P : Program} {w : World} {b0 base : Nat} {spare : Nat → Bool} {held : Bool} {t e : TypeId} {v : Value} {d : DataW H} {ps : List MemPlace} (ht : P.underlying t = some (.slice e)) (hc : P.cellsOf e = c.k)
    (hel : ∀ n cs y, DataW.trod enc P w b0 spare held n e cs = some y → ∃ x, cs = c.enc x ∧ ok x)
    (hval : Value.okWide P w .any base t v) (h : DataW.Trod enc P w b0 spare held t v d ps) : ∃ a n cap xs, v = .slice a n cap ∧ Sl c w a n cap xs ∧ ∀ x ∈ xs, ok x := by
  obtain ⟨a, n, cap, rfl⟩ := okWide_slice ht hval
  obtain ⟨fuel, hf⟩ := h
  rcases Go.Deep.open_slice ht hf with ⟨hcs, _⟩ | ⟨d, n', cap', m, _, D, Pl, hcs, -, hl, hm, hmm, -, hx⟩
  · simp [Value.cells] at hcs
    obtain ⟨rfl, rfl, rfl⟩ := hcs
    exact ⟨none, 0, 0, [], rfl, ⟨rfl, Nat.le_refl _, by unfold maxLen; omega, fun _ => ⟨rfl, rfl⟩, fun d hd => nomatch hd⟩, fun x hx => by simp at hx⟩
  · simp [Value.cells] at hcs
    obtain ⟨rfl, rfl, rfl⟩ := hcs
    obtain ⟨hs, hb⟩ := okWide_addr ht hval
    obtain ⟨b, off, sp⟩ := d
    change sp = none at hs
    subst hs
    have hle : n ≤ m := by rw [hmm]; split <;> omega
    have hx' : ∀ i, i < n → ∃ x, ok x ∧ ∀ j u, (c.enc x)[j]? = some u → w.cell? ⟨b, off + i * c.k + j, none⟩ = some u := by
      intro i hi
      obtain ⟨cs', h1, h2⟩ := hx i (by omega)
      obtain ⟨x, rfl, hok⟩ := hel _ _ _ h2
      refine ⟨x, hok, fun j u hu => ?_⟩
      have hj : j < c.k := by rw [← c.len x]; exact (List.getElem?_eq_some_iff.1 hu).1
      rw [hc, add_addr] at h1
      obtain ⟨_, _, h4⟩ := World.cells?_some h1
      have h5 := h4 j (by simpa [hc] using hj)
      rw [add_addr] at h5
      rw [h5]; exact hu
    obtain ⟨xs, hl1, hl2⟩ := list_of n hx'
    refine ⟨some ⟨b, off, none⟩, n, cap, xs, rfl, ⟨hl1.symm, hl, hm, (fun hd => nomatch hd), fun d hd _ => ?_⟩, fun x hx => ?_⟩
    · simp at hd; subst hd
      refine ⟨rfl, hb, fun j u hu => ?_⟩
      have hj : j < n * c.k := by have := (List.getElem?_eq_some_iff.1 hu).1; rw [flat_len, hl1] at this; exact this
      have hk : 0 < c.k := by rcases Nat.eq_zero_or_pos c.k with e | e; rw [e] at hj; omega; exact e
      have f1 := flat_get c xs (j / c.k) (j % c.k) (Nat.mod_lt _ hk)
      have f3 : j / c.k * c.k + j % c.k = j := by rw [Nat.mul_comm]; exact Nat.div_add_mod j c.k
      rw [f3, hu] at f1
      obtain ⟨x, g1, g2⟩ := Option.bind_eq_some_iff.1 f1.symm
      have := (hl2 _ _ g1).2 _ _ g2
      show w.cell? ⟨b, off + j, none⟩ = _
      rw [Nat.add_assoc, f3] at this
      exact this
    · obtain ⟨i, hi⟩ := List.mem_iff_getElem?.1 hx
      exact (hl2 i x hi).1
/-- An array of two numbers. -/
theorem open_i2 {H : Type} {enc : TypeId × Value → H} {P : Program} {w : World} {b0 base : Nat} {spare : Nat → Bool} {held : Bool} {t e : TypeId} {v : Value} {d : DataW H} {ps : List MemPlace} (ht : P.underlying t = some (.array 2 e)) (he : P.underlying e = some (.int .i64)) (hc : P.cellsOf t = 2) (hc1 : P.cellsOf e = 1)
    (hval : Value.okWide P w .any base t v) (h : DataW.Trod enc P w b0 spare held t v d ps) : ∃ p q : Int, v = .agg #[.int .i64 p, .int .i64 q] := by
  simp only [Value.okWide, ht] at hval
  obtain ⟨cs, rfl, hs, -⟩ := hval
  obtain ⟨fuel, hf⟩ := h
  obtain ⟨xs, m, -, -, hl, hxl, hx⟩ := DataW.trod_array ht hf
  obtain ⟨l⟩ := cs
  rw [hc] at hs
  match l, hs with
  | [v0, v1], _ =>
    have h0 := hx 0 (by omega)
    have h1 := hx 1 (by omega)
    match xs, hxl with
    | [y0, y1], _ =>
      simp [Value.cells, hc1] at h0 h1
      obtain ⟨n0, e0, -, w0⟩ := DataW.trod_int he h0
      obtain ⟨n1, e1, -, w1⟩ := DataW.trod_int he h1
      simp at e0 e1
      subst e0; subst e1
      exact ⟨n0, n1, rfl⟩
end Go.V

namespace Go.Proofs.YtlfbbahihenilaaGreat.Ne
open Go.RowKit Go.V Go.Proofs Go.ChangeShapes Go.WideShapes Go.ChangeAt

theorem list2 {α : Type} {l : List α} (h : l.length = 2) : ∃ a b, l = [a, b] := by
  match l, h with
  | [a, b], _ => exact ⟨a, b, rfl⟩
theorem list3 {α : Type} {l : List α} (h : l.length = 3) : ∃ a b c, l = [a, b, c] := by
  match l, h with
  | [a, b, c], _ => exact ⟨a, b, c, rfl⟩

theorem stp_opened {H : Type} {enc : TypeId × Value → H} {w : World} {b0 : Nat} {spare : Nat → Bool} {held : Bool} (n : Nat) (cs : List Value) (y : DataW H × List MemPlace) (h : DataW.trod enc Tryz.prog w b0 spare held n 70 cs = some y) : ∃ x, cs = Stp.cod.enc x ∧ Stp.ok x := by
  obtain ⟨y0, y1, m, rfl, hl, k0, k1⟩ := trod_struct2 Tryz.underlying70 h
  have hc : Tryz.prog.cellsOf 3 = 1 := by kernel_rfl
  have hl' : cs.length = 2 := by rw [hl]; kernel_rfl
  obtain ⟨v0, v1, rfl⟩ := list2 hl'
  rw [hc] at k0 k1
  obtain ⟨n0, e0, -, w0⟩ := DataW.trod_int Tryz.underlying3 k0
  obtain ⟨n1, e1, -, w1⟩ := DataW.trod_int Tryz.underlying3 k1
  simp at e0 e1
  subst e0; subst e1
  exact ⟨⟨n0, n1⟩, rfl, w0, w1⟩
theorem lnk_opened {H : Type} {enc : TypeId × Value → H} {w : World} {b0 : Nat} {spare : Nat → Bool} {held : Bool} (n : Nat) (cs : List Value) (y : DataW H × List MemPlace) (h : DataW.trod enc Tryz.prog w b0 spare held n 121 cs = some y) : ∃ x, cs = lcod.enc x ∧ lok x := by
  obtain ⟨xs, m, -, rfl, hl, hlen, hf⟩ := DataW.trod_struct Tryz.underlying121 h
  have hc : Tryz.prog.cellsOf 3 = 1 := by kernel_rfl
  have hl' : cs.length = 3 := by rw [hl]; kernel_rfl
  obtain ⟨v0, v1, v2, rfl⟩ := list3 hl'
  have hx3 : xs.length = 3 := by rw [hlen]; rfl
  obtain ⟨y0, y1, y2, rfl⟩ := list3 hx3
  have k0 := hf 0 _ rfl
  have k1 := hf 1 _ rfl
  have k2 := hf 2 _ rfl
  simp [hc] at k0 k1 k2
  obtain ⟨n0, e0, -, w0⟩ := DataW.trod_int Tryz.underlying3 k0
  obtain ⟨n1, e1, -, w1⟩ := DataW.trod_int Tryz.underlying3 k1
  obtain ⟨n2, e2, -, w2⟩ := DataW.trod_int Tryz.underlying3 k2
  simp at e0 e1 e2
  subst e0; subst e1; subst e2
  exact ⟨⟨n0, n1, n2⟩, rfl, w0, w1, w2⟩
theorem int_opened {H : Type} {enc : TypeId × Value → H} {w : World} {b0 : Nat} {spare : Nat → Bool} {held : Bool} (n : Nat) (cs : List Value) (y : DataW H × List MemPlace) (h : DataW.trod enc Tryz.prog w b0 spare held n 3 cs = some y) : ∃ x, cs = icod.enc x ∧ Iok x := by
  obtain ⟨n0, e0, -, w0⟩ := DataW.trod_int Tryz.underlying3 h
  exact ⟨n0, e0, w0⟩
theorem slice_val {P : Program} {w : World} {r : Reach} {base : Nat} {u e : TypeId} {v : Value} (hu : P.underlying u = some (.slice e)) (h : Cell.okWide P w r base u v) : Value.okWide P w r base u v := by
  simp only [Value.okWide, hu]; exact h

set_option maxRecDepth 100000 in
theorem open_net {H : Type} {enc : TypeId × Value → H} {w : World} {b0 base : Nat} {spare : Nat → Bool} {held : Bool} {v : Value} {d : DataW H} {ps : List MemPlace} (hval : Value.okWide Tryz.prog w .any base 25 v) (h : DataW.Trod enc Tryz.prog w b0 spare held 25 v d ps) :
    ∃ (n : Net) (hs hl : Hdr), v = n.val hs hl ∧ NetIn w n hs hl ∧ Iok n.ver ∧ (∀ s ∈ n.stops, Stp.ok s) ∧ ∀ l ∈ n.links, lok l := by
  simp only [Value.okWide, Tryz.underlying25] at hval
  obtain ⟨cs, rfl, hsz, ts, hts, -, hcell⟩ := hval
  obtain ⟨fuel, hf⟩ := h
  obtain ⟨xs, m, -, -, hl, hxl, hx⟩ := DataW.trod_struct Tryz.underlying25 hf
  have hc3 : Tryz.prog.cellsOf 25 = 3 := by kernel_rfl
  have hts' : Tryz.prog.cellTypes Tryz.prog.depth 25 = some [3, 22, 23] := by kernel_rfl
  rw [hts'] at hts
  cases hts
  have hc1 : Tryz.prog.cellsOf 3 = 1 := by kernel_rfl
  have hcs : Tryz.prog.cellsOf 22 = 1 := by kernel_rfl
  have hcl : Tryz.prog.cellsOf 23 = 1 := by kernel_rfl
  obtain ⟨l⟩ := cs
  rw [hc3] at hsz
  obtain ⟨v0, v1, v2, rfl⟩ := list3 (l := l) (by simpa using hsz)
  have hx3 : xs.length = 3 := by rw [hxl]; rfl
  obtain ⟨y0, y1, y2, rfl⟩ := list3 hx3
  have g0 := hx 0 _ rfl
  have g1 := hx 1 _ rfl
  have g2 := hx 2 _ rfl
  simp [Value.cells, hc1, hcs, hcl] at g0 g1 g2
  have k1 : Value.okWide Tryz.prog w .any base 22 v1 := by
    obtain ⟨u, hu, hk⟩ := hcell 1 v1 rfl
    cases hu
    exact slice_val Tryz.underlying22 hk
  have k2 : Value.okWide Tryz.prog w .any base 23 v2 := by
    obtain ⟨u, hu, hk⟩ := hcell 2 v2 rfl
    cases hu
    exact slice_val Tryz.underlying23 hk
  obtain ⟨n0, e0, -, w0⟩ := DataW.trod_int Tryz.underlying3 g0
  simp at e0
  subst e0
  obtain ⟨a1, m1, p1, l1, rfl, s1, o1⟩ := open_sl (c := Stp.cod) (ok := Stp.ok) (d := y1.1) (ps := y1.2) Tryz.underlying22 (by kernel_rfl) (fun n cs y => stp_opened n cs y) k1 ⟨m, by obtain ⟨a, n, c, rfl⟩ := okWide_slice Tryz.underlying22 k1; exact g1⟩
  obtain ⟨a2, m2, p2, l2, rfl, s2, o2⟩ := open_sl (c := lcod) (ok := lok) (d := y2.1) (ps := y2.2) Tryz.underlying23 (by kernel_rfl) (fun n cs y => lnk_opened n cs y) k2 ⟨m, by obtain ⟨a, n, c, rfl⟩ := okWide_slice Tryz.underlying23 k2; exact g2⟩
  exact ⟨⟨n0, l1, l2⟩, ⟨a1, m1, p1⟩, ⟨a2, m2, p2⟩, rfl, ⟨s1, s2⟩, w0, o1, o2⟩
end Go.Proofs.YtlfbbahihenilaaGreat.Ne

namespace Go.Proofs.YtlfbbahihenilaaGreat.Ne
open Go.RowKit Go.V Go.Proofs Go.ChangeShapes Go.WideShapes Go.ChangeAt

theorem list4w {α : Type} {l : List α} (h : l.length = 4) : ∃ a b c d, l = [a, b, c, d] := by
  match l, h with
  | [a, b, c, d], _ => exact ⟨a, b, c, d, rfl⟩
set_option maxRecDepth 100000 in
theorem open_wgh {H : Type} {enc : TypeId × Value → H} {w : World} {b0 base : Nat} {spare : Nat → Bool} {held : Bool} {v : Value} {d : DataW H} {ps : List MemPlace} (hval : Value.okWide Tryz.prog w .any base 29 v) (h : DataW.Trod enc Tryz.prog w b0 spare held 29 v d ps) : ∃ x : Wgh, v = x.val := by
  simp only [Value.okWide, Tryz.underlying29] at hval
  obtain ⟨cs, rfl, hsz, -⟩ := hval
  obtain ⟨fuel, hf⟩ := h
  obtain ⟨xs, m, -, -, hl, hxl, hx⟩ := DataW.trod_struct Tryz.underlying29 hf
  have hc4 : Tryz.prog.cellsOf 29 = 4 := by kernel_rfl
  have hc1 : Tryz.prog.cellsOf 3 = 1 := by kernel_rfl
  obtain ⟨l⟩ := cs
  rw [hc4] at hsz
  obtain ⟨v0, v1, v2, v3, rfl⟩ := list4w (l := l) (by simpa using hsz)
  have hx4 : xs.length = 4 := by rw [hxl]; rfl
  obtain ⟨y0, y1, y2, y3, rfl⟩ := list4w hx4
  have g0 := hx 0 _ rfl
  have g1 := hx 1 _ rfl
  have g2 := hx 2 _ rfl
  have g3 := hx 3 _ rfl
  simp [Value.cells, hc1] at g0 g1 g2 g3
  obtain ⟨n0, e0, -, -⟩ := DataW.trod_int Tryz.underlying3 g0
  obtain ⟨n1, e1, -, -⟩ := DataW.trod_int Tryz.underlying3 g1
  obtain ⟨n2, e2, -, -⟩ := DataW.trod_int Tryz.underlying3 g2
  obtain ⟨n3, e3, -, -⟩ := DataW.trod_int Tryz.underlying3 g3
  simp at e0 e1 e2 e3
  subst e0; subst e1; subst e2; subst e3
  exact ⟨⟨n0, n1, n2, n3⟩, rfl⟩
set_option maxRecDepth 100000 in
theorem smp_opened {H : Type} {enc : TypeId × Value → H} {w : World} {b0 : Nat} {spare : Nat → Bool} {held : Bool} (n : Nat) (cs : List Value) (y : DataW H × List MemPlace) (h : DataW.trod enc Tryz.prog w b0 spare held n 73 cs = some y) : ∃ x, cs = Smp.cod.enc x ∧ Smp.ok x := by
  obtain ⟨xs, m, -, rfl, hl, hlen, hf⟩ := DataW.trod_struct Tryz.underlying73 h
  have hc : Tryz.prog.cellsOf 3 = 1 := by kernel_rfl
  have hl' : cs.length = 3 := by rw [hl]; kernel_rfl
  obtain ⟨v0, v1, v2, rfl⟩ := list3 hl'
  have hx3 : xs.length = 3 := by rw [hlen]; rfl
  obtain ⟨y0, y1, y2, rfl⟩ := list3 hx3
  have k0 := hf 0 _ rfl
  have k1 := hf 1 _ rfl
  have k2 := hf 2 _ rfl
  simp [hc] at k0 k1 k2
  obtain ⟨n0, e0, -, w0⟩ := DataW.trod_int Tryz.underlying3 k0
  obtain ⟨n1, e1, -, w1⟩ := DataW.trod_int Tryz.underlying3 k1
  obtain ⟨n2, e2, -, w2⟩ := DataW.trod_int Tryz.underlying3 k2
  simp at e0 e1 e2
  subst e0; subst e1; subst e2
  exact ⟨⟨n0, n1, n2⟩, rfl, w0, w1, w2⟩
set_option maxRecDepth 100000 in
theorem open_smp {H : Type} {enc : TypeId × Value → H} {w : World} {b0 base : Nat} {spare : Nat → Bool} {held : Bool} {v : Value} {d : DataW H} {ps : List MemPlace} (hval : Value.okWide Tryz.prog w .any base 73 v) (h : DataW.Trod enc Tryz.prog w b0 spare held 73 v d ps) : ∃ s : Smp, v = s.val := by
  simp only [Value.okWide, Tryz.underlying73] at hval
  obtain ⟨cs, rfl, hsz, -⟩ := hval
  obtain ⟨fuel, hf⟩ := h
  obtain ⟨s, e, -⟩ := smp_opened _ _ _ hf
  obtain ⟨l⟩ := cs
  have e : l = Smp.cod.enc s := by simpa [Value.cells] using e
  exact ⟨s, by rw [e]; rfl⟩
end Go.Proofs.YtlfbbahihenilaaGreat.Ne

namespace Go.Proofs.YtlfbbahihenilaaGreat.Ne
open Go.RowKit Go.V Go.Proofs Go.ChangeShapes Go.WideShapes Go.ChangeAt

theorem list7w {α : Type} {l : List α} (h : l.length = 7) : ∃ a b c d e f g, l = [a, b, c, d, e, f, g] := by
  match l, h with
  | [a, b, c, d, e, f, g], _ => exact ⟨a, b, c, d, e, f, g, rfl⟩
theorem list2w {α : Type} {l : List α} (h : l.length = 2) : ∃ a b, l = [a, b] := by
  match l, h with
  | [a, b], _ => exact ⟨a, b, rfl⟩
theorem list3w {α : Type} {l : List α} (h : l.length = 3) : ∃ a b c, l = [a, b, c] := by
  match l, h with
  | [a, b, c], _ => exact ⟨a, b, c, rfl⟩
set_option maxRecDepth 100000 in
theorem open_rul {H : Type} {enc : TypeId × Value → H} {w : World} {b0 base : Nat} {spare : Nat → Bool} {held : Bool} {v : Value} {d : DataW H} {ps : List MemPlace} (hval : Value.okWide Tryz.prog w .any base 31 v) (h : DataW.Trod enc Tryz.prog w b0 spare held 31 v d ps) : ∃ r : Rul, v = r.val := by
  simp only [Value.okWide, Tryz.underlying31] at hval
  obtain ⟨cs, rfl, hsz, -⟩ := hval
  obtain ⟨fuel, hf⟩ := h
  obtain ⟨xs, m, -, -, hl, hxl, hx⟩ := DataW.trod_struct Tryz.underlying31 hf
  have hc7 : Tryz.prog.cellsOf 31 = 7 := by kernel_rfl
  have hc1 : Tryz.prog.cellsOf 3 = 1 := by kernel_rfl
  have hc2 : Tryz.prog.cellsOf 27 = 2 := by kernel_rfl
  have hc4 : Tryz.prog.cellsOf 29 = 4 := by kernel_rfl
  obtain ⟨l⟩ := cs
  rw [hc7] at hsz
  obtain ⟨v0, v1, v2, v3, v4, v5, v6, rfl⟩ := list7w (l := l) (by simpa using hsz)
  have hx3 : xs.length = 3 := by rw [hxl]; rfl
  obtain ⟨y0, y1, y2, rfl⟩ := list3w hx3
  have g0 := hx 0 _ rfl
  have g1 := hx 1 _ rfl
  have g2 := hx 2 _ rfl
  simp [Value.cells, hc1, hc2, hc4] at g0 g1 g2
  obtain ⟨n6, e6, -, -⟩ := DataW.trod_int Tryz.underlying3 g2
  obtain ⟨zs, m0, -, -, -, hzl, hz⟩ := DataW.trod_struct Tryz.underlying27 g0
  have hz2 : zs.length = 2 := by rw [hzl]; rfl
  obtain ⟨z0, z1, rfl⟩ := list2w hz2
  have p0 := hz 0 _ rfl
  have p1 := hz 1 _ rfl
  simp [hc1] at p0 p1
  obtain ⟨n0, e0, -, -⟩ := DataW.trod_int Tryz.underlying3 p0
  obtain ⟨n1, e1, -, -⟩ := DataW.trod_int Tryz.underlying3 p1
  obtain ⟨us, m1, -, -, -, hul, hu⟩ := DataW.trod_struct Tryz.underlying29 g1
  have hu4 : us.length = 4 := by rw [hul]; rfl
  obtain ⟨u0, u1, u2, u3, rfl⟩ := list4w hu4
  have q0 := hu 0 _ rfl
  have q1 := hu 1 _ rfl
  have q2 := hu 2 _ rfl
  have q3 := hu 3 _ rfl
  simp [hc1] at q0 q1 q2 q3
  obtain ⟨n2, e2, -, -⟩ := DataW.trod_int Tryz.underlying3 q0
  obtain ⟨n3, e3, -, -⟩ := DataW.trod_int Tryz.underlying3 q1
  obtain ⟨n4, e4, -, -⟩ := DataW.trod_int Tryz.underlying3 q2
  obtain ⟨n5, e5, -, -⟩ := DataW.trod_int Tryz.underlying3 q3
  simp at e0 e1 e2 e3 e4 e5 e6
  subst e0; subst e1; subst e2; subst e3; subst e4; subst e5; subst e6
  exact ⟨⟨⟨n0, n1⟩, ⟨n2, n3, n4, n5⟩, n6⟩, rfl⟩
end Go.Proofs.YtlfbbahihenilaaGreat.Ne
