/- Networks: a table of distances: how it lies; how it is made; its simple functions, walked. -/
import Derived.Test.YteihffnmgacfpaaNeM
import Derived.Maps.OwnSet
import Derived.Maps.OwnOps
namespace Go.Proofs.Yteihffnmgacfpaa.Ne
open Go.RowKit Go.V Go.Proofs Go.Sort Go.Maps

theorem lawI3 : Maps.Keyed Try.prog 3 := Maps.int_keyed Try.underlying3
theorem zeroSI (w : World) : (zeroValue 42).run Try.prog w = .ok (.slice none 0 0) w := by kernel_rfl
/-- What a map has, as it lies. -/
def heldR (v : Value) : Option (DataW Value × List MemPlace) := some (.held v, [])
/-- A row of the distances from a. -/
def RowIn (w : World) (mg k : Nat) (L : List Lnk) (v : Value) (a : Int) : Prop :=
  0 ≤ a ∧ a < k ∧ ∃ o cap, v = .slice (some ⟨o, 0, none⟩) k cap ∧ mg < o ∧ Sl icod w (some ⟨o, 0, none⟩) k cap (bf L k a)
structure TabIn (w : World) (base tg mg N : Nat) (n : Net) (hs hl : Hdr) : Prop where
  box : w.heap[tg]? = some (.cells #[.int .i64 n.ver, .slice hs.a hs.n hs.cap, .slice hl.a hl.n hl.cap, .map (some mg)] 96 (0, 0))
  net : ∃ W0 : World, W0.heap.size = base ∧ NetIn W0 n hs hl ∧ Below W0.heap.size W0 w
  bt : base ≤ tg
  bm : base ≤ mg
  map : ∃ D, w.ownsMap Try.prog 3 heldR mg N D ∧ ∀ a : Int, Maps.has D (.int .i64 a) = true → ∃ v, D.atKey (.int .i64 a) (.held (.slice none 0 0)) = .held v ∧ RowIn w mg hs.n n.links v a
theorem TabIn.netIn {w : World} {base tg mg N : Nat} {n : Net} {hs hl : Hdr} (h : TabIn w base tg mg N n hs hl) : NetIn w n hs hl := by
  obtain ⟨W0, -, h1, h2⟩ := h.net
  exact h1.below h2
theorem grownN {w w' : World} (h : Below w.heap.size w w') : w.grownBy w' none := ⟨h.os, h.tape, h.output, h.size, fun k hk _ => h.block k hk⟩
theorem TabIn.below {w w' : World} {base tg mg N : Nat} {n : Net} {hs hl : Hdr} (h : TabIn w base tg mg N n hs hl) (hb : Below w.heap.size w w') : TabIn w' base tg mg N n hs hl := by
  obtain ⟨D, h1, h2⟩ := h.map
  obtain ⟨W0, n1, n2, n3⟩ := h.net
  refine ⟨box_below h.box hb, ⟨W0, n1, n2, n3.trans (hb.mono n3.size)⟩, h.bt, h.bm, D, h1.kept (grownN hb) (by simp), fun a ha => ?_⟩
  obtain ⟨v, e, r1, r2, o, cap, r3, r4, r5⟩ := h2 a ha
  exact ⟨v, e, r1, r2, o, cap, r3, r4, r5.below hb⟩
theorem box4_cells {w : World} {g : Nat} {e : TypeId} {u0 u1 u2 u3 : Value} (h : w.heap[g]? = some (.cells #[u0, u1, u2, u3] e (0, 0))) : w.cell? ⟨g, 0, none⟩ = some u0 ∧ w.cell? ⟨g, 1, none⟩ = some u1 ∧ w.cell? ⟨g, 2, none⟩ = some u2 ∧ w.cell? ⟨g, 3, none⟩ = some u3 :=
  ⟨(box_cell h 0).1, (box_cell h 1).1, (box_cell h 2).1, (box_cell h 3).1⟩

set_option maxHeartbeats 2000000 in
theorem tnew_any (n : Net) (hs hl : Hdr) (w : World) (hm : hs.n ≤ 1000000 ∧ hl.n ≤ 1000000) (h : NetIn w n hs hl) :
    Calls Try.prog 17 #[n.val hs hl] w fun e w' => Below w.heap.size w w' ∧ (checkE n ≠ 0 → e = .returned (.tuple #[.pointer none, .int .i64 (checkE n)])) ∧
      (checkE n = 0 → ∃ tg, e = .returned (.tuple #[.pointer (some ⟨tg, 0, none⟩), .int .i64 0]) ∧ ∃ mg, TabIn w' w.heap.size tg mg 0 n hs hl ∧ tg ≠ mg) := by
  have hmm := @run_makeMap Try.prog
  obtain ⟨sa, k, sc⟩ := hs
  obtain ⟨la, m, lc⟩ := hl
  have HH := Lib.hid h
  have HX := Lib.hid (box_new w (n.box ⟨sa, k, sc⟩ ⟨la, m, lc⟩))
  have HB0 : Hid (Below w.heap.size w (w.alloc (n.box ⟨sa, k, sc⟩ ⟨la, m, lc⟩))) := (Below.refl _ _).alloc (Nat.le_refl _) _
  have HM := Lib.hid hm
  obtain ⟨c0, c1, c2, -, -, -⟩ := box3_cells HX.out
  obtain ⟨ce, hce⟩ : ∃ ce, checkE n = ce := ⟨_, rfl⟩
  have HCE := Lib.hid hce
  clear hce hm h
  go_enter Try.func17, Try.ntmps17
  go_upto_region 2 with (go_at_call 57; refine (check_any n ⟨sa, k, sc⟩ ⟨la, m, lc⟩ _ HM.out (HH.out.below HB0.out)).mono ?_; rintro e w1 ⟨rfl, hb1⟩; rw [HCE.out]; have HB1 := Lib.hid (HB0.out.trans (hb1.mono HB0.out.size)); have HX1 := Lib.hid (box_below HX.out hb1); clear hb1)
  clear c0 c1 c2 HX HB0
  obtain ⟨c0, c1, c2, -, -, -⟩ := box3_cells HX1.out
  by_cases he : ce = 0
  case neg =>
    have e0 : (ce == 0) = false := by simpa using he
    go_wp2_with fail
    go_ret2
    exact ⟨HB1.out, fun _ => by rw [HCE.out]; rfl, fun q => absurd (HCE.out.symm.trans q) he⟩
  case pos =>
    subst he
    go_wp2_with fail
    go_ret2
    have hsz := HB1.out.size
    have hb2 : Below w1.heap.size w1 (w1.alloc (.map #[] 0)) := (Below.refl _ _).alloc (Nat.le_refl _) _
    have hb3 := hb2.alloc hb2.size (.cells #[.int .i64 n.ver, .slice sa k sc, .slice la m lc, .map (some w1.heap.size)] 96)
    refine ⟨HB1.out.trans (hb3.mono hsz), fun q => absurd HCE.out q, fun _ => ?_⟩
    refine ⟨w1.heap.size + 1, rfl, w1.heap.size, ⟨?_, ⟨w, rfl, HH.out, HB1.out.trans (hb3.mono hsz)⟩, ?_, hsz, .map [], ?_, fun a ha => ?_⟩, by omega⟩
    · have := box_new (w1.alloc (.map #[] 0)) (.cells #[.int .i64 n.ver, .slice sa k sc, .slice la m lc, .map (some w1.heap.size)] 96)
      simpa using this
    · omega
    · exact (World.ownsMap_made w1 Try.prog 3 heldR).alloc _
    · simp [Maps.has] at ha

set_option maxHeartbeats 1000000 in
set_option maxRecDepth 100000 in
theorem tis_any (w : World) (base tg mg N : Nat) (n : Net) (hs hl : Hdr) (h : TabIn w base tg mg N n hs hl) : Calls Try.prog 59 #[.pointer (some ⟨tg, 0, none⟩)] w fun e w' => e = .returned (.bool true) ∧ w = w' := by
  obtain ⟨c0, c1, c2, c3⟩ := box4_cells h.box
  clear h
  have hne : ∀ w, (binOp .neq 94 (.map (some mg)) (.map none)).run Try.prog w = .ok (.bool true) w := fun w => by kernel_rfl
  go_enter Try.func59, Try.ntmps59
  go_wp2
  go_ret
  exact ⟨rfl, rfl⟩
set_option maxHeartbeats 1000000 in
theorem tlen_any (w : World) (base tg mg N : Nat) (n : Net) (hs hl : Hdr) (h : TabIn w base tg mg N n hs hl) : Calls Try.prog 19 #[.pointer (some ⟨tg, 0, none⟩)] w fun e w' => e = .returned (.int .i64 hs.n) ∧ w = w' := by
  obtain ⟨c0, c1, c2, c3⟩ := box4_cells h.box
  have HH := Lib.hid h
  clear h
  go_enter Try.func19, Try.ntmps19
  go_wp2_with (go_at_call 59; refine (tis_any _ base tg mg N n hs hl HH.out).mono ?_; rintro e w1 ⟨rfl, rfl⟩)
  go_ret
  exact ⟨rfl, rfl⟩
set_option maxHeartbeats 1000000 in
theorem tver_any (w : World) (base tg mg N : Nat) (n : Net) (hs hl : Hdr) (h : TabIn w base tg mg N n hs hl) : Calls Try.prog 20 #[.pointer (some ⟨tg, 0, none⟩)] w fun e w' => e = .returned (.int .i64 n.ver) ∧ w = w' := by
  obtain ⟨c0, c1, c2, c3⟩ := box4_cells h.box
  have HH := Lib.hid h
  clear h
  go_enter Try.func20, Try.ntmps20
  go_wp2_with (go_at_call 59; refine (tis_any _ base tg mg N n hs hl HH.out).mono ?_; rintro e w1 ⟨rfl, rfl⟩)
  go_ret
  exact ⟨rfl, rfl⟩
end Go.Proofs.Yteihffnmgacfpaa.Ne
