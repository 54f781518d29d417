/- Networks: a table of distances: how it lies; how it is made; its simple functions, walked. -/
/- Networks: a table's rows and distances, walked. -/
/- Networks: how far two stops are: bounds: plain. -/
/- Networks: a table's distance of two stops, walked. -/
import Derived.Test.YtlfbbahihenilaaGreatMg17
import Derived.Maps.OwnSet
import Derived.Maps.OwnOps
import Derived.Test.YtlfbbahihenilaaGreatMg14
namespace Go.Proofs.YtlfbbahihenilaaGreat.Ne
open Go.RowKit Go.V Go.Proofs Go.Sort Go.Maps

theorem lawI3 : Maps.Keyed Tryz.prog 3 := Maps.int_keyed Tryz.underlying3
theorem zeroSI (w : World) : (zeroValue 35).run Tryz.prog w = .ok (.slice none 0 0) w := by kernel_rfl
/-- What a map has, as it lies. -/
def heldR (v : Value) : Option (DataW Value × List MemPlace) := some (.held v, [])
/-- A row of the distances from a. -/
def RowIn (w : World) (mg k : Nat) (L : List Lnk) (v : Value) (a : Int) : Prop :=
  0 ≤ a ∧ a < k ∧ ∃ o cap, v = .slice (some ⟨o, 0, none⟩) k cap ∧ mg < o ∧ Sl icod w (some ⟨o, 0, none⟩) k cap (bf L k a) ∧ ∃ cur, w.heap[o]? = some (.cells cur 3 (0, 0))
structure TabIn (w : World) (base tg mg N : Nat) (n : Net) (hs hl : Hdr) : Prop where
  box : w.heap[tg]? = some (.cells #[.int .i64 n.ver, .slice hs.a hs.n hs.cap, .slice hl.a hl.n hl.cap, .map (some mg)] 93 (0, 0))
  net : ∃ W0 : World, W0.heap.size = base ∧ NetIn W0 n hs hl ∧ Below W0.heap.size W0 w
  bt : base ≤ tg
  bm : base ≤ mg
  map : ∃ D, w.ownsMap Tryz.prog 3 heldR mg N D ∧ ∀ a : Int, Maps.has D (.int .i64 a) = true → ∃ v, D.atKey (.int .i64 a) (.held (.slice none 0 0)) = .held v ∧ RowIn w mg hs.n n.links v a
theorem TabIn.netIn {w : World} {base tg mg N : Nat} {n : Net} {hs hl : Hdr} (h : TabIn w base tg mg N n hs hl) : NetIn w n hs hl := by
  obtain ⟨W0, -, h1, h2⟩ := h.net
  exact h1.below h2
theorem grownN {w w' : World} (h : Below w.heap.size w w') : w.grownBy w' none := ⟨h.os, h.tape, h.output, h.size, fun k hk _ => h.block k hk⟩
theorem TabIn.below {w w' : World} {base tg mg N : Nat} {n : Net} {hs hl : Hdr} (h : TabIn w base tg mg N n hs hl) (hb : Below w.heap.size w w') : TabIn w' base tg mg N n hs hl := by
  obtain ⟨D, h1, h2⟩ := h.map
  obtain ⟨W0, n1, n2, n3⟩ := h.net
  refine ⟨box_below h.box hb, ⟨W0, n1, n2, n3.trans (hb.mono n3.size)⟩, h.bt, h.bm, D, h1.kept (grownN hb) (by simp), fun a ha => ?_⟩
  obtain ⟨v, e, r1, r2, o, cap, r3, r4, r5, cur, r6⟩ := h2 a ha
  exact ⟨v, e, r1, r2, o, cap, r3, r4, r5.below hb, cur, box_below r6 hb⟩
/-- A table is kept where two blocks are put anew that are no rows of numbers. -/
theorem TabIn.keep {w w' : World} {base tg mg N A l : Nat} {n : Net} {hs hl : Hdr} {cs : Array Value} {ta : TypeId} {ol : Obj} (h : TabIn w base tg mg N n hs hl) (hA : w.heap[A]? = some (.cells cs ta (0, 0))) (hta : ta ≠ 3) (hlo : w.heap[l]? = some ol) (hol : ∀ cur, ol ≠ .cells cur 3 (0, 0))
    (hos : w'.os = w.os) (htape : w'.tape = w.tape) (hout : w'.output = w.output) (hsz : w.heap.size ≤ w'.heap.size) (hk : ∀ k, k < w.heap.size → k ≠ A → k ≠ l → w'.heap[k]? = w.heap[k]?) (hbA : base ≤ A) (hbl : base ≤ l) (h1 : tg ≠ A ∧ tg ≠ l) (h2 : mg ≠ A ∧ mg ≠ l) : TabIn w' base tg mg N n hs hl := by
  obtain ⟨D, g1, g2⟩ := h.map
  obtain ⟨W0, n1, n2, n3⟩ := h.net
  have hgr : ∀ k, k ≠ A → k ≠ l → k < w.heap.size → w'.heap[k]? = w.heap[k]? := fun k a b c => hk k c a b
  refine ⟨(hgr tg h1.1 h1.2 (box_lt h.box)).trans h.box, ⟨W0, n1, n2, n3.trans ⟨hos, htape, hout, hsz, fun k hkk => hgr k (by omega) (by omega) (by have := n3.size; omega)⟩⟩, h.bt, h.bm, D, ?_, fun a ha => ?_⟩
  · have hlt := g1.lt
    obtain ⟨es, clock, hb, F, hs', hD⟩ := g1
    exact ⟨es, clock, (hgr mg h2.1 h2.2 hlt).trans hb, F, hs', hD⟩
  · obtain ⟨v, e, r1, r2, o, cap, r3, r4, r5, cur, r6⟩ := g2 a ha
    have ho := box_lt r6
    have hoA : o ≠ A := by rintro rfl; rw [hA] at r6; cases r6; exact hta rfl
    have hol' : o ≠ l := by rintro rfl; rw [hlo] at r6; exact hol cur (Option.some.inj r6)
    have e9 := hgr o hoA hol' ho
    refine ⟨v, e, r1, r2, o, cap, r3, r4, ⟨r5.hlen, r5.hcap, r5.hmax, (fun q => nomatch q), fun d hd h0 => ?_⟩, cur, e9.trans r6⟩
    cases hd
    obtain ⟨z1, z2, z3⟩ := r5.hat _ rfl h0
    exact ⟨z1, Nat.lt_of_lt_of_le z2 hsz, fun j u hu => by
      have := z3 j u hu
      simp only [World.cell?] at this ⊢
      rw [e9]; exact this⟩
/-- No row of the table lies in a block. -/
def TOff (w : World) (mg g : Nat) : Prop := ∀ (N : Nat) (D : DataW Value), w.ownsMap Tryz.prog 3 heldR mg N D → ∀ (a : Int) (v : Value), Maps.has D (.int .i64 a) = true → D.atKey (.int .i64 a) (.held (.slice none 0 0)) = .held v → v.ownBlock ≠ some g
theorem ownsMap_one {w : World} {mg N N' : Nat} {D D' : DataW Value} (h : w.ownsMap Tryz.prog 3 heldR mg N D) (h' : w.ownsMap Tryz.prog 3 heldR mg N' D') : D = D' := by
  obtain ⟨es, c, h1, -, -, h4⟩ := h
  obtain ⟨es', c', h1', -, -, h4'⟩ := h'
  rw [h1] at h1'
  cases h1'
  rw [h4, h4']
theorem ownsMap_same {w w' : World} {mg N : Nat} {D : DataW Value} (h : w'.ownsMap Tryz.prog 3 heldR mg N D) (he : w'.heap[mg]? = w.heap[mg]?) : w.ownsMap Tryz.prog 3 heldR mg N D := by
  obtain ⟨es, c, h1, h2, h3, h4⟩ := h
  exact ⟨es, c, he ▸ h1, h2, h3, h4⟩
theorem TOff.same {w w' : World} {mg g : Nat} (h : TOff w mg g) (he : w'.heap[mg]? = w.heap[mg]?) : TOff w' mg g := fun N D ho a v hh hv => h N D (ownsMap_same ho he) a v hh hv
theorem TabIn.off_new {w : World} {base tg mg N g : Nat} {n : Net} {hs hl : Hdr} (h : TabIn w base tg mg N n hs hl) (hg : w.heap.size ≤ g) : TOff w mg g := by
  intro N' D' ho a v hh hv e
  obtain ⟨D, g1, g2⟩ := h.map
  have := ownsMap_one g1 ho
  subst this
  obtain ⟨v', e', r1, r2, o, cap, r3, r4, r5, cur, r6⟩ := g2 a hh
  rw [e'] at hv
  have hv := DataW.held.inj hv
  subst hv
  rw [r3] at e
  have : o = g := by simpa [Value.ownBlock] using e
  have : o < w.heap.size := box_lt r6
  omega
/-- .. where a row of numbers of one's own grows that no row of the table lies in. -/
theorem TabIn.grown {w w' : World} {base tg mg N : Nat} {n : Net} {hs hl : Hdr} {row : Option Nat} (h : TabIn w base tg mg N n hs hl) (hg : w.grownBy w' row) (ho : ∀ g, row = some g → TOff w mg g ∧ base ≤ g ∧ g ≠ tg ∧ g ≠ mg) : TabIn w' base tg mg N n hs hl := by
  obtain ⟨D, g1, g2⟩ := h.map
  obtain ⟨W0, n1, n2, n3⟩ := h.net
  refine ⟨(hg.block tg (box_lt h.box) (fun e => (ho tg e.symm).2.2.1 rfl)).trans h.box, ⟨W0, n1, n2, n3.trans ⟨hg.os, hg.tape, hg.output, hg.size, fun k hk => hg.block k (by have := n3.size; omega) (fun e => by have := (ho k e.symm).2.1; omega)⟩⟩, h.bt, h.bm, D, g1.kept hg (fun e => (ho mg e.symm).2.2.2 rfl), fun a ha => ?_⟩
  obtain ⟨v, e, r1, r2, o, cap, r3, r4, r5, cur, r6⟩ := g2 a ha
  have e9 : w'.heap[o]? = w.heap[o]? := hg.block o (box_lt r6) (fun q => (ho o q.symm).1 N D g1 a v ha e (by rw [r3]; rfl))
  refine ⟨v, e, r1, r2, o, cap, r3, r4, ⟨r5.hlen, r5.hcap, r5.hmax, (fun q => nomatch q), fun d hd h0 => ?_⟩, cur, e9.trans r6⟩
  cases hd
  obtain ⟨z1, z2, z3⟩ := r5.hat _ rfl h0
  exact ⟨z1, Nat.lt_of_lt_of_le z2 hg.size, fun j u hu => by
    have := z3 j u hu
    simp only [World.cell?] at this ⊢
    rw [e9]; exact this⟩
/-- .. where two blocks are put anew that no row of the table lies in. -/
theorem TabIn.keepT {w w' : World} {base tg mg N A l : Nat} {n : Net} {hs hl : Hdr} (h : TabIn w base tg mg N n hs hl) (hA : TOff w mg A) (hL : TOff w mg l)
    (hos : w'.os = w.os) (htape : w'.tape = w.tape) (hout : w'.output = w.output) (hsz : w.heap.size ≤ w'.heap.size) (hk : ∀ k, k < w.heap.size → k ≠ A → k ≠ l → w'.heap[k]? = w.heap[k]?) (hbA : base ≤ A) (hbl : base ≤ l) (h1 : tg ≠ A ∧ tg ≠ l) (h2 : mg ≠ A ∧ mg ≠ l) : TabIn w' base tg mg N n hs hl := by
  obtain ⟨D, g1, g2⟩ := h.map
  obtain ⟨W0, n1, n2, n3⟩ := h.net
  have g0 := g1
  refine ⟨(hk tg (box_lt h.box) h1.1 h1.2).trans h.box, ⟨W0, n1, n2, n3.trans ⟨hos, htape, hout, hsz, fun k hkk => hk k (by have := n3.size; omega) (by omega) (by omega)⟩⟩, h.bt, h.bm, D, ?_, fun a ha => ?_⟩
  · have hlt := g1.lt
    obtain ⟨es, clock, hb, F, hs', hD⟩ := g1
    exact ⟨es, clock, (hk mg hlt h2.1 h2.2).trans hb, F, hs', hD⟩
  · obtain ⟨v, e, r1, r2, o, cap, r3, r4, r5, cur, r6⟩ := g2 a ha
    have e9 : w'.heap[o]? = w.heap[o]? := hk o (box_lt r6) (fun q => hA N D g0 a v ha e (by rw [r3, q]; rfl)) (fun q => hL N D g0 a v ha e (by rw [r3, q]; rfl))
    refine ⟨v, e, r1, r2, o, cap, r3, r4, ⟨r5.hlen, r5.hcap, r5.hmax, (fun q => nomatch q), fun d hd h0 => ?_⟩, cur, e9.trans r6⟩
    cases hd
    obtain ⟨z1, z2, z3⟩ := r5.hat _ rfl h0
    exact ⟨z1, Nat.lt_of_lt_of_le z2 hsz, fun j u hu => by
      have := z3 j u hu
      simp only [World.cell?] at this ⊢
      rw [e9]; exact this⟩
/-- What a table's functions change; their rows are new. -/
structure ChgT (w w' : World) (mg : Nat) : Prop where
  chg : Chg w w' mg none
  rows : ∀ g, g < w.heap.size → TOff w mg g → TOff w' mg g
theorem ChgT.refl (w : World) (mg : Nat) : ChgT w w mg := ⟨Chg.refl _ _ _, fun _ _ h => h⟩
theorem ChgT.of_below {w w' : World} {mg : Nat} (h : Below w.heap.size w w') (hm : mg < w.heap.size) : ChgT w w' mg := ⟨Chg.of_below h mg none, fun _ _ ho => ho.same (h.block mg hm)⟩
theorem ChgT.trans {w w' w'' : World} {mg : Nat} (h : ChgT w w' mg) (h' : ChgT w' w'' mg) : ChgT w w'' mg := ⟨h.chg.trans h'.chg (.inl rfl), fun g hg ho => h'.rows g (Nat.lt_of_lt_of_le hg h.chg.size) (h.rows g hg ho)⟩
theorem box4_cells {w : World} {g : Nat} {e : TypeId} {u0 u1 u2 u3 : Value} (h : w.heap[g]? = some (.cells #[u0, u1, u2, u3] e (0, 0))) : w.cell? ⟨g, 0, none⟩ = some u0 ∧ w.cell? ⟨g, 1, none⟩ = some u1 ∧ w.cell? ⟨g, 2, none⟩ = some u2 ∧ w.cell? ⟨g, 3, none⟩ = some u3 :=
  ⟨(box_cell h 0).1, (box_cell h 1).1, (box_cell h 2).1, (box_cell h 3).1⟩

set_option maxHeartbeats 2000000 in
theorem tnew_any (n : Net) (hs hl : Hdr) (w : World) (hm : hs.n ≤ 1000000 ∧ hl.n ≤ 1000000) (h : NetIn w n hs hl) :
    Calls Tryz.prog 13 #[n.val hs hl] w fun e w' => Below w.heap.size w w' ∧ (checkE n ≠ 0 → e = .returned (.tuple #[.pointer none, .int .i64 (checkE n)])) ∧
      (checkE n = 0 → ∃ tg, e = .returned (.tuple #[.pointer (some ⟨tg, 0, none⟩), .int .i64 0]) ∧ ∃ mg, TabIn w' w.heap.size tg mg 0 n hs hl ∧ tg ≠ mg) := by
  have hmm := @run_makeMap Tryz.prog
  obtain ⟨sa, k, sc⟩ := hs
  obtain ⟨la, m, lc⟩ := hl
  have HH := Lib.hid h
  have HX := Lib.hid (box_new w (n.box ⟨sa, k, sc⟩ ⟨la, m, lc⟩))
  have HB0 : Hid (Below w.heap.size w (w.alloc (n.box ⟨sa, k, sc⟩ ⟨la, m, lc⟩))) := (Below.refl _ _).alloc (Nat.le_refl _) _
  have HM := Lib.hid hm
  obtain ⟨c0, c1, c2, -, -, -⟩ := box3_cells HX.out
  obtain ⟨ce, hce⟩ : ∃ ce, checkE n = ce := ⟨_, rfl⟩
  have HCE := Lib.hid hce
  clear hce hm h
  go_enter Tryz.func13, Tryz.ntmps13
  go_upto_region 2 with (go_at_call 35; refine (check_any n ⟨sa, k, sc⟩ ⟨la, m, lc⟩ _ HM.out (HH.out.below HB0.out)).mono ?_; rintro e w1 ⟨rfl, hb1⟩; rw [HCE.out]; have HB1 := Lib.hid (HB0.out.trans (hb1.mono HB0.out.size)); have HX1 := Lib.hid (box_below HX.out hb1); clear hb1)
  clear c0 c1 c2 HX HB0
  obtain ⟨c0, c1, c2, -, -, -⟩ := box3_cells HX1.out
  by_cases he : ce = 0
  case neg =>
    have e0 : (ce == 0) = false := by simpa using he
    go_wp2_with fail
    go_ret2
    exact ⟨HB1.out, fun _ => by rw [HCE.out]; rfl, fun q => absurd (HCE.out.symm.trans q) he⟩
  case pos =>
    subst he
    go_wp2_with fail
    go_ret2
    have hsz := HB1.out.size
    have hb2 : Below w1.heap.size w1 (w1.alloc (.map #[] 0)) := (Below.refl _ _).alloc (Nat.le_refl _) _
    have hb3 := hb2.alloc hb2.size (.cells #[.int .i64 n.ver, .slice sa k sc, .slice la m lc, .map (some w1.heap.size)] 93)
    refine ⟨HB1.out.trans (hb3.mono hsz), fun q => absurd HCE.out q, fun _ => ?_⟩
    refine ⟨w1.heap.size + 1, rfl, w1.heap.size, ⟨?_, ⟨w, rfl, HH.out, HB1.out.trans (hb3.mono hsz)⟩, ?_, hsz, .map [], ?_, fun a ha => ?_⟩, by omega⟩
    · have := box_new (w1.alloc (.map #[] 0)) (.cells #[.int .i64 n.ver, .slice sa k sc, .slice la m lc, .map (some w1.heap.size)] 93)
      simpa using this
    · omega
    · exact (World.ownsMap_made w1 Tryz.prog 3 heldR).alloc _
    · simp [Maps.has] at ha

set_option maxHeartbeats 1000000 in
set_option maxRecDepth 100000 in
theorem tis_any (w : World) (base tg mg N : Nat) (n : Net) (hs hl : Hdr) (h : TabIn w base tg mg N n hs hl) : Calls Tryz.prog 73 #[.pointer (some ⟨tg, 0, none⟩)] w fun e w' => e = .returned (.bool true) ∧ w = w' := by
  obtain ⟨c0, c1, c2, c3⟩ := box4_cells h.box
  clear h
  have hne : ∀ w, (binOp .neq 91 (.map (some mg)) (.map none)).run Tryz.prog w = .ok (.bool true) w := fun w => by kernel_rfl
  go_enter Tryz.func73, Tryz.ntmps73
  go_wp2
  go_ret
  exact ⟨rfl, rfl⟩
set_option maxHeartbeats 1000000 in
theorem tlen_any (w : World) (base tg mg N : Nat) (n : Net) (hs hl : Hdr) (h : TabIn w base tg mg N n hs hl) : Calls Tryz.prog 38 #[.pointer (some ⟨tg, 0, none⟩)] w fun e w' => e = .returned (.int .i64 hs.n) ∧ w = w' := by
  obtain ⟨c0, c1, c2, c3⟩ := box4_cells h.box
  have HH := Lib.hid h
  clear h
  go_enter Tryz.func38, Tryz.ntmps38
  go_wp2_with (go_at_call 73; refine (tis_any _ base tg mg N n hs hl HH.out).mono ?_; rintro e w1 ⟨rfl, rfl⟩)
  go_ret
  exact ⟨rfl, rfl⟩
theorem TabIn.upto {w : World} {base tg mg N M : Nat} {n : Net} {hs hl : Hdr} (h : TabIn w base tg mg N n hs hl) (hN : N ≤ M) : TabIn w base tg mg M n hs hl := by
  obtain ⟨D, h1, h2⟩ := h.map
  exact ⟨h.box, h.net, h.bt, h.bm, D, h1.mono hN, h2⟩
theorem TabIn.mg_lt {w : World} {base tg mg N : Nat} {n : Net} {hs hl : Hdr} (h : TabIn w base tg mg N n hs hl) : mg < w.heap.size := by
  obtain ⟨D, h1, -⟩ := h.map
  exact h1.lt
set_option maxHeartbeats 1000000 in
theorem tver_any (w : World) (base tg mg N : Nat) (n : Net) (hs hl : Hdr) (h : TabIn w base tg mg N n hs hl) : Calls Tryz.prog 39 #[.pointer (some ⟨tg, 0, none⟩)] w fun e w' => e = .returned (.int .i64 n.ver) ∧ w = w' := by
  obtain ⟨c0, c1, c2, c3⟩ := box4_cells h.box
  have HH := Lib.hid h
  clear h
  go_enter Tryz.func39, Tryz.ntmps39
  go_wp2_with (go_at_call 73; refine (tis_any _ base tg mg N n hs hl HH.out).mono ?_; rintro e w1 ⟨rfl, rfl⟩)
  go_ret
  exact ⟨rfl, rfl⟩
end Go.Proofs.YtlfbbahihenilaaGreat.Ne

namespace Go.Proofs.YtlfbbahihenilaaGreat.Ne
open Go.RowKit Go.V Go.Proofs Go.Sort Go.Maps

theorem turned_chg {w w' : World} {mg : Nat} (h : w.mapTurned w' mg) : Chg w w' mg none := Chg.of_grown h.grown mg none (fun _ hk => .inl (Option.some.inj hk).symm)
theorem chg_sl {α : Type} {c : Cod α} {w w' : World} {g o n cap : Nat} {xs : List α} (hc : Chg w w' g none) (h : Sl c w (some ⟨o, 0, none⟩) n cap xs) (ho : o ≠ g) : Sl c w' (some ⟨o, 0, none⟩) n cap xs :=
  ⟨h.hlen, h.hcap, h.hmax, h.hnil, fun d hd h0 => by
    obtain ⟨h1, h2, h3⟩ := h.hat d hd h0
    cases hd
    refine ⟨h1, Nat.lt_of_lt_of_le h2 hc.size, fun j u hu => ?_⟩
    have := h3 j u hu
    have e := hc.block o h2 ho (by simp)
    unfold World.cell? at this ⊢
    simp only [] at this ⊢
    rw [e]; exact this⟩

theorem nat_wf {a : Nat} (h : a ≤ 1000000) : (Lit.int .i64 (a : Int)).wf = true := by
  show (decide (IntKind.i64.min ≤ (a : Int)) && decide ((a : Int) ≤ IntKind.i64.max)) = true
  have e1 : IntKind.i64.min = -9223372036854775808 := by decide
  have e2 : IntKind.i64.max = 9223372036854775807 := by decide
  rw [e1, e2]
  simp
  omega
theorem heldR_inv {v v0 : Value} {D : DataW Value} {kl : Lit} {zd : DataW Value} {ps : List MemPlace} (h : heldR v = some (D.atKey kl zd, ps)) (h0 : D.atKey kl zd = .held v0) : v = v0 := by
  unfold heldR at h
  rw [h0] at h
  simp at h
  exact h.1
theorem TabIn.mono {w : World} {base tg mg N : Nat} {n : Net} {hs hl : Hdr} (h : TabIn w base tg mg N n hs hl) : TabIn w base tg mg (N + 1) n hs hl := by
  obtain ⟨D, h1, h2⟩ := h.map
  exact ⟨h.box, h.net, h.bt, h.bm, D, h1.mono (Nat.le_succ _), h2⟩

set_option maxHeartbeats 4000000 in
set_option maxRecDepth 100000 in
theorem trow_gen (w : World) (base tg mg N : Nat) (n : Net) (hs hl : Hdr) (a : Nat) (h : TabIn w base tg mg N n hs hl) (hok : checkE n = 0) (ha : a < hs.n) (hN : N ≤ 1000000) (hne : tg ≠ mg) :
    Calls Tryz.prog 109 #[.pointer (some ⟨tg, 0, none⟩), .int .i64 a] w fun e w' => ∃ o cap, e = .returned (.slice (some ⟨o, 0, none⟩) hs.n cap) ∧ Sl icod w' (some ⟨o, 0, none⟩) hs.n cap (bf n.links hs.n a) ∧ TabIn w' base tg mg (N + 1) n hs hl ∧ ChgT w w' mg := by
  obtain ⟨D, hown, hrows⟩ := h.map
  obtain ⟨k1, k2, -, -, -, -⟩ := check_ok hok
  have hsn := h.netIn.s.hlen
  have hln := h.netIn.l.hlen
  have hkey : keyOf Tryz.prog 3 (.int .i64 (a : Int)) = some (.int .i64 (a : Int)) := keyOf_int_mk Tryz.underlying3 (nat_wf (by omega))
  have HT := Lib.hid h
  have HM : Hid (hs.n ≤ 1000000 ∧ hl.n ≤ 1000000) := ⟨by omega, by omega⟩
  have HF : Hid (fromE n (a : Int) = 0) := by show _ = _; unfold fromE; rw [hok, if_pos rfl, if_pos (by omega)]
  have HSN := Lib.hid hsn
  have hNm : N < maxLen := by unfold maxLen; omega
  obtain ⟨c0, c1, c2, c3⟩ := box4_cells h.box
  have HOW := Lib.hid hown
  have HRO := Lib.hid hrows
  clear hown hrows hsn hln k1 k2 h
  by_cases hh : Maps.has D (.int .i64 (a : Int)) = true
  · obtain ⟨v, e1, r1, r2, o, cap, rfl, r4, r5, -⟩ := HRO.out a hh
    have HHH := Lib.hid hh
    have HE1 := Lib.hid e1
    have HR5 := Lib.hid r5
    clear hh e1 r1 r2 r5
    go_enter Tryz.func109, Tryz.ntmps109
    go_wp2_with (at_lookup; go_loud (refine wpList_lookup_own_ok _ rfl _ _ 91 rfl 3 35 lawI3 Tryz.underlying91 heldR (zeroSI _) (.held (.slice none 0 0)) [] rfl mg N D rfl HOW.out _ _ rfl hkey ?_); intro v' ps hv; rw [HHH.out, heldR_inv hv HE1.out]; clear hv)
    go_ret
    exact ⟨o, cap, rfl, HR5.out, HT.out.mono, ChgT.refl _ _⟩
  · have hf : Maps.has D (.int .i64 (a : Int)) = false := by simpa using hh
    have HHF := Lib.hid hf
    clear hh hf
    go_enter Tryz.func109, Tryz.ntmps109
    go_upto_region 4 with (first
      | (at_lookup; go_loud (refine wpList_lookup_own_ok _ rfl _ _ 91 rfl 3 35 lawI3 Tryz.underlying91 heldR (zeroSI _) (.held (.slice none 0 0)) [] rfl mg N D rfl HOW.out _ _ rfl hkey ?_); intro v' ps hv; rw [HHF.out]; clear hv)
      | (go_at_call 117; go_loud (refine (pfrom_any n hs hl (a : Int) _ HM.out HT.out.netIn).mono ?_); rintro e w3 ⟨hb3, -, hf⟩; obtain ⟨o, cap, rfl, ho⟩ := hf HF.out; have HB3 := Lib.hid hb3; have HO3 := Lib.hid ho; clear hf hb3 ho))
    have HT3 := Lib.hid (HT.out.below HB3.out)
    have HW3 : Hid (w3.ownsMap Tryz.prog 3 heldR mg N D) := HOW.out.kept (grownN HB3.out) (by simp)
    clear c0 c1 c2 c3
    obtain ⟨c0, c1, c2, c3⟩ := box4_cells HT3.out.box
    go_wp2_with (at_mapUpdate; go_loud (refine wpList_mapUpdate_in _ rfl _ _ _ 91 rfl 3 35 lawI3 Tryz.underlying91 heldR mg N D rfl HW3.out hNm _ _ _ rfl rfl hkey _ [] rfl ?_); intro w4 ho4 ht4; have HO4 := Lib.hid ho4; have HC4 := Lib.hid (turned_chg ht4); clear ho4 ht4)
    go_ret
    have hol := World.ownsRow.lt HO3.out o rfl
    have hmgw : mg < w.heap.size := HOW.out.lt
    obtain ⟨oa, oc, e1, hsl, hcur⟩ := HO3.out.slice
    simp only [Value.slice.injEq] at e1
    obtain ⟨e2, e3, e4⟩ := e1
    obtain ⟨gg, cur, ge, -, hcur⟩ := hcur _ e2.symm
    cases ge
    have hsl' : Sl icod w3 (some ⟨o, 0, none⟩) hs.n cap (bf n.links hs.n a) := by
      rw [← e2, ← e3, ← e4] at hsl
      have e : hs.n = n.stops.length := HSN.out
      rw [← e] at hsl; exact hsl
    have hsl4 := chg_sl HC4.out hsl' (show o ≠ mg by omega)
    have hwc : Chg w w4 mg none := (Chg.of_below HB3.out mg none).trans HC4.out (.inl rfl)
    have hrw : ∀ g, g < w.heap.size → TOff w mg g → TOff w4 mg g := by
      intro g hg ho N9 D9 h9 b v hb hv e
      have := ownsMap_one HO4.out h9
      subst this
      have hisD := HW3.out.isMap
      by_cases hab : b = (a : Int)
      · subst hab
        rw [atKey_put_same hisD (by simp [WideAt.IsKeyLit]) _ _] at hv
        have hv := DataW.held.inj hv
        subst hv
        have e' : (Value.slice (some ⟨o, 0, none⟩) hs.n cap).ownBlock = some g := e
        have : o = g := by simpa [Value.ownBlock] using e'
        omega
      · have hne2 : (Lit.int .i64 b) ≠ (Lit.int .i64 (a : Int)) := by simpa using hab
        rw [has_put_other hne2] at hb
        rw [atKey_put_other hne2] at hv
        exact ho N D HOW.out b v hb hv e
    refine ⟨o, cap, rfl, hsl4, ?_, hwc, hrw⟩
    obtain ⟨W0, n1, n2, n3⟩ := HT3.out.net
    have hb4 : Below W0.heap.size w3 w4 := HC4.out.below (by rw [n1]; exact HT3.out.bm) (by simp) (by have := n3.size; omega)
    refine ⟨HC4.out.box HT3.out.box hne (by simp), ⟨W0, n1, n2, n3.trans hb4⟩, HT3.out.bt, HT3.out.bm, _, HO4.out, fun b hb => ?_⟩
    have hisD := HW3.out.isMap
    by_cases hab : b = (a : Int)
    · subst hab
      exact ⟨_, atKey_put_same hisD (by simp [WideAt.IsKeyLit]) _ _, by omega, by omega, o, cap, rfl, by omega, hsl4, cur, HC4.out.box hcur (by omega) (by simp)⟩
    · have hne2 : (Lit.int .i64 b) ≠ (Lit.int .i64 (a : Int)) := by simpa using hab
      rw [has_put_other hne2] at hb
      obtain ⟨v, q1, q2, q3, o2, cap2, q4, q5, q6, cur2, q7⟩ := HRO.out b hb
      refine ⟨v, by rw [atKey_put_other hne2]; exact q1, q2, q3, o2, cap2, q4, q5, ?_, cur2, HC4.out.box (box_below q7 HB3.out) (by omega) (by simp)⟩
      exact chg_sl HC4.out (q6.below HB3.out) (by omega)
theorem trow_any (w : World) (base tg mg N : Nat) (n : Net) (hs hl : Hdr) (a : Nat) (h : TabIn w base tg mg N n hs hl) (hok : checkE n = 0) (ha : a < hs.n) (hN : N ≤ 1000000) (hne : tg ≠ mg) :
    Calls Tryz.prog 109 #[.pointer (some ⟨tg, 0, none⟩), .int .i64 a] w fun e w' => ∃ o cap, e = .returned (.slice (some ⟨o, 0, none⟩) hs.n cap) ∧ Sl icod w' (some ⟨o, 0, none⟩) hs.n cap (bf n.links hs.n a) ∧ TabIn w' base tg mg (N + 1) n hs hl ∧ Chg w w' mg none :=
  (trow_gen w base tg mg N n hs hl a h hok ha hN hne).mono fun _ _ ⟨o, cap, h1, h2, h3, h4⟩ => ⟨o, cap, h1, h2, h3, h4.chg⟩
end Go.Proofs.YtlfbbahihenilaaGreat.Ne

namespace Go.Proofs.YtlfbbahihenilaaGreat.Ne
open Go.RowKit Go.V Go.Proofs Go.Sort

/-- What a table tells of two stops. -/
def tfarE (n : Net) (k : Nat) (a b : Int) : Int := if 0 ≤ a ∧ a < k ∧ 0 ≤ b ∧ b < k then far n.links k a b else -1
theorem tfar_in {n : Net} {k : Nat} (hok : checkE n = 0) (hk : k = n.stops.length) (a b : Int) : tfarE n k a b ≤ k * (n.links.length * 2097150) := by
  unfold tfarE
  split
  · next h =>
    have hL : LinksOk n.links k := by rw [hk]; exact (check_ok hok).2.2.2.2.1
    have hs := (bf_sound (L := n.links) (k := k) (a := a) ⟨h.1, h.2.1⟩).turns hL k
    obtain ⟨v, rfl⟩ : ∃ v : Nat, b = v := ⟨b.toNat, by omega⟩
    have h1 := bf_at (L := n.links) (k := k) (a := a) hL ⟨h.1, h.2.1⟩ (v := v) (by omega)
    rcases hs.one v _ h1 with e | ⟨-, e, -⟩
    · rw [e]
      have : 0 ≤ (k : Int) * (n.links.length * 2097150) := Int.mul_nonneg (by omega) (by omega)
      omega
    · exact e
  · have : 0 ≤ (k : Int) * (n.links.length * 2097150) := Int.mul_nonneg (by omega) (by omega)
    omega
/-- Of few stops and links. -/
theorem tfar_few {n : Net} {k : Nat} (hok : checkE n = 0) (hk : k = n.stops.length) (h60 : k ≤ 60) (h120 : n.links.length ≤ 120) (a b : Int) : tfarE n k a b ≤ 15099480000 := by
  refine Int.le_trans (tfar_in hok hk a b) ?_
  have h1 : (k : Int) * (n.links.length * 2097150) ≤ 60 * (n.links.length * 2097150) := Int.mul_le_mul_of_nonneg_right (by omega) (by omega)
  omega
end Go.Proofs.YtlfbbahihenilaaGreat.Ne

namespace Go.Proofs.YtlfbbahihenilaaGreat.Ne
open Go.RowKit Go.V Go.Proofs Go.Sort Go.Maps


set_option maxHeartbeats 4000000 in
set_option maxRecDepth 100000 in
theorem tfar_gen (w : World) (base tg mg N : Nat) (n : Net) (hs hl : Hdr) (a b : Int) (h : TabIn w base tg mg N n hs hl) (hok : checkE n = 0) (hN : N ≤ 1000000) (hne : tg ≠ mg) :
    Calls Tryz.prog 88 #[.pointer (some ⟨tg, 0, none⟩), .int .i64 a, .int .i64 b] w fun e w' => e = .returned (.int .i64 (tfarE n hs.n a b)) ∧ TabIn w' base tg mg (N + 1) n hs hl ∧ ChgT w w' mg := by
  have HT := Lib.hid h
  have HOK := Lib.hid hok
  have hkn : hs.n = n.stops.length := h.netIn.s.hlen
  have HLO : Hid (LinksOk n.links hs.n) := by show LinksOk _ _; rw [hkn]; exact (check_ok hok).2.2.2.2.1
  clear h hok hkn
  by_cases hin : 0 ≤ a ∧ a < hs.n ∧ 0 ≤ b ∧ b < hs.n
  · obtain ⟨h1, h2, h3, h4⟩ := hin
    have he : tfarE n hs.n a b = far n.links hs.n a b := by unfold tfarE; rw [if_pos ⟨h1, h2, h3, h4⟩]
    have HE := Lib.hid he
    clear he
    obtain ⟨p, rfl⟩ : ∃ p : Nat, a = p := ⟨a.toNat, by omega⟩
    obtain ⟨q, rfl⟩ : ∃ q : Nat, b = q := ⟨b.toNat, by omega⟩
    have hp : p < hs.n := by omega
    have hq : q < hs.n := by omega
    have b1 : decide ((p : Int) < 0) = false := by simp
    have b2 : decide ((q : Int) < 0) = false := by simp
    have b3 : decide ((hs.n : Int) ≤ (p : Int)) = false := decide_eq_false (by omega)
    have b4 : decide ((hs.n : Int) ≤ (q : Int)) = false := decide_eq_false (by omega)
    go_enter Tryz.func88, Tryz.ntmps88
    go_wp2_with (first
      | (go_at_call 38; refine (tlen_any _ base tg mg N n hs hl HT.out).mono ?_; rintro e w1 ⟨rfl, rfl⟩)
      | (go_at_call 109; refine (trow_gen _ base tg mg N n hs hl p HT.out HOK.out hp hN hne).mono ?_; rintro e w2 ⟨o, cap, rfl, hsl, ht2, hc2⟩; have HT2 := Lib.hid ht2; have HC2 := Lib.hid hc2; obtain ⟨bb, off, r, e1, hbl, hr, c0⟩ := int_at hsl hq; cases e1; rw [Nat.zero_add] at c0; have HR := Lib.hid hr; clear hsl ht2 hc2 hr))
    go_ret
    have hr2 := bf_at (L := n.links) (k := hs.n) (a := (p : Int)) HLO.out (by omega) hq
    have e2 := hr2.symm.trans HR.out
    refine ⟨?_, HT2.out, HC2.out⟩
    rw [HE.out, Option.some.inj e2]; rfl
  · have he : tfarE n hs.n a b = -1 := by unfold tfarE; rw [if_neg hin]
    have HE := Lib.hid he
    clear he
    have fin : ∀ w' : World, w = w' → TabIn w' base tg mg (N + 1) n hs hl ∧ ChgT w w' mg := fun w' e => by subst e; exact ⟨HT.out.mono, ChgT.refl _ _⟩
    have HFI := Lib.hid fin
    clear fin
    go_enter Tryz.func88, Tryz.ntmps88
    by_cases g1 : a < 0
    · go_wp2_with (go_at_call 38; refine (tlen_any _ base tg mg N n hs hl HT.out).mono ?_; rintro e w1 ⟨rfl, rfl⟩)
      go_ret
      exact ⟨by rw [HE.out]; rfl, HFI.out _ rfl⟩
    · have b1 : decide (a < 0) = false := decide_eq_false g1
      by_cases g2 : b < 0
      · go_wp2_with (go_at_call 38; refine (tlen_any _ base tg mg N n hs hl HT.out).mono ?_; rintro e w1 ⟨rfl, rfl⟩)
        go_ret
        exact ⟨by rw [HE.out]; rfl, HFI.out _ rfl⟩
      · have b2 : decide (b < 0) = false := decide_eq_false g2
        by_cases g3 : (hs.n : Int) ≤ a
        · go_wp2_with (go_at_call 38; refine (tlen_any _ base tg mg N n hs hl HT.out).mono ?_; rintro e w1 ⟨rfl, rfl⟩)
          go_ret
          exact ⟨by rw [HE.out]; rfl, HFI.out _ rfl⟩
        · have b3 : decide ((hs.n : Int) ≤ a) = false := decide_eq_false g3
          have g4 : (hs.n : Int) ≤ b := by omega
          go_wp2_with (go_at_call 38; refine (tlen_any _ base tg mg N n hs hl HT.out).mono ?_; rintro e w1 ⟨rfl, rfl⟩)
          go_ret
          exact ⟨by rw [HE.out]; rfl, HFI.out _ rfl⟩
theorem tfar_any (w : World) (base tg mg N : Nat) (n : Net) (hs hl : Hdr) (a b : Int) (h : TabIn w base tg mg N n hs hl) (hok : checkE n = 0) (hN : N ≤ 1000000) (hne : tg ≠ mg) :
    Calls Tryz.prog 88 #[.pointer (some ⟨tg, 0, none⟩), .int .i64 a, .int .i64 b] w fun e w' => e = .returned (.int .i64 (tfarE n hs.n a b)) ∧ TabIn w' base tg mg (N + 1) n hs hl ∧ Chg w w' mg none :=
  (tfar_gen w base tg mg N n hs hl a b h hok hN hne).mono fun _ _ ⟨h1, h2, h3⟩ => ⟨h1, h2, h3.chg⟩
end Go.Proofs.YtlfbbahihenilaaGreat.Ne
