/- Networks: a table of distances: how it lies; how it is made; its simple functions, walked. -/
import Derived.Test.YthhpgahnhpgmeaaNeM
import Derived.Maps.OwnSet
import Derived.Maps.OwnOps
namespace Go.Proofs.Ythhpgahnhpgmeaa.Ne
open Go.RowKit Go.V Go.Proofs Go.Sort Go.Maps

theorem lawI3 : Maps.Keyed Try.prog 3 := Maps.int_keyed Try.underlying3
theorem zeroSI (w : World) : (zeroValue 56).run Try.prog w = .ok (.slice none 0 0) w := by kernel_rfl
/-- What a map has, as it lies. -/
def heldR (v : Value) : Option (DataW Value × List MemPlace) := some (.held v, [])
/-- A row of the distances from a. -/
def RowIn (w : World) (mg k : Nat) (L : List Lnk) (v : Value) (a : Int) : Prop :=
  0 ≤ a ∧ a < k ∧ ∃ o cap, v = .slice (some ⟨o, 0, none⟩) k cap ∧ mg < o ∧ Sl icod w (some ⟨o, 0, none⟩) k cap (bf L k a) ∧ ∃ cur, w.heap[o]? = some (.cells cur 3 (0, 0))
structure TabIn (w : World) (base tg mg N : Nat) (n : Net) (hs hl : Hdr) : Prop where
  box : w.heap[tg]? = some (.cells #[.int .i64 n.ver, .slice hs.a hs.n hs.cap, .slice hl.a hl.n hl.cap, .map (some mg)] 111 (0, 0))
  net : ∃ W0 : World, W0.heap.size = base ∧ NetIn W0 n hs hl ∧ Below W0.heap.size W0 w
  bt : base ≤ tg
  bm : base ≤ mg
  map : ∃ D, w.ownsMap Try.prog 3 heldR mg N D ∧ ∀ a : Int, Maps.has D (.int .i64 a) = true → ∃ v, D.atKey (.int .i64 a) (.held (.slice none 0 0)) = .held v ∧ RowIn w mg hs.n n.links v a
theorem TabIn.netIn {w : World} {base tg mg N : Nat} {n : Net} {hs hl : Hdr} (h : TabIn w base tg mg N n hs hl) : NetIn w n hs hl := by
  obtain ⟨W0, -, h1, h2⟩ := h.net
  exact h1.below h2
theorem grownN {w w' : World} (h : Below w.heap.size w w') : w.grownBy w' none := ⟨h.os, h.tape, h.output, h.size, fun k hk _ => h.block k hk⟩
theorem TabIn.below {w w' : World} {base tg mg N : Nat} {n : Net} {hs hl : Hdr} (h : TabIn w base tg mg N n hs hl) (hb : Below w.heap.size w w') : TabIn w' base tg mg N n hs hl := by
  obtain ⟨D, h1, h2⟩ := h.map
  obtain ⟨W0, n1, n2, n3⟩ := h.net
  refine ⟨box_below h.box hb, ⟨W0, n1, n2, n3.trans (hb.mono n3.size)⟩, h.bt, h.bm, D, h1.kept (grownN hb) (by simp), fun a ha => ?_⟩
  obtain ⟨v, e, r1, r2, o, cap, r3, r4, r5, cur, r6⟩ := h2 a ha
  exact ⟨v, e, r1, r2, o, cap, r3, r4, r5.below hb, cur, box_below r6 hb⟩
/-- A table is kept where two blocks are put anew that are no rows of numbers. -/
theorem TabIn.keep {w w' : World} {base tg mg N A l : Nat} {n : Net} {hs hl : Hdr} {cs : Array Value} {ta : TypeId} {ol : Obj} (h : TabIn w base tg mg N n hs hl) (hA : w.heap[A]? = some (.cells cs ta (0, 0))) (hta : ta ≠ 3) (hlo : w.heap[l]? = some ol) (hol : ∀ cur, ol ≠ .cells cur 3 (0, 0))
    (hos : w'.os = w.os) (htape : w'.tape = w.tape) (hout : w'.output = w.output) (hsz : w.heap.size ≤ w'.heap.size) (hk : ∀ k, k < w.heap.size → k ≠ A → k ≠ l → w'.heap[k]? = w.heap[k]?) (hbA : base ≤ A) (hbl : base ≤ l) (h1 : tg ≠ A ∧ tg ≠ l) (h2 : mg ≠ A ∧ mg ≠ l) : TabIn w' base tg mg N n hs hl := by
  obtain ⟨D, g1, g2⟩ := h.map
  obtain ⟨W0, n1, n2, n3⟩ := h.net
  have hgr : ∀ k, k ≠ A → k ≠ l → k < w.heap.size → w'.heap[k]? = w.heap[k]? := fun k a b c => hk k c a b
  refine ⟨(hgr tg h1.1 h1.2 (box_lt h.box)).trans h.box, ⟨W0, n1, n2, n3.trans ⟨hos, htape, hout, hsz, fun k hkk => hgr k (by omega) (by omega) (by have := n3.size; omega)⟩⟩, h.bt, h.bm, D, ?_, fun a ha => ?_⟩
  · have hlt := g1.lt
    obtain ⟨es, clock, hb, F, hs', hD⟩ := g1
    exact ⟨es, clock, (hgr mg h2.1 h2.2 hlt).trans hb, F, hs', hD⟩
  · obtain ⟨v, e, r1, r2, o, cap, r3, r4, r5, cur, r6⟩ := g2 a ha
    have ho := box_lt r6
    have hoA : o ≠ A := by rintro rfl; rw [hA] at r6; cases r6; exact hta rfl
    have hol' : o ≠ l := by rintro rfl; rw [hlo] at r6; exact hol cur (Option.some.inj r6)
    have e9 := hgr o hoA hol' ho
    refine ⟨v, e, r1, r2, o, cap, r3, r4, ⟨r5.hlen, r5.hcap, r5.hmax, (fun q => nomatch q), fun d hd h0 => ?_⟩, cur, e9.trans r6⟩
    cases hd
    obtain ⟨z1, z2, z3⟩ := r5.hat _ rfl h0
    exact ⟨z1, Nat.lt_of_lt_of_le z2 hsz, fun j u hu => by
      have := z3 j u hu
      simp only [World.cell?] at this ⊢
      rw [e9]; exact this⟩
/-- No row of the table lies in a block. -/
def TOff (w : World) (mg g : Nat) : Prop := ∀ (N : Nat) (D : DataW Value), w.ownsMap Try.prog 3 heldR mg N D → ∀ (a : Int) (v : Value), Maps.has D (.int .i64 a) = true → D.atKey (.int .i64 a) (.held (.slice none 0 0)) = .held v → v.ownBlock ≠ some g
theorem ownsMap_one {w : World} {mg N N' : Nat} {D D' : DataW Value} (h : w.ownsMap Try.prog 3 heldR mg N D) (h' : w.ownsMap Try.prog 3 heldR mg N' D') : D = D' := by
  obtain ⟨es, c, h1, -, -, h4⟩ := h
  obtain ⟨es', c', h1', -, -, h4'⟩ := h'
  rw [h1] at h1'
  cases h1'
  rw [h4, h4']
theorem ownsMap_same {w w' : World} {mg N : Nat} {D : DataW Value} (h : w'.ownsMap Try.prog 3 heldR mg N D) (he : w'.heap[mg]? = w.heap[mg]?) : w.ownsMap Try.prog 3 heldR mg N D := by
  obtain ⟨es, c, h1, h2, h3, h4⟩ := h
  exact ⟨es, c, he ▸ h1, h2, h3, h4⟩
theorem TOff.same {w w' : World} {mg g : Nat} (h : TOff w mg g) (he : w'.heap[mg]? = w.heap[mg]?) : TOff w' mg g := fun N D ho a v hh hv => h N D (ownsMap_same ho he) a v hh hv
theorem TabIn.off_new {w : World} {base tg mg N g : Nat} {n : Net} {hs hl : Hdr} (h : TabIn w base tg mg N n hs hl) (hg : w.heap.size ≤ g) : TOff w mg g := by
  intro N' D' ho a v hh hv e
  obtain ⟨D, g1, g2⟩ := h.map
  have := ownsMap_one g1 ho
  subst this
  obtain ⟨v', e', r1, r2, o, cap, r3, r4, r5, cur, r6⟩ := g2 a hh
  rw [e'] at hv
  have hv := DataW.held.inj hv
  subst hv
  rw [r3] at e
  have : o = g := by simpa [Value.ownBlock] using e
  have : o < w.heap.size := box_lt r6
  omega
/-- .. where a row of numbers of one's own grows that no row of the table lies in. -/
theorem TabIn.grown {w w' : World} {base tg mg N : Nat} {n : Net} {hs hl : Hdr} {row : Option Nat} (h : TabIn w base tg mg N n hs hl) (hg : w.grownBy w' row) (ho : ∀ g, row = some g → TOff w mg g ∧ base ≤ g ∧ g ≠ tg ∧ g ≠ mg) : TabIn w' base tg mg N n hs hl := by
  obtain ⟨D, g1, g2⟩ := h.map
  obtain ⟨W0, n1, n2, n3⟩ := h.net
  refine ⟨(hg.block tg (box_lt h.box) (fun e => (ho tg e.symm).2.2.1 rfl)).trans h.box, ⟨W0, n1, n2, n3.trans ⟨hg.os, hg.tape, hg.output, hg.size, fun k hk => hg.block k (by have := n3.size; omega) (fun e => by have := (ho k e.symm).2.1; omega)⟩⟩, h.bt, h.bm, D, g1.kept hg (fun e => (ho mg e.symm).2.2.2 rfl), fun a ha => ?_⟩
  obtain ⟨v, e, r1, r2, o, cap, r3, r4, r5, cur, r6⟩ := g2 a ha
  have e9 : w'.heap[o]? = w.heap[o]? := hg.block o (box_lt r6) (fun q => (ho o q.symm).1 N D g1 a v ha e (by rw [r3]; rfl))
  refine ⟨v, e, r1, r2, o, cap, r3, r4, ⟨r5.hlen, r5.hcap, r5.hmax, (fun q => nomatch q), fun d hd h0 => ?_⟩, cur, e9.trans r6⟩
  cases hd
  obtain ⟨z1, z2, z3⟩ := r5.hat _ rfl h0
  exact ⟨z1, Nat.lt_of_lt_of_le z2 hg.size, fun j u hu => by
    have := z3 j u hu
    simp only [World.cell?] at this ⊢
    rw [e9]; exact this⟩
/-- .. where two blocks are put anew that no row of the table lies in. -/
theorem TabIn.keepT {w w' : World} {base tg mg N A l : Nat} {n : Net} {hs hl : Hdr} (h : TabIn w base tg mg N n hs hl) (hA : TOff w mg A) (hL : TOff w mg l)
    (hos : w'.os = w.os) (htape : w'.tape = w.tape) (hout : w'.output = w.output) (hsz : w.heap.size ≤ w'.heap.size) (hk : ∀ k, k < w.heap.size → k ≠ A → k ≠ l → w'.heap[k]? = w.heap[k]?) (hbA : base ≤ A) (hbl : base ≤ l) (h1 : tg ≠ A ∧ tg ≠ l) (h2 : mg ≠ A ∧ mg ≠ l) : TabIn w' base tg mg N n hs hl := by
  obtain ⟨D, g1, g2⟩ := h.map
  obtain ⟨W0, n1, n2, n3⟩ := h.net
  have g0 := g1
  refine ⟨(hk tg (box_lt h.box) h1.1 h1.2).trans h.box, ⟨W0, n1, n2, n3.trans ⟨hos, htape, hout, hsz, fun k hkk => hk k (by have := n3.size; omega) (by omega) (by omega)⟩⟩, h.bt, h.bm, D, ?_, fun a ha => ?_⟩
  · have hlt := g1.lt
    obtain ⟨es, clock, hb, F, hs', hD⟩ := g1
    exact ⟨es, clock, (hk mg hlt h2.1 h2.2).trans hb, F, hs', hD⟩
  · obtain ⟨v, e, r1, r2, o, cap, r3, r4, r5, cur, r6⟩ := g2 a ha
    have e9 : w'.heap[o]? = w.heap[o]? := hk o (box_lt r6) (fun q => hA N D g0 a v ha e (by rw [r3, q]; rfl)) (fun q => hL N D g0 a v ha e (by rw [r3, q]; rfl))
    refine ⟨v, e, r1, r2, o, cap, r3, r4, ⟨r5.hlen, r5.hcap, r5.hmax, (fun q => nomatch q), fun d hd h0 => ?_⟩, cur, e9.trans r6⟩
    cases hd
    obtain ⟨z1, z2, z3⟩ := r5.hat _ rfl h0
    exact ⟨z1, Nat.lt_of_lt_of_le z2 hsz, fun j u hu => by
      have := z3 j u hu
      simp only [World.cell?] at this ⊢
      rw [e9]; exact this⟩
/-- What a table's functions change; their rows are new. -/
structure ChgT (w w' : World) (mg : Nat) : Prop where
  chg : Chg w w' mg none
  rows : ∀ g, g < w.heap.size → TOff w mg g → TOff w' mg g
theorem ChgT.refl (w : World) (mg : Nat) : ChgT w w mg := ⟨Chg.refl _ _ _, fun _ _ h => h⟩
theorem ChgT.of_below {w w' : World} {mg : Nat} (h : Below w.heap.size w w') (hm : mg < w.heap.size) : ChgT w w' mg := ⟨Chg.of_below h mg none, fun _ _ ho => ho.same (h.block mg hm)⟩
theorem ChgT.trans {w w' w'' : World} {mg : Nat} (h : ChgT w w' mg) (h' : ChgT w' w'' mg) : ChgT w w'' mg := ⟨h.chg.trans h'.chg (.inl rfl), fun g hg ho => h'.rows g (Nat.lt_of_lt_of_le hg h.chg.size) (h.rows g hg ho)⟩
theorem box4_cells {w : World} {g : Nat} {e : TypeId} {u0 u1 u2 u3 : Value} (h : w.heap[g]? = some (.cells #[u0, u1, u2, u3] e (0, 0))) : w.cell? ⟨g, 0, none⟩ = some u0 ∧ w.cell? ⟨g, 1, none⟩ = some u1 ∧ w.cell? ⟨g, 2, none⟩ = some u2 ∧ w.cell? ⟨g, 3, none⟩ = some u3 :=
  ⟨(box_cell h 0).1, (box_cell h 1).1, (box_cell h 2).1, (box_cell h 3).1⟩

set_option maxHeartbeats 2000000 in
theorem tnew_any (n : Net) (hs hl : Hdr) (w : World) (hm : hs.n ≤ 1000000 ∧ hl.n ≤ 1000000) (h : NetIn w n hs hl) :
    Calls Try.prog 20 #[n.val hs hl] w fun e w' => Below w.heap.size w w' ∧ (checkE n ≠ 0 → e = .returned (.tuple #[.pointer none, .int .i64 (checkE n)])) ∧
      (checkE n = 0 → ∃ tg, e = .returned (.tuple #[.pointer (some ⟨tg, 0, none⟩), .int .i64 0]) ∧ ∃ mg, TabIn w' w.heap.size tg mg 0 n hs hl ∧ tg ≠ mg) := by
  have hmm := @run_makeMap Try.prog
  obtain ⟨sa, k, sc⟩ := hs
  obtain ⟨la, m, lc⟩ := hl
  have HH := Lib.hid h
  have HX := Lib.hid (box_new w (n.box ⟨sa, k, sc⟩ ⟨la, m, lc⟩))
  have HB0 : Hid (Below w.heap.size w (w.alloc (n.box ⟨sa, k, sc⟩ ⟨la, m, lc⟩))) := (Below.refl _ _).alloc (Nat.le_refl _) _
  have HM := Lib.hid hm
  obtain ⟨c0, c1, c2, -, -, -⟩ := box3_cells HX.out
  obtain ⟨ce, hce⟩ : ∃ ce, checkE n = ce := ⟨_, rfl⟩
  have HCE := Lib.hid hce
  clear hce hm h
  go_enter Try.func20, Try.ntmps20
  go_upto_region 2 with (go_at_call 48; refine (check_any n ⟨sa, k, sc⟩ ⟨la, m, lc⟩ _ HM.out (HH.out.below HB0.out)).mono ?_; rintro e w1 ⟨rfl, hb1⟩; rw [HCE.out]; have HB1 := Lib.hid (HB0.out.trans (hb1.mono HB0.out.size)); have HX1 := Lib.hid (box_below HX.out hb1); clear hb1)
  clear c0 c1 c2 HX HB0
  obtain ⟨c0, c1, c2, -, -, -⟩ := box3_cells HX1.out
  by_cases he : ce = 0
  case neg =>
    have e0 : (ce == 0) = false := by simpa using he
    go_wp2_with fail
    go_ret2
    exact ⟨HB1.out, fun _ => by rw [HCE.out]; rfl, fun q => absurd (HCE.out.symm.trans q) he⟩
  case pos =>
    subst he
    go_wp2_with fail
    go_ret2
    have hsz := HB1.out.size
    have hb2 : Below w1.heap.size w1 (w1.alloc (.map #[] 0)) := (Below.refl _ _).alloc (Nat.le_refl _) _
    have hb3 := hb2.alloc hb2.size (.cells #[.int .i64 n.ver, .slice sa k sc, .slice la m lc, .map (some w1.heap.size)] 111)
    refine ⟨HB1.out.trans (hb3.mono hsz), fun q => absurd HCE.out q, fun _ => ?_⟩
    refine ⟨w1.heap.size + 1, rfl, w1.heap.size, ⟨?_, ⟨w, rfl, HH.out, HB1.out.trans (hb3.mono hsz)⟩, ?_, hsz, .map [], ?_, fun a ha => ?_⟩, by omega⟩
    · have := box_new (w1.alloc (.map #[] 0)) (.cells #[.int .i64 n.ver, .slice sa k sc, .slice la m lc, .map (some w1.heap.size)] 111)
      simpa using this
    · omega
    · exact (World.ownsMap_made w1 Try.prog 3 heldR).alloc _
    · simp [Maps.has] at ha

set_option maxHeartbeats 1000000 in
set_option maxRecDepth 100000 in
theorem tis_any (w : World) (base tg mg N : Nat) (n : Net) (hs hl : Hdr) (h : TabIn w base tg mg N n hs hl) : Calls Try.prog 110 #[.pointer (some ⟨tg, 0, none⟩)] w fun e w' => e = .returned (.bool true) ∧ w = w' := by
  obtain ⟨c0, c1, c2, c3⟩ := box4_cells h.box
  clear h
  have hne : ∀ w, (binOp .neq 109 (.map (some mg)) (.map none)).run Try.prog w = .ok (.bool true) w := fun w => by kernel_rfl
  go_enter Try.func110, Try.ntmps110
  go_wp2
  go_ret
  exact ⟨rfl, rfl⟩
set_option maxHeartbeats 1000000 in
theorem tlen_any (w : World) (base tg mg N : Nat) (n : Net) (hs hl : Hdr) (h : TabIn w base tg mg N n hs hl) : Calls Try.prog 100 #[.pointer (some ⟨tg, 0, none⟩)] w fun e w' => e = .returned (.int .i64 hs.n) ∧ w = w' := by
  obtain ⟨c0, c1, c2, c3⟩ := box4_cells h.box
  have HH := Lib.hid h
  clear h
  go_enter Try.func100, Try.ntmps100
  go_wp2_with (go_at_call 110; refine (tis_any _ base tg mg N n hs hl HH.out).mono ?_; rintro e w1 ⟨rfl, rfl⟩)
  go_ret
  exact ⟨rfl, rfl⟩
theorem TabIn.upto {w : World} {base tg mg N M : Nat} {n : Net} {hs hl : Hdr} (h : TabIn w base tg mg N n hs hl) (hN : N ≤ M) : TabIn w base tg mg M n hs hl := by
  obtain ⟨D, h1, h2⟩ := h.map
  exact ⟨h.box, h.net, h.bt, h.bm, D, h1.mono hN, h2⟩
theorem TabIn.mg_lt {w : World} {base tg mg N : Nat} {n : Net} {hs hl : Hdr} (h : TabIn w base tg mg N n hs hl) : mg < w.heap.size := by
  obtain ⟨D, h1, -⟩ := h.map
  exact h1.lt
end Go.Proofs.Ythhpgahnhpgmeaa.Ne
