/- Networks out of bytes: what graph.Take has in memory. -/
/- Networks out of bytes: graph.Take, walked. -/
import Derived.Test.YtnjgonplojpcnaaWiY
import Derived.Test.YtnjgonplojpcnaaWiU
import Derived.Test.YtnjgonplojpcnaaWiR
import Derived.Test.YtnjgonplojpcnaaNeK
import Derived.Test.YtnjgonplojpcnaaNeD
namespace Go.Proofs.Ytnjgonplojpcnaa.Gt
open Go.RowKit Go.V Go.Proofs Go.Sort Go.Proofs.Ytnjgonplojpcnaa.Wi
open Go.Proofs.Ytnjgonplojpcnaa.Ne (box_alloc box_new box_cell box_below box_lt box3_cells Stp Net NetIn lcod eltStp eltLnk checkE check_any)

theorem box3_set {w : World} {g : Nat} {e : TypeId} {u0 u1 u2 : Value} (h : w.heap[g]? = some (.cells #[u0, u1, u2] e (0, 0))) (v0 v1 v2 : Value) : (((w.setCell ⟨g, 0, none⟩ v0).setCell ⟨g, 1, none⟩ v1).setCell ⟨g, 2, none⟩ v2).heap[g]? = some (.cells #[v0, v1, v2] e (0, 0)) := by
  have h1 := heap_setCell_same w g 0 _ e v0 h
  have h2 := heap_setCell_same _ g 1 _ e v1 h1
  have h3 := heap_setCell_same _ g 2 _ e v2 h2
  rw [h3]; rfl
theorem below_set3 {w wr : World} {B g : Nat} (hb : Below B w wr) (hg : B ≤ g) (v0 v1 v2 : Value) : Below B w (((wr.setCell ⟨g, 0, none⟩ v0).setCell ⟨g, 1, none⟩ v1).setCell ⟨g, 2, none⟩ v2) :=
  ((hb.setCell (p := ⟨g, 0, none⟩) hg v0).setCell (p := ⟨g, 1, none⟩) hg v1).setCell (p := ⟨g, 2, none⟩) hg v2
theorem results_row_tmp {P : Program} {fn : Func} {p u : Tmp} {ty : TypeId} (h : fn.results = #[.cell p ty, .tmp u]) (tmps : Array Value) (w : World) (g : Nat) (t : TypeId) (cs : Array Value) (fr : Nat × Nat) (d : TypeDesc)
    (hp : tmps.getD p undef = .pointer (some ⟨g, 0, none⟩)) (hg : w.heap[g]? = some (.cells cs t fr))
    (hu : P.underlying ty = some d) (hd : (match d with | .struct _ | .array _ _ => true | _ => false) = true) (hi : (P.info? ty).map (·.size) = some cs.size) :
    (results fn tmps).run P w = .ok (.tuple #[.agg cs, tmps.getD u undef]) w := by
  rw [results_cell_tmp h, hp]
  simp [asAddr, run_loadVar_row w g t ty cs fr d hg hu hd hi, Result.andThen]
/-- Two rows of unlike things lie apart. -/
theorem own_apart {α β : Type} {c : Cod α} {c2 : Cod β} {e e2 : TypeId} {B B2 : Nat} {w : World} {v u : Value} {xs : List α} {ys : List β} (h : V.Own e c B w v xs) (h2 : V.Own e2 c2 B2 w u ys) (ht : e ≠ e2) : v.ownBlock = none ∨ v.ownBlock ≠ u.ownBlock := by
  obtain ⟨-, h1⟩ := h
  obtain ⟨-, h2⟩ := h2
  rcases h1 with ⟨rfl, -⟩ | ⟨b, cap, cur, rfl, -, hb, -⟩
  · exact .inl rfl
  refine .inr ?_
  rcases h2 with ⟨rfl, -⟩ | ⟨b2, cap2, cur2, rfl, -, hb2, -⟩
  · simp [Value.ownBlock]
  · intro q
    simp [Value.ownBlock] at q
    subst q
    rw [hb] at hb2
    simp at hb2
    exact ht hb2.2
theorem set_grown (w : World) (g j : Nat) (v : Value) : w.grownBy (w.setCell ⟨g, j, none⟩ v) (some g) :=
  ⟨rfl, rfl, rfl, by simp, fun k _ hk => heap_setCell_other _ ⟨g, j, none⟩ k v (fun e => hk (by simp [e]))⟩
theorem drew_grown (w : World) (r : Option Nat) : w.grownBy w.drew r := ⟨rfl, rfl, rfl, Nat.le_refl _, fun _ _ _ => rfl⟩
theorem own_lt_ne {α : Type} {c : Cod α} {e : TypeId} {B g : Nat} {w : World} {v : Value} {xs : List α} (h : V.Own e c B w v xs) (hg : g < B) : v.ownBlock = none ∨ v.ownBlock ≠ some g :=
  .inr (fun q => by have := (World.ownsRow.lt h g q).1; omega)

theorem own_set3 {α : Type} {c : Cod α} {e : TypeId} {B q : Nat} {w : World} {v : Value} {xs : List α} (h : V.Own e c B w v xs) (hq : q < B) (v0 v1 v2 : Value) : V.Own e c B (((w.setCell ⟨q, 0, none⟩ v0).setCell ⟨q, 1, none⟩ v1).setCell ⟨q, 2, none⟩ v2) v xs :=
  ((h.kept (set_grown _ q 0 v0) (own_lt_ne h hq)).kept (set_grown _ q 1 v1) (own_lt_ne h hq)).kept (set_grown _ q 2 v2) (own_lt_ne h hq)
theorem own_sl {α : Type} {c : Cod α} {e : TypeId} {B : Nat} {w : World} {a : Option Addr} {n cap : Nat} {xs : List α} (h : V.Own e c B w (.slice a n cap) xs) : Sl c w a n cap xs := by
  obtain ⟨a1, b1, e1, s1, -⟩ := h.slice
  cases e1
  exact s1

structure GT (w1 W : World) (g y : Nat) (va : Option Addr) (vn vc : Nat) (c : List Int) (s : Nat × Int) (ver : Int) (sv : Value) (xs : List Stp) (lv : Value) (ls : List Lnk) : Prop where
  rd : Fb W g va vn vc s.1 s.2
  hat : s.1 ≤ vn
  bx : W.heap[y]? = some (.cells #[.int .i64 ver, sv, lv] 46 (0, 0))
  st : V.Own 99 Stp.cod (y + 1) W sv xs
  lk : V.Own 63 lcod (y + 1) W lv ls
  bl : Below g w1 W
  sz : w1.heap.size = g
  gy : g < y
  sl : Sl bcod w1 va vn vc c

section
variable {w1 W W' : World} {g y : Nat} {va : Option Addr} {vn vc : Nat} {c : List Int} {s : Nat × Int} {ver : Int} {sv : Value} {xs : List Stp} {lv : Value} {ls : List Lnk}
theorem GT.grown (h : GT w1 W g y va vn vc c s ver sv xs lv ls) (hg : W.grownBy W' (some g)) {s' : Nat × Int} (hr : Fb W' g va vn vc s'.1 s'.2) (ha : s'.1 ≤ vn) : GT w1 W' g y va vn vc c s' ver sv xs lv ls :=
  ⟨hr, ha, (hg.block y (box_lt h.bx) (fun q => by have := Option.some.inj q; have := h.gy; omega)).trans h.bx, h.st.kept hg (own_lt_ne h.st (by have := h.gy; omega)), h.lk.kept hg (own_lt_ne h.lk (by have := h.gy; omega)),
    h.bl.grown hg (by have := h.sz; have := h.bl.size; omega) (fun k hk => by have := Option.some.inj hk; omega), h.sz, h.gy, h.sl⟩
theorem GT.drew (h : GT w1 W g y va vn vc c s ver sv xs lv ls) : GT w1 W.drew g y va vn vc c s ver sv xs lv ls := h.grown (drew_grown W _) h.rd h.hat
theorem GT.below (h : GT w1 W g y va vn vc c s ver sv xs lv ls) (hb : Below W.heap.size W W') : GT w1 W' g y va vn vc c s ver sv xs lv ls :=
  ⟨(hb.block g (box_lt h.rd)).trans h.rd, h.hat, (hb.block y (box_lt h.bx)).trans h.bx, h.st.below hb, h.lk.below hb, h.bl.trans (hb.mono (by have := box_lt h.rd; omega)), h.sz, h.gy, h.sl⟩
theorem GT.num (h : GT w1 W g y va vn vc c s ver sv xs lv ls) (hB : Byt c) (hn : vn ≤ 1000000000) (most : Int) :
    Calls Try.prog 57 #[.pointer (some ⟨g, 0, none⟩), .int .i64 most] W fun e W' => e = .returned (.int .i64 (rdN c most s.1 s.2).1) ∧ GT w1 W' g y va vn vc c (rdN c most s.1 s.2).2 ver sv xs lv ls := by
  refine (fnum_any g va vn vc s.1 s.2 most c W h.rd (h.sl.below (by have := h.bl; rw [← h.sz] at this; exact this)) hB hn h.hat).mono ?_
  rintro e W' ⟨rfl, hr, hg⟩
  exact ⟨rfl, h.grown hg hr (by rw [h.sl.hlen]; exact rdN_at hB (by rw [← h.sl.hlen]; exact h.hat))⟩
theorem GT.stop (h : GT w1 W g y va vn vc c s ver sv xs lv ls) (o : Obj) {W4 : World} {sv' : Value} {xs' : List Stp} (ho : V.Own 99 Stp.cod (y + 1) W4 sv' xs') (hg : (W.alloc o).grownBy W4 sv.ownBlock) :
    GT w1 (W4.setCell ⟨y, 1, none⟩ sv') g y va vn vc c s ver sv' xs' lv ls := by
  have hgy := h.gy
  have hsa := h.st.alloc o
  have hla := h.lk.alloc o
  have hba := box_alloc (o := o) h.bx
  have hra := box_alloc (o := o) h.rd
  have hnb : ∀ k, k < y + 1 → some k ≠ sv.ownBlock := fun k hk q => by have := (World.ownsRow.lt h.st k q.symm).1; omega
  have hb4 : W4.heap[y]? = some (.cells #[.int .i64 ver, sv, lv] 46 (0, 0)) := (hg.block y (box_lt hba) (hnb y (by omega))).trans hba
  have hr4 : W4.heap[g]? = _ := (hg.block g (box_lt hra) (hnb g (by omega))).trans hra
  have hs := set_grown W4 y 1 sv'
  refine ⟨?_, h.hat, ?_, ho.kept hs (own_lt_ne ho (by omega)), (hla.kept hg (own_apart hla hsa (by decide))).kept hs (own_lt_ne h.lk (by omega)), ?_, h.sz, hgy, h.sl⟩
  · exact (heap_setCell_other W4 ⟨y, 1, none⟩ g sv' (by show g ≠ y; omega)).trans hr4
  · exact heap_setCell_same W4 y 1 _ _ _ hb4
  · have hb1 : Below g w1 (W.alloc o) := h.bl.alloc (by have := h.sz; have := h.bl.size; omega) o
    have hb2 : Below g w1 W4 := hb1.grown hg (by have := h.sz; have := hb1.size; omega) (fun k hk => by have := (World.ownsRow.lt h.st k hk).1; omega)
    exact hb2.setCell (p := ⟨y, 1, none⟩) (by show g ≤ y; omega) _
theorem GT.link (h : GT w1 W g y va vn vc c s ver sv xs lv ls) (o : Obj) {W4 : World} {lv' : Value} {ls' : List Lnk} (ho : V.Own 63 lcod (y + 1) W4 lv' ls') (hg : (W.alloc o).grownBy W4 lv.ownBlock) :
    GT w1 (W4.setCell ⟨y, 2, none⟩ lv') g y va vn vc c s ver sv xs lv' ls' := by
  have hgy := h.gy
  have hsa := h.st.alloc o
  have hla := h.lk.alloc o
  have hba := box_alloc (o := o) h.bx
  have hra := box_alloc (o := o) h.rd
  have hnb : ∀ k, k < y + 1 → some k ≠ lv.ownBlock := fun k hk q => by have := (World.ownsRow.lt h.lk k q.symm).1; omega
  have hb4 : W4.heap[y]? = some (.cells #[.int .i64 ver, sv, lv] 46 (0, 0)) := (hg.block y (box_lt hba) (hnb y (by omega))).trans hba
  have hr4 : W4.heap[g]? = _ := (hg.block g (box_lt hra) (hnb g (by omega))).trans hra
  have hs := set_grown W4 y 2 lv'
  refine ⟨?_, h.hat, ?_, (hsa.kept hg (own_apart hsa hla (by decide))).kept hs (own_lt_ne h.st (by omega)), ho.kept hs (own_lt_ne ho (by omega)), ?_, h.sz, hgy, h.sl⟩
  · exact (heap_setCell_other W4 ⟨y, 2, none⟩ g lv' (by show g ≠ y; omega)).trans hr4
  · exact heap_setCell_same W4 y 2 _ _ _ hb4
  · have hb1 : Below g w1 (W.alloc o) := h.bl.alloc (by have := h.sz; have := h.bl.size; omega) o
    have hb2 : Below g w1 W4 := hb1.grown hg (by have := h.sz; have := hb1.size; omega) (fun k hk => by have := (World.ownsRow.lt h.lk k hk).1; omega)
    exact hb2.setCell (p := ⟨y, 2, none⟩) (by show g ≤ y; omega) _
end
end Go.Proofs.Ytnjgonplojpcnaa.Gt

namespace Go.Proofs.Ytnjgonplojpcnaa.Gt
open Go.RowKit Go.V Go.Proofs Go.Sort Go.Proofs.Ytnjgonplojpcnaa.Wi
open Go.Proofs.Ytnjgonplojpcnaa.Ne (box_alloc box_new box_cell box_below box_lt box3_cells Stp Net NetIn lcod eltStp eltLnk checkE check_any rdNet rdMany rdStop rdLink)

def net0 : Net := ⟨0, [], []⟩
/-- The network of bytes, and why not. -/
def takeN (b : List Int) : Net × Int :=
  if (wholeF 3 b).2 ≠ 0 then (net0, (wholeF 3 b).2) else
  if doneE (wholeF 3 b).1 (rdNet (wholeF 3 b).1).2.1 (rdNet (wholeF 3 b).1).2.2 ≠ 0 then (net0, doneE (wholeF 3 b).1 (rdNet (wholeF 3 b).1).2.1 (rdNet (wholeF 3 b).1).2.2) else
  if checkE (rdNet (wholeF 3 b).1).1 ≠ 0 then (net0, 2) else ((rdNet (wholeF 3 b).1).1, 0)
theorem takeN_of {b c : List Int} {ce : Int} (h : wholeF 3 b = (c, ce)) : takeN b = if ce ≠ 0 then (net0, ce) else
  if doneE c (rdNet c).2.1 (rdNet c).2.2 ≠ 0 then (net0, doneE c (rdNet c).2.1 (rdNet c).2.2) else if checkE (rdNet c).1 ≠ 0 then (net0, 2) else ((rdNet c).1, 0) := by
  unfold takeN; rw [h]
theorem rdMany_snoc {α : Type} (f : Nat × Int → α × (Nat × Int)) : ∀ (k : Nat) (s : Nat × Int), rdMany f (k + 1) s = ((rdMany f k s).1 ++ [(f (rdMany f k s).2).1], (f (rdMany f k s).2).2)
  | 0, s => rfl
  | k + 1, s => by
    have ih := rdMany_snoc f k (f s).2
    show ((f s).1 :: (rdMany f (k + 1) (f s).2).1, (rdMany f (k + 1) (f s).2).2) = _
    rw [ih]; rfl
theorem wholeF_sub (kd : Int) {b : List Int} (hb : Byt b) : Byt (wholeF kd b).1 ∧ (wholeF kd b).1.length ≤ b.length := by
  have nl : Byt ([] : List Int) ∧ ([] : List Int).length ≤ b.length := ⟨fun x hx => (nomatch hx), Nat.zero_le _⟩
  have ht : Byt (takeF b).2.1 ∧ (takeF b).2.1.length ≤ b.length := by
    unfold takeF
    split
    · exact nl
    · next m b1 =>
      split
      · exact nl
      · split
        · exact nl
        · next kd b2 =>
          simp only []
          split
          · exact nl
          split
          · exact nl
          split
          · exact nl
          split
          · exact nl
          · exact ⟨(hb.take _).drop _, by simp only [List.length_drop, List.length_take]; omega⟩
  unfold wholeF
  simp only []
  split
  · exact nl
  split
  · exact nl
  split
  · exact nl
  · exact ht
theorem net0_in (w : World) : NetIn w net0 ⟨none, 0, 0⟩ ⟨none, 0, 0⟩ :=
  ⟨⟨rfl, Nat.le_refl _, by unfold maxLen; simp, fun _ => ⟨rfl, rfl⟩, fun d hd => nomatch hd⟩, ⟨rfl, Nat.le_refl _, by unfold maxLen; simp, fun _ => ⟨rfl, rfl⟩, fun d hd => nomatch hd⟩⟩

theorem rdNet_of {c : List Int} {v0 : Int × (Nat × Int)} {K M : Nat} {ks st ms sl : Nat × Int} {xs : List Stp} {ls : List Lnk} (h1 : rdN c 1048576 0 0 = v0) (h2 : rdN c 4096 v0.2.1 v0.2.2 = ((K : Int), ks)) (h3 : rdMany (rdStop c) K ks = (xs, st))
    (h4 : rdN c 16384 st.1 st.2 = ((M : Int), ms)) (h5 : rdMany (rdLink c) M ms = (ls, sl)) : rdNet c = (⟨v0.1, xs, ls⟩, sl) := by
  unfold rdNet
  simp only [h1, h2, Int.toNat_natCast, h3, h4, h5]
theorem rdN_most (c : List Int) (most : Int) (s : Nat) (e : Int) (h : 0 ≤ most) : ∃ K : Nat, (rdN c most s e).1 = (K : Int) ∧ (K : Int) ≤ most := by
  unfold rdN
  split
  · exact ⟨0, rfl, by simpa using h⟩
  simp only []
  split
  · exact ⟨0, rfl, by simpa using h⟩
  split
  · next hh => exact ⟨_, rfl, hh.1⟩
  · exact ⟨0, rfl, by simpa using h⟩

set_option maxHeartbeats 8000000 in
set_option maxRecDepth 100000 in
theorem gtake_any (a : Option Addr) (n cap : Nat) (b : List Int) (w : World) (h : Sl bcod w a n cap b) (hB : Byt b) (hn : n ≤ 1000000) :
    Calls Try.prog 23 #[.slice a n cap] w fun e w' => ∃ hs hl, e = .returned (.tuple #[(takeN b).1.val hs hl, .int .i64 (takeN b).2]) ∧ NetIn w' (takeN b).1 hs hl ∧ Below w.heap.size w w' := by
  have HLN : Hid (n = b.length) := h.hlen
  have HS := Lib.hid h
  have HB0 : Hid (Below w.heap.size w (w.alloc (.cells #[.int .i64 0, .slice none 0 0, .slice none 0 0] 46))) := (Below.refl _ _).alloc (Nat.le_refl _) _
  have HZ0 : Hid ((w.alloc (.cells #[.int .i64 0, .slice none 0 0, .slice none 0 0] 46)).heap[w.heap.size]? = some (.cells #[.int .i64 0, .slice none 0 0, .slice none 0 0] 46 (0, 0))) := box_new _ _
  have HSUB := Lib.hid (wholeF_sub 3 hB)
  have HW := Lib.hid (fwhole_any 3 a n cap b (w.alloc (.cells #[.int .i64 0, .slice none 0 0, .slice none 0 0] 46)) (HS.out.below HB0.out) hB (by omega))
  obtain ⟨C, hC⟩ : ∃ C, wholeF 3 b = C := ⟨_, rfl⟩
  rw [hC] at HW HSUB
  obtain ⟨c, ce⟩ := C
  have HTN := Lib.hid (takeN_of hC)
  simp only [] at HW HSUB
  clear h hB hC
  by_cases h0 : ce = 0
  case neg =>
    have hd : (ce != 0) = true := by simpa using h0
    have HR : Hid (takeN b = (net0, ce)) := by show _ = _; rw [HTN.out, if_pos h0]
    clear h0
    go_enter Try.func23, Try.ntmps23
    go_upto_region 3 with (go_at_call 55; go_loud (refine HW.out.mono ?_); rintro e w1 ⟨v, rfl, -, -, hb1⟩; have HB1 := Lib.hid (HB0.out.trans (hb1.mono HB0.out.size)); have HZ1 := Lib.hid (box_below HZ0.out hb1); clear hb1)
    obtain ⟨c0, c1, c2, f0, f1, f2⟩ := box3_cells HZ1.out
    go_wp2_with fail
    refine bodyPost_ret (results_row_tmp rfl _ _ w.heap.size _ _ _ _ rfl (box3_set HZ1.out _ _ _) Try.underlying46 rfl (by kernel_rfl)) rfl ?_
    rw [HR.out]
    exact ⟨⟨none, 0, 0⟩, ⟨none, 0, 0⟩, rfl, net0_in _, below_set3 HB1.out (Nat.le_refl _) _ _ _⟩
  subst h0
  rw [if_neg (by simp)] at HTN
  go_enter Try.func23, Try.ntmps23
  go_upto_region 4 with (go_at_call 55; go_loud (refine HW.out.mono ?_); rintro e w1 ⟨v, rfl, -, ho1, hb1⟩; obtain ⟨va, vc, rfl, hsl1, -⟩ := ho1.slice; have HB1 := Lib.hid (HB0.out.trans (hb1.mono HB0.out.size)); have HZ1 := Lib.hid (box_below HZ0.out hb1); have HSL1 := Lib.hid hsl1; clear hb1 ho1 hsl1)
  have hvn : c.length ≤ 1000000000 := by have := HSUB.out.2; have := HLN.out; omega
  have HBC := Lib.hid HSUB.out.1
  obtain ⟨vn, hvne⟩ : ∃ vn, c.length = vn := ⟨_, rfl⟩
  rw [hvne] at HSL1 hvn ⊢
  have HVN := Lib.hid hvne
  clear hvne
  obtain ⟨v0, hv0⟩ : ∃ v0, rdN c 1048576 0 0 = v0 := ⟨_, rfl⟩
  have HV0 := Lib.hid hv0
  clear hv0
  go_upto_region 6 with (first
    | (go_at_call 56; go_loud (refine (fread_any va vn vc w1).mono ?_); rintro e w2 ⟨rfl, hf2, hb2⟩; have HF2 := Lib.hid hf2; have HB2 := Lib.hid hb2; clear hf2 hb2)
    | (go_at_call 57; go_loud (refine (fnum_any w1.heap.size va vn vc 0 0 1048576 c w2 HF2.out (HSL1.out.below HB2.out) HBC.out hvn (Nat.zero_le _)).mono ?_); rintro e w3 ⟨rfl, hf3, hg3⟩; rw [HV0.out] at hf3 ⊢; have HF3 := Lib.hid hf3; have HG3 := Lib.hid hg3; clear hf3 hg3))
  have hgy : w1.heap.size < w3.heap.size := Nat.lt_of_lt_of_le (box_lt HF2.out) HG3.out.size
  have HG : Hid (GT w1 (w3.alloc (.cells #[.int .i64 v0.1, .slice none 0 0, .slice none 0 0] 46)) w1.heap.size w3.heap.size va vn vc c v0.2 v0.1 (.slice none 0 0) [] (.slice none 0 0) []) :=
    ⟨box_alloc HF3.out, by have := rdN_at (most := 1048576) (at_ := 0) (bad := 0) HBC.out (Nat.zero_le _); rw [HV0.out, HVN.out] at this; exact this, box_new _ _, Own.nil, Own.nil,
      (HB2.out.grown HG3.out HB2.out.size (fun k hk => by have := Option.some.inj hk; omega)).alloc (by omega) _, rfl, hgy, HSL1.out⟩
  obtain ⟨W, hW⟩ : ∃ W, w3.alloc (.cells #[.int .i64 v0.1, .slice none 0 0, .slice none 0 0] 46) = W := ⟨_, rfl⟩
  obtain ⟨g, hg⟩ : ∃ g, w1.heap.size = g := ⟨_, rfl⟩
  obtain ⟨y, hy⟩ : ∃ y, w3.heap.size = y := ⟨_, rfl⟩
  rw [hW] at HG ⊢
  rw [hg] at HG hgy ⊢
  rw [hy] at HG hgy ⊢
  have HGE := Lib.hid hg
  clear hW hg hy HF2 HB2 HF3 HG3
  obtain ⟨K, hK, hK2⟩ := rdN_most c 4096 v0.2.1 v0.2.2 (by omega)
  obtain ⟨k, hk⟩ : ∃ k, rdN c 4096 v0.2.1 v0.2.2 = k := ⟨_, rfl⟩
  have HKE := Lib.hid hk
  rw [hk] at hK
  obtain ⟨kv, ks⟩ := k
  have hK : kv = (K : Int) := hK
  subst hK
  clear hk
  go_upto_region 7 with (go_at_call 57; go_loud (refine (HG.out.num HBC.out hvn 4096).mono ?_); rintro e W1 ⟨rfl, hg1⟩; rw [HKE.out] at hg1 ⊢; have HG1 := Lib.hid hg1; clear hg1)
  obtain ⟨y1, hy1⟩ : ∃ y1 : Nat × Int, (y1 : Nat × Int) = ks := ⟨_, rfl⟩
  have HGB := Lib.hid HG1.out.bl
  clear HG hy1
  go_loopw [25] (fun vi wr => ∃ (i : Nat) (sv : Value), vi = .int .i64 ((i : Nat) : Int) ∧ i ≤ K ∧ Hid (GT w1 wr g y va vn vc c (rdMany (rdStop c) i ks).2 v0.1 sv (rdMany (rdStop c) i ks).1 (.slice none 0 0) [])) (fun vi _ => K - (intOf vi).toNat)
  case atStart => exact ⟨0, _, rfl, Nat.zero_le _, HG1.out⟩
  case round =>
    obtain ⟨i, sv, rfl, hi, HGI⟩ := hrel
    have HSN := Lib.hid (rdMany_snoc (rdStop c) i ks)
    have HLN1 := Lib.hid (Go.Proofs.Ytnjgonplojpcnaa.Ne.rdMany_len (rdStop c) i ks)
    obtain ⟨R, hR⟩ : ∃ R, rdMany (rdStop c) i ks = R := ⟨_, rfl⟩
    rw [hR] at HGI HSN HLN1
    obtain ⟨xs, st⟩ := R
    have HRI := Lib.hid hR
    simp only [] at HGI HSN HLN1
    clear hR
    by_cases hlt : i < K
    · have hii : (i : Int) < (K : Int) := by omega
      obtain ⟨x, hx⟩ : ∃ x, rdN c 67108863 st.1 st.2 = x := ⟨_, rfl⟩
      obtain ⟨z, hz⟩ : ∃ z, rdN c 67108863 x.2.1 x.2.2 = z := ⟨_, rfl⟩
      have HX := Lib.hid hx
      have HZ := Lib.hid hz
      have HNX : Hid (rdMany (rdStop c) (i + 1) ks = (xs ++ [⟨x.1, z.1⟩], z.2)) := by
        show _ = _
        rw [HSN.out]; unfold rdStop; simp only []; rw [hx, hz]
      obtain ⟨sa, sc, hsv, -, -⟩ := HGI.out.st.slice
      rw [HLN1.out] at hsv
      subst hsv
      have HM1 : Hid (xs.length + 1 ≤ maxLen) := by show _ ≤ _; rw [HLN1.out]; unfold maxLen; omega
      have HM2 : Hid ((xs.length + 1) * 16 ≤ 140737488355328) := by show _ ≤ _; rw [HLN1.out]; omega
      have HLA : Hid ((xs ++ [(⟨x.1, z.1⟩ : Stp)]).length = i + 1) := by show _ = _; rw [List.length_append, HLN1.out]; rfl
      obtain ⟨-, c1, -, -, f1, -⟩ := box3_cells HGI.out.bx
      clear hx hz
      have hy2 : y < wr.heap.size := box_lt HGI.out.bx
      go_upto_region 8 with fail
      go_region_law (first
        | (go_simp; go_at_call 57; go_fit (HGI.out.drew.num HBC.out hvn 67108863); rintro e W2 ⟨rfl, hg2⟩; rw [HX.out] at hg2 ⊢; have HG2 := Lib.hid hg2; obtain ⟨-, c2, -, -, f2, -⟩ := box3_cells hg2.bx; have hyl2 := box_lt hg2.bx; clear hg2)
        | (go_simp; go_at_call 57; go_fit (HG2.out.num HBC.out hvn 67108863); rintro e W3 ⟨rfl, hg3⟩; rw [HZ.out] at hg3 ⊢; have HG3 := Lib.hid hg3; obtain ⟨-, c3, -, -, f3, -⟩ := box3_cells hg3.bx; have hyl3 := box_lt hg3.bx; clear hg3)
        | (go_loud (refine step_app_at eltStp rfl (.tmp 28) (.tmp 34) rfl (.slice sa i sc) xs (by simp [Act.eval]) (HG3.out.st.alloc _) ⟨W3.heap.size, 0, none⟩ 1 1 [⟨x.1, z.1⟩] (by simp [Act.eval]) (sl_new (c := Stp.cod) W3 #[.int .i64 x.1, .int .i64 z.1] 99 [⟨x.1, z.1⟩] 1 rfl (by unfold maxLen; omega) rfl) HM1.out HM2.out (by have := box_lt HG3.out.bx; simp; omega) ?_); rintro v4 W4 ho4 hg4 -; obtain ⟨a4, k4, ev4, -⟩ := ho4.slice; rw [HLA.out] at ev4; subst ev4; have HO4 := Lib.hid ho4; have HG4 := Lib.hid hg4; obtain ⟨-, c4, -, -, f4, -⟩ := box3_cells ((hg4.block y (by have := box_lt HG3.out.bx; simp; omega) (fun q => by have := (World.ownsRow.lt HG3.out.st y q.symm).1; omega)).trans (box_alloc HG3.out.bx)); clear ho4 hg4))
      all_goals
        go_wp2_with fail
        go_roundw
        case rel => exact ⟨i + 1, _, by go_num, by omega, by show GT _ _ _ _ _ _ _ _ _ _ _ _ _ _; rw [HNX.out]; exact HG3.out.stop _ HO4.out HG4.out⟩
        case measure => simp [intOf]; omega
    · have hie : i = K := by omega
      subst hie
      have hii : ¬ (i : Int) < (i : Int) := by omega
      obtain ⟨m, hm⟩ : ∃ m, rdN c 16384 st.1 st.2 = m := ⟨_, rfl⟩
      have HME := Lib.hid hm
      obtain ⟨M, hM, hM2⟩ := rdN_most c 16384 st.1 st.2 (by omega)
      rw [hm] at hM
      obtain ⟨mv, ms⟩ := m
      have hM : mv = (M : Int) := hM
      subst hM
      clear hm
      go_upto_region 11 with (go_at_call 57; go_loud (refine (HGI.out.num HBC.out hvn 16384).mono ?_); rintro e W5 ⟨rfl, hg5⟩; rw [HME.out] at hg5 ⊢; have HG5 := Lib.hid hg5; clear hg5)
      have HGB2 := Lib.hid HG5.out.bl
      clear HG1 HGB
      go_loopw [40] (fun vj wr => ∃ (j : Nat) (lv : Value), vj = .int .i64 ((j : Nat) : Int) ∧ j ≤ M ∧ Hid (GT w1 wr g y va vn vc c (rdMany (rdLink c) j ms).2 v0.1 sv xs lv (rdMany (rdLink c) j ms).1)) (fun vj _ => M - (intOf vj).toNat)
      case atStart => exact ⟨0, _, rfl, Nat.zero_le _, HG5.out⟩
      case round =>
        obtain ⟨j, lv, rfl, hj, HGJ⟩ := hrel
        have HSN2 := Lib.hid (rdMany_snoc (rdLink c) j ms)
        have HLN2 := Lib.hid (Go.Proofs.Ytnjgonplojpcnaa.Ne.rdMany_len (rdLink c) j ms)
        obtain ⟨R2, hR2⟩ : ∃ R, rdMany (rdLink c) j ms = R := ⟨_, rfl⟩
        rw [hR2] at HGJ HSN2 HLN2
        obtain ⟨ls, sl⟩ := R2
        have HRJ := Lib.hid hR2
        simp only [] at HGJ HSN2 HLN2
        clear hR2 HG5 HGI
        by_cases hlt : j < M
        · have hjj : (j : Int) < (M : Int) := by omega
          obtain ⟨x, hx⟩ : ∃ x, rdN c 4095 sl.1 sl.2 = x := ⟨_, rfl⟩
          obtain ⟨z, hz⟩ : ∃ z, rdN c 4095 x.2.1 x.2.2 = z := ⟨_, rfl⟩
          obtain ⟨u, hu⟩ : ∃ u, rdN c 1048575 z.2.1 z.2.2 = u := ⟨_, rfl⟩
          have HX := Lib.hid hx
          have HZ := Lib.hid hz
          have HU := Lib.hid hu
          have HNX : Hid (rdMany (rdLink c) (j + 1) ms = (ls ++ [⟨x.1, z.1, u.1⟩], u.2)) := by
            show _ = _
            rw [HSN2.out]; unfold rdLink; simp only []; rw [hx, hz, hu]
          obtain ⟨sa, sc, hsv, -, -⟩ := HGJ.out.lk.slice
          rw [HLN2.out] at hsv
          subst hsv
          have HM1 : Hid (ls.length + 1 ≤ maxLen) := by show _ ≤ _; rw [HLN2.out]; unfold maxLen; omega
          have HM2 : Hid ((ls.length + 1) * 24 ≤ 140737488355328) := by show _ ≤ _; rw [HLN2.out]; omega
          have HLA : Hid ((ls ++ [(⟨x.1, z.1, u.1⟩ : Lnk)]).length = j + 1) := by show _ = _; rw [List.length_append, HLN2.out]; rfl
          obtain ⟨-, -, c1, -, -, f1⟩ := box3_cells HGJ.out.bx
          clear hx hz hu
          have hy2 : y < wr.heap.size := box_lt HGJ.out.bx
          go_upto_region 12 with fail
          go_region_law (first
            | (go_simp; go_at_call 57; go_fit (HGJ.out.drew.num HBC.out hvn 4095); rintro e W2 ⟨rfl, hg2⟩; rw [HX.out] at hg2 ⊢; have HG2 := Lib.hid hg2; obtain ⟨-, -, c2, -, -, f2⟩ := box3_cells hg2.bx; have hyl2 := box_lt hg2.bx; clear hg2)
            | (go_simp; go_at_call 57; go_fit (HG2.out.num HBC.out hvn 4095); rintro e W3 ⟨rfl, hg3⟩; rw [HZ.out] at hg3 ⊢; have HG3 := Lib.hid hg3; obtain ⟨-, -, c3, -, -, f3⟩ := box3_cells hg3.bx; have hyl3 := box_lt hg3.bx; clear hg3)
            | (go_simp; go_at_call 57; go_fit (HG3.out.num HBC.out hvn 1048575); rintro e W6 ⟨rfl, hg6⟩; rw [HU.out] at hg6 ⊢; have HG6 := Lib.hid hg6; obtain ⟨-, -, c6, -, -, f6⟩ := box3_cells hg6.bx; have hyl6 := box_lt hg6.bx; clear hg6)
            | (go_loud (refine step_app_at eltLnk rfl (.tmp 43) (.tmp 51) rfl (.slice sa j sc) ls (by simp [Act.eval]) (HG6.out.lk.alloc _) ⟨W6.heap.size, 0, none⟩ 1 1 [⟨x.1, z.1, u.1⟩] (by simp [Act.eval]) (sl_new (c := lcod) W6 #[.int .i64 x.1, .int .i64 z.1, .int .i64 u.1] 63 [⟨x.1, z.1, u.1⟩] 1 rfl (by unfold maxLen; omega) rfl) HM1.out HM2.out (by have := box_lt HG6.out.bx; simp; omega) ?_); rintro v4 W4 ho4 hg4 -; obtain ⟨a4, k4, ev4, -⟩ := ho4.slice; rw [HLA.out] at ev4; subst ev4; have HO4 := Lib.hid ho4; have HG4 := Lib.hid hg4; obtain ⟨-, -, c4, -, -, f4⟩ := box3_cells ((hg4.block y (by have := box_lt HG6.out.bx; simp; omega) (fun q => by have := (World.ownsRow.lt HG6.out.lk y q.symm).1; omega)).trans (box_alloc HG6.out.bx)); clear ho4 hg4))
          all_goals
            go_wp2_with fail
            go_roundw
            case rel => exact ⟨j + 1, _, by go_num, by omega, by show GT _ _ _ _ _ _ _ _ _ _ _ _ _ _; rw [HNX.out]; exact HG6.out.link _ HO4.out HG4.out⟩
            case measure => simp [intOf]; omega
        · have hje : j = M := by omega
          subst hje
          have hjj : ¬ (j : Int) < (j : Int) := by omega
          go_upto_region 14 with fail
          have HRN := Lib.hid (rdNet_of HV0.out HKE.out HRI.out HME.out HRJ.out)
          rw [HRN.out] at HTN
          simp only [] at HTN
          have HZ2 : Hid (wr.heap[w.heap.size]? = some (.cells #[.int .i64 0, .slice none 0 0, .slice none 0 0] 46 (0, 0))) := (HGJ.out.bl.block w.heap.size (by have := box_lt HZ1.out; have := HGE.out; omega)).trans HZ1.out
          have HBW : Hid (Below w.heap.size w wr) := HB1.out.trans (by have := HGJ.out.bl; rw [← HGE.out] at this; exact this.mono HB1.out.size)
          obtain ⟨sa, sc, hsv, -, -⟩ := HGJ.out.st.slice
          obtain ⟨la, lc, hlv, -, -⟩ := HGJ.out.lk.slice
          rw [HLN1.out] at hsv
          rw [HLN2.out] at hlv
          subst hsv
          subst hlv
          have HVL : Hid (vn = c.length) := HVN.out.symm
          obtain ⟨d, hde⟩ : ∃ d, doneE c sl.1 sl.2 = d := ⟨_, rfl⟩
          have HD := Lib.hid hde
          rw [hde] at HTN
          clear hde
          go_upto_region 15 with (go_at_call 58; go_loud (refine (fdone_any g va vn vc sl.1 sl.2 c wr HGJ.out.rd HVL.out hvn).mono ?_); rintro e W7 ⟨rfl, hb7⟩; rw [HD.out]; have HG7 := Lib.hid (HGJ.out.below hb7); have HB7 := Lib.hid (HBW.out.trans (hb7.mono HBW.out.size)); have HZ7 := Lib.hid (box_below HZ2.out hb7); clear hb7)
          obtain ⟨c0, c1, c2, f0, f1, f2⟩ := box3_cells HZ7.out
          by_cases hd0 : d = 0
          case neg =>
            have hdd : (d != 0) = true := by simpa using hd0
            have HR : Hid (takeN b = (net0, d)) := by show _ = _; rw [HTN.out, if_pos hd0]
            clear hd0
            go_wp2_with fail
            refine bodyPost_ret (results_row_tmp rfl _ _ w.heap.size _ _ _ _ rfl (box3_set HZ7.out _ _ _) Try.underlying46 rfl (by kernel_rfl)) rfl ?_
            rw [HR.out]
            exact ⟨⟨none, 0, 0⟩, ⟨none, 0, 0⟩, rfl, net0_in _, below_set3 HB7.out (Nat.le_refl _) _ _ _⟩
          subst hd0
          rw [if_neg (by simp)] at HTN
          obtain ⟨d0, d1, d2, -, -, -⟩ := box3_cells HG7.out.bx
          have HNI : Hid (NetIn W7 ⟨v0.1, xs, ls⟩ ⟨sa, i, sc⟩ ⟨la, j, lc⟩) := ⟨own_sl HG7.out.st, own_sl HG7.out.lk⟩
          obtain ⟨ck, hck⟩ : ∃ ck, checkE ⟨v0.1, xs, ls⟩ = ck := ⟨_, rfl⟩
          have HCK := Lib.hid hck
          rw [hck] at HTN
          clear hck
          go_upto_if 63 with (go_at_call 21; go_loud (refine (check_any ⟨v0.1, xs, ls⟩ ⟨sa, i, sc⟩ ⟨la, j, lc⟩ W7 ⟨by show i ≤ 1000000; omega, by show j ≤ 1000000; omega⟩ HNI.out).mono ?_); rintro e W8 ⟨rfl, hb8⟩; rw [HCK.out]; have HG8 := Lib.hid (HG7.out.below hb8); have HN8 := Lib.hid (HNI.out.below hb8); have HB8 := Lib.hid (HB7.out.trans (hb8.mono HB7.out.size)); have HZ8 := Lib.hid (box_below HZ7.out hb8); clear hb8)
          clear c0 c1 c2 f0 f1 f2 d0 d1 d2
          obtain ⟨c0, c1, c2, f0, f1, f2⟩ := box3_cells HZ8.out
          obtain ⟨d0, d1, d2, -, -, -⟩ := box3_cells HG8.out.bx
          by_cases hk0 : ck = 0
          case neg =>
            have hdd : (ck != 0) = true := by simpa using hk0
            have HR : Hid (takeN b = (net0, 2)) := by show _ = _; rw [HTN.out, if_pos hk0]
            clear hk0
            go_wp2_with fail
            refine bodyPost_ret (results_row_tmp rfl _ _ w.heap.size _ _ _ _ rfl (box3_set HZ8.out _ _ _) Try.underlying46 rfl (by kernel_rfl)) rfl ?_
            rw [HR.out]
            exact ⟨⟨none, 0, 0⟩, ⟨none, 0, 0⟩, rfl, net0_in _, below_set3 HB8.out (Nat.le_refl _) _ _ _⟩
          subst hk0
          have HR : Hid (takeN b = (⟨v0.1, xs, ls⟩, 0)) := by show _ = _; rw [HTN.out, if_neg (by simp)]
          have hwy : w.heap.size < y := by have := box_lt HZ1.out; have := HGE.out; omega
          go_wp2_with fail
          refine bodyPost_ret (results_row_tmp rfl _ _ w.heap.size _ _ _ _ rfl (box3_set HZ8.out _ _ _) Try.underlying46 rfl (by kernel_rfl)) rfl ?_
          rw [HR.out]
          refine ⟨⟨sa, i, sc⟩, ⟨la, j, lc⟩, rfl, ?_, below_set3 HB8.out (Nat.le_refl _) _ _ _⟩
          exact ⟨own_sl (own_set3 HG8.out.st (by omega) _ _ _), own_sl (own_set3 HG8.out.lk (by omega) _ _ _)⟩
end Go.Proofs.Ytnjgonplojpcnaa.Gt
