/- Networks: flows as an argument, opened. -/
/- Networks: flows merge: the law walked. -/
/- FlowMerges answers true, whatever comes in, and what came in reads as it did; no condition. -/
import Derived.Test.YteihffnmgacfpaaNeN
import Derived.Test.YteihffnmgacfpaaNwA
import Derived.Test.YteihffnmgacfpaaNwE
import Derived.Test.YteihffnmgacfpaaNwK
import Derived.Test.YteihffnmgacfpaaRows
namespace Go.Proofs.Yteihffnmgacfpaa.Ne
open Go.RowKit Go.V Go.Proofs Go.ChangeShapes Go.WideShapes Go.ChangeAt

theorem list4f {α : Type} {l : List α} (h : l.length = 4) : ∃ a b c d, l = [a, b, c, d] := by
  match l, h with
  | [a, b, c, d], _ => exact ⟨a, b, c, d, rfl⟩

set_option maxRecDepth 100000 in
theorem open_flows {H : Type} {enc : TypeId × Value → H} {w : World} {b0 base : Nat} {spare : Nat → Bool} {held : Bool} {v : Value} {d : DataW H} {ps : List MemPlace} (hval : Value.okWide Try.prog w .any base 78 v) (h : DataW.Trod enc Try.prog w b0 spare held 78 v d ps) :
    ∃ (F : Fl) (a1 : Option Addr) (n1 q1 : Nat) (a2 : Option Addr) (n2 q2 : Nat) (a3 : Option Addr) (n3 q3 : Nat), v = .agg #[.slice a1 n1 q1, .slice a2 n2 q2, .slice a3 n3 q3, .int .i64 F.lost] ∧ FlIn w F ⟨⟨a1, n1, q1⟩, ⟨a2, n2, q2⟩, ⟨a3, n3, q3⟩⟩ := by
  simp only [Value.okWide, Try.underlying78] at hval
  obtain ⟨cs, rfl, hsz, ts, hts, -, hcell⟩ := hval
  obtain ⟨fuel, hf⟩ := h
  obtain ⟨xs, m, -, -, hl, hxl, hx⟩ := DataW.trod_struct Try.underlying78 hf
  have hc3 : Try.prog.cellsOf 78 = 4 := by kernel_rfl
  have hts' : Try.prog.cellTypes Try.prog.depth 78 = some [42, 42, 42, 3] := by kernel_rfl
  rw [hts'] at hts
  cases hts
  have hc1 : Try.prog.cellsOf 3 = 1 := by kernel_rfl
  have hcs : Try.prog.cellsOf 42 = 1 := by kernel_rfl
  obtain ⟨l⟩ := cs
  rw [hc3] at hsz
  obtain ⟨v0, v1, v2, v3, rfl⟩ := list4f (l := l) (by simpa using hsz)
  have hx3 : xs.length = 4 := by rw [hxl]; rfl
  obtain ⟨y0, y1, y2, y3, rfl⟩ := list4f hx3
  have g0 := hx 0 _ rfl
  have g1 := hx 1 _ rfl
  have g2 := hx 2 _ rfl
  have g3 := hx 3 _ rfl
  simp [Value.cells, hc1, hcs] at g0 g1 g2 g3
  have k0 : Value.okWide Try.prog w .any base 42 v0 := by
    obtain ⟨u, hu, hk⟩ := hcell 0 v0 rfl
    cases hu
    exact slice_val Try.underlying42 hk
  have k1 : Value.okWide Try.prog w .any base 42 v1 := by
    obtain ⟨u, hu, hk⟩ := hcell 1 v1 rfl
    cases hu
    exact slice_val Try.underlying42 hk
  have k2 : Value.okWide Try.prog w .any base 42 v2 := by
    obtain ⟨u, hu, hk⟩ := hcell 2 v2 rfl
    cases hu
    exact slice_val Try.underlying42 hk
  obtain ⟨n0, e0, -, w0⟩ := DataW.trod_int Try.underlying3 g3
  simp at e0
  subst e0
  obtain ⟨a1, m1, p1, l1, rfl, s1, -⟩ := open_sl (c := icod) (ok := Iok) (d := y0.1) (ps := y0.2) Try.underlying42 (by kernel_rfl) (fun n cs y => int_opened n cs y) k0 ⟨m, by obtain ⟨a, n, c, rfl⟩ := okWide_slice Try.underlying42 k0; exact g0⟩
  obtain ⟨a2, m2, p2, l2, rfl, s2, -⟩ := open_sl (c := icod) (ok := Iok) (d := y1.1) (ps := y1.2) Try.underlying42 (by kernel_rfl) (fun n cs y => int_opened n cs y) k1 ⟨m, by obtain ⟨a, n, c, rfl⟩ := okWide_slice Try.underlying42 k1; exact g1⟩
  obtain ⟨a3, m3, p3, l3, rfl, s3, -⟩ := open_sl (c := icod) (ok := Iok) (d := y2.1) (ps := y2.2) Try.underlying42 (by kernel_rfl) (fun n cs y => int_opened n cs y) k2 ⟨m, by obtain ⟨a, n, c, rfl⟩ := okWide_slice Try.underlying42 k2; exact g2⟩
  exact ⟨⟨l1, l2, l3, n0⟩, a1, m1, p1, a2, m2, p2, a3, m3, p3, rfl, ⟨s1, s2, s3⟩⟩
end Go.Proofs.Yteihffnmgacfpaa.Ne

namespace Go.Proofs.Yteihffnmgacfpaa.Ne
open Go.RowKit Go.V Go.Proofs Go.Sort

theorem sumB_parts {xs ys : List Int} (h : sumB xs ys = true) : xs.length = ys.length ∧ (∀ (i : Nat) (x : Int), xs[i]? = some x → 0 ≤ x ∧ x ≤ 2305843009213693952) ∧ (∀ (i : Nat) (x : Int), ys[i]? = some x → 0 ≤ x ∧ x ≤ 2305843009213693952) := by
  unfold sumB at h
  simp only [Bool.and_eq_true, decide_eq_true_eq, List.all_eq_true] at h
  exact ⟨h.1.1, fun i x hx => of_decide_eq_true (h.1.2 x (List.mem_of_getElem? hx)), fun i x hx => of_decide_eq_true (h.2 x (List.mem_of_getElem? hx))⟩
theorem mergeB_parts {A B : Fl} (h : mergeB A B = true) : sumB A.links B.links = true ∧ sumB A.on B.on = true ∧ sumB A.off B.off = true ∧ (0 ≤ A.lost ∧ A.lost ≤ 2305843009213693952) ∧ 0 ≤ B.lost ∧ B.lost ≤ 2305843009213693952 := by
  unfold mergeB at h
  simp only [Bool.and_eq_true] at h
  have h4 := sumB_parts h.2
  exact ⟨h.1.1.1, h.1.1.2, h.1.2, h4.2.1 0 _ rfl, h4.2.2 0 _ rfl⟩
/-- Flows go together, as the law says it. -/
theorem mergeB_fits (A B : Fl) : mergeB A B = (decide (A.links.length = B.links.length) && decide (A.on.length = B.on.length) && decide (A.off.length = B.off.length) && rightB A && rightB B) := by
  unfold mergeB rightB sumB
  simp only [List.length_cons, List.length_nil, decide_true, List.all_cons, List.all_nil, Bool.and_true, Bool.true_and]
  cases decide (A.links.length = B.links.length) <;> cases decide (A.on.length = B.on.length) <;> cases decide (A.off.length = B.off.length) <;> cases A.links.all okT <;> cases A.on.all okT <;> cases A.off.all okT <;> cases B.links.all okT <;> cases B.on.all okT <;> cases B.off.all okT <;> cases okT A.lost <;> cases okT B.lost <;> rfl
theorem sl_grown {α : Type} {c : Cod α} {w w' : World} {a : Option Addr} {n cap g : Nat} {xs : List α} (h : Sl c w a n cap xs) (hg : w.grownBy w' (some g)) (hne : ∀ d, a = some d → d.block ≠ g) : Sl c w' a n cap xs :=
  ⟨h.hlen, h.hcap, h.hmax, h.hnil, fun d hd => by
    obtain ⟨h1, h2, h3⟩ := h.hat d hd
    exact ⟨h1, Nat.lt_of_lt_of_le h2 hg.size, fun j u hu => (World.cell?_of_block (w := w) (a := ⟨d.block, d.off + j, none⟩) (hg.block d.block h2 (fun e => hne d hd (Option.some.inj e)))).trans (h3 j u hu)⟩⟩

theorem _root_.Go.World.grownBy.refl' (w : World) (r : Option Nat) : w.grownBy w r := ⟨rfl, rfl, rfl, Nat.le_refl _, fun _ _ _ => rfl⟩
theorem box_grown {w w' : World} {k g : Nat} {ob : Obj} (h : w.heap[k]? = some ob) (hg : w.grownBy w' (some g)) (hne : k ≠ g) : w'.heap[k]? = some ob :=
  (hg.block k (box_lt h) (fun e => hne (Option.some.inj e))).trans h
theorem fl_grown {w w' : World} {g : Nat} {F : Fl} {a1 a2 a3 : Option Addr} {n1 q1 n2 q2 n3 q3 : Nat} (h : FlIn w F ⟨⟨a1, n1, q1⟩, ⟨a2, n2, q2⟩, ⟨a3, n3, q3⟩⟩) (hg : w.grownBy w' (some g)) (hne : ∀ d, a1 = some d ∨ a2 = some d ∨ a3 = some d → d.block ≠ g) : FlIn w' F ⟨⟨a1, n1, q1⟩, ⟨a2, n2, q2⟩, ⟨a3, n3, q3⟩⟩ :=
  ⟨sl_grown h.l hg (fun d e => hne d (.inl e)), sl_grown h.n hg (fun d e => hne d (.inr (.inl e))), sl_grown h.f hg (fun d e => hne d (.inr (.inr e)))⟩
theorem below_g {w W W' : World} {g : Nat} (h : Below w.heap.size w W) (hg : W.grownBy W' (some g)) (hw : w.heap.size ≤ g) : Below w.heap.size w W' :=
  h.trans ⟨hg.os, hg.tape, hg.output, hg.size, fun k hk => hg.block k (Nat.lt_of_lt_of_le hk h.size) (fun e => by have := Option.some.inj e; omega)⟩
theorem grown_g {W0 wr wx w11 : World} {g : Nat} {r : Option Nat} (h : W0.grownBy wr (some g)) (hb : Below wr.heap.size wr wx) (hg : wx.grownBy w11 r) (hv : ∀ o, r = some o → W0.heap.size ≤ o) : W0.grownBy w11 (some g) :=
  ⟨(hg.os.trans hb.os).trans h.os, (hg.tape.trans hb.tape).trans h.tape, (hg.output.trans hb.output).trans h.output, Nat.le_trans (Nat.le_trans h.size hb.size) hg.size, fun k hk hne => ((hg.block k (Nat.lt_of_lt_of_le hk (Nat.le_trans h.size hb.size)) (fun e => by have := hv k e.symm; omega)).trans (hb.block k (Nat.lt_of_lt_of_le hk h.size))).trans (h.block k hk hne)⟩
theorem grown_g2 {W0 w11 : World} {g : Nat} (h : W0.grownBy w11 (some g)) (i : Nat) (v : Value) : W0.grownBy (w11.setCell ⟨g, i, none⟩ v) (some g) := by
  have hs := set_grown w11 g i v
  exact ⟨hs.os.trans h.os, hs.tape.trans h.tape, hs.output.trans h.output, Nat.le_trans h.size hs.size, fun k hk hne => (hs.block k (Nat.lt_of_lt_of_le hk h.size) hne).trans (h.block k hk hne)⟩

set_option linter.unusedSimpArgs false in
set_option maxHeartbeats 8000000 in
set_option maxRecDepth 100000 in
theorem fmerges_any (n : Net) (hs hl : Hdr) (A : Fl) (a1 : Option Addr) (n1 q1 : Nat) (a2 : Option Addr) (n2 q2 : Nat) (a3 : Option Addr) (n3 q3 : Nat) (B : Fl) (b1 : Option Addr) (m1 r1 : Nat) (b2 : Option Addr) (m2 r2 : Nat) (b3 : Option Addr) (m3 r3 : Nat) (w : World) (h : NetIn w n hs hl) (hA : FlIn w A ⟨⟨a1, n1, q1⟩, ⟨a2, n2, q2⟩, ⟨a3, n3, q3⟩⟩) (hB : FlIn w B ⟨⟨b1, m1, r1⟩, ⟨b2, m2, r2⟩, ⟨b3, m3, r3⟩⟩) :
    Calls Try.prog 14 #[n.val hs hl, .agg #[.slice a1 n1 q1, .slice a2 n2 q2, .slice a3 n3 q3, .int .i64 A.lost], .agg #[.slice b1 m1 r1, .slice b2 m2 r2, .slice b3 m3 r3, .int .i64 B.lost]] w fun e w' => e = .returned (.bool true) ∧ Below w.heap.size w w' := by
  have mixed : Try.prog.follows .mixedOrders = true := by kernel_rfl
  obtain ⟨sa, k, sc⟩ := hs
  obtain ⟨la, m, lc⟩ := hl
  have HH := Lib.hid h
  have HA := Lib.hid hA
  have HB := Lib.hid hB
  have HXA := Lib.hid (box_alloc (o := .cells #[.slice b1 m1 r1, .slice b2 m2 r2, .slice b3 m3 r3, .int .i64 B.lost] 78) (box_alloc (o := .cells #[.slice a1 n1 q1, .slice a2 n2 q2, .slice a3 n3 q3, .int .i64 A.lost] 78) (box_new w (n.box ⟨sa, k, sc⟩ ⟨la, m, lc⟩))))
  have HYA := Lib.hid (box_alloc (o := .cells #[.slice b1 m1 r1, .slice b2 m2 r2, .slice b3 m3 r3, .int .i64 B.lost] 78) (box_new (w.alloc (n.box ⟨sa, k, sc⟩ ⟨la, m, lc⟩)) (.cells #[.slice a1 n1 q1, .slice a2 n2 q2, .slice a3 n3 q3, .int .i64 A.lost] 78)))
  have HZA := Lib.hid (box_new ((w.alloc (n.box ⟨sa, k, sc⟩ ⟨la, m, lc⟩)).alloc (.cells #[.slice a1 n1 q1, .slice a2 n2 q2, .slice a3 n3 q3, .int .i64 A.lost] 78)) (.cells #[.slice b1 m1 r1, .slice b2 m2 r2, .slice b3 m3 r3, .int .i64 B.lost] 78))
  have HB0 : Hid (Below w.heap.size w (((w.alloc (n.box ⟨sa, k, sc⟩ ⟨la, m, lc⟩)).alloc (.cells #[.slice a1 n1 q1, .slice a2 n2 q2, .slice a3 n3 q3, .int .i64 A.lost] 78)).alloc (.cells #[.slice b1 m1 r1, .slice b2 m2 r2, .slice b3 m3 r3, .int .i64 B.lost] 78))) := (((Below.refl _ _).alloc (Nat.le_refl _) _).alloc (by simp) _).alloc (by simp; omega) _
  clear h hA hB
  go_enter Try.func14, Try.ntmps14
  go_upto_region 1 with fail
  obtain ⟨w0, hw0⟩ : ∃ w0, ((w.alloc (n.box ⟨sa, k, sc⟩ ⟨la, m, lc⟩)).alloc (.cells #[.slice a1 n1 q1, .slice a2 n2 q2, .slice a3 n3 q3, .int .i64 A.lost] 78)).alloc (.cells #[.slice b1 m1 r1, .slice b2 m2 r2, .slice b3 m3 r3, .int .i64 B.lost] 78) = w0 := ⟨_, rfl⟩
  rw [hw0] at HXA HYA HZA HB0 ⊢
  simp only [World.size_alloc] at HYA HZA
  clear hw0
  go_upto_region 3 with (go_at_call 50; refine (awake52_any _).mono ?_; rintro e w1 ⟨rfl, hb1⟩; have HB1 := Lib.hid (HB0.out.trans (hb1.mono HB0.out.size)); have HX1 := Lib.hid (box_below HXA.out hb1); have HY1 := Lib.hid (box_below HYA.out hb1); have HZ1 := Lib.hid (box_below HZA.out hb1); clear hb1)
  clear HXA HYA HZA HB0
  obtain ⟨c0, c1, c2, -, -, -⟩ := box3_cells HX1.out
  obtain ⟨y0, y1, y2, y3⟩ := box4_cells HY1.out
  obtain ⟨z0, z1, z2, z3⟩ := box4_cells HZ1.out
  have hxl := box_lt HX1.out
  have hyl := box_lt HY1.out
  have hzl := box_lt HZ1.out
  by_cases g1 : (60 : Int) < (n1 : Int)
  · go_wp2_with fail
    go_ret
    exact ⟨rfl, HB1.out⟩
  by_cases g2 : (60 : Int) < (n2 : Int)
  · go_wp2_with fail
    go_ret
    exact ⟨rfl, HB1.out⟩
  by_cases g3 : (60 : Int) < (n3 : Int)
  · go_wp2_with fail
    go_ret
    exact ⟨rfl, HB1.out⟩
  by_cases g4 : (60 : Int) < (m1 : Int)
  · go_wp2_with fail
    go_ret
    exact ⟨rfl, HB1.out⟩
  by_cases g5 : (60 : Int) < (m2 : Int)
  · go_wp2_with fail
    go_ret
    exact ⟨rfl, HB1.out⟩
  by_cases g6 : (60 : Int) < (m3 : Int)
  · go_wp2_with fail
    go_ret
    exact ⟨rfl, HB1.out⟩
  obtain ⟨fb, hfb⟩ : ∃ fb, decide (k ≤ 60 ∧ m ≤ 120) = fb := ⟨_, rfl⟩
  have HFB := Lib.hid hfb
  clear hfb
  cases fb with
  | false =>
    go_wp2_with (go_at_call 16; refine (few_any n ⟨sa, k, sc⟩ ⟨la, m, lc⟩ _).mono ?_; rintro e w2 ⟨rfl, hb2⟩; rw [HFB.out]; have HB2 := Lib.hid (HB1.out.trans (hb2.mono HB1.out.size)); clear hb2)
    go_ret
    exact ⟨rfl, HB2.out⟩
  | true =>
  obtain ⟨k60, m120⟩ := of_decide_eq_true HFB.out
  have hn1 : n1 ≤ 60 := by omega
  have hn2 : n2 ≤ 60 := by omega
  have hn3 : n3 ≤ 60 := by omega
  have hm1 : m1 ≤ 60 := by omega
  have hm2 : m2 ≤ 60 := by omega
  have hm3 : m3 ≤ 60 := by omega
  go_upto_region 6 with (first
    | (go_at_call 16; refine (few_any n ⟨sa, k, sc⟩ ⟨la, m, lc⟩ _).mono ?_; rintro e w2 ⟨rfl, hb2⟩; rw [HFB.out]; have HB2 := Lib.hid (HB1.out.trans (hb2.mono HB1.out.size)); have HX2 := Lib.hid (box_below HX1.out hb2); have HY2 := Lib.hid (box_below HY1.out hb2); have HZ2 := Lib.hid (box_below HZ1.out hb2); obtain ⟨d0, d1, d2, -, -, -⟩ := box3_cells HX2.out; obtain ⟨e0, e1, e2, e3⟩ := box4_cells HY2.out; have hxl2 := box_lt HX2.out; have hyl2 := box_lt HY2.out; clear hb2)
    | (go_at_call 55; go_loud (refine (busiest_any n ⟨sa, k, sc⟩ ⟨la, m, lc⟩ A a1 n1 q1 a2 n2 q2 a3 n3 q3 _ (HH.out.below HB2.out) (HA.out.below HB2.out) (by omega) (by show m ≤ _; omega)).mono ?_); rintro e w3 ⟨l, kk, ok, rfl, hok, hno, hyes, hb3⟩; have HOK := Lib.hid hok; have HNO := Lib.hid hno; have HYES := Lib.hid hyes; have HB3 := Lib.hid (HB2.out.trans (hb3.mono HB2.out.size)); have HX3 := Lib.hid (box_below HX2.out hb3); have HY3 := Lib.hid (box_below HY2.out hb3); have HZ3 := Lib.hid (box_below HZ2.out hb3); clear hok hno hyes hb3))
  clear c0 c1 c2 y0 y1 y2 y3 z0 z1 z2 z3 d0 d1 d2 e0 e1 e2 e3 hxl hyl hzl hxl2 hyl2 HX1 HY1 HZ1 HX2 HY2 HZ2 HB1 HB2
  obtain ⟨lA, lB, lw⟩ := l
  have HX4 := Lib.hid (box_alloc (o := .cells #[.int .i64 lA, .int .i64 lB, .int .i64 lw] 49) HX3.out)
  have HY4 := Lib.hid (box_alloc (o := .cells #[.int .i64 lA, .int .i64 lB, .int .i64 lw] 49) HY3.out)
  have HZ4 := Lib.hid (box_alloc (o := .cells #[.int .i64 lA, .int .i64 lB, .int .i64 lw] 49) HZ3.out)
  have HL4 := Lib.hid (box_new w3 (.cells #[.int .i64 lA, .int .i64 lB, .int .i64 lw] 49))
  have HB4 := Lib.hid (HB3.out.alloc HB3.out.size (.cells #[.int .i64 lA, .int .i64 lB, .int .i64 lw] 49))
  obtain ⟨z, hz⟩ : ∃ z, w3.heap.size = z := ⟨_, rfl⟩
  obtain ⟨w4, hw4⟩ : ∃ w4, w3.alloc (.cells #[.int .i64 lA, .int .i64 lB, .int .i64 lw] 49) = w4 := ⟨_, rfl⟩
  rw [hw4] at HX4 HY4 HZ4 HL4 HB4 ⊢
  rw [hz] at HL4 ⊢
  clear hw4 hz HX3 HY3 HZ3 HB3
  obtain ⟨c0, c1, c2, -, -, -⟩ := box3_cells HX4.out
  obtain ⟨y0, y1, y2, y3⟩ := box4_cells HY4.out
  obtain ⟨l0, l1, l2, -, -, -⟩ := box3_cells HL4.out
  have hxl := box_lt HX4.out
  have hyl := box_lt HY4.out
  have hll := box_lt HL4.out
  go_cut [95] (fun v wx => v = .bool false ∧ Hid (Below w4.heap.size w4 wx))
  case first =>
    as_aux_lemma =>
      --<<
      cases ok with
      | false =>
        obtain ⟨hl0, rfl⟩ := HNO.out rfl
        simp only [Lnk.mk.injEq] at hl0
        obtain ⟨rfl, rfl, rfl⟩ := hl0
        have hdec := of_decide_eq_false HOK.out.symm
        by_cases hm0 : (0 : Int) < (m : Int)
        · have hnb : ((n1 : Int) == (m : Int)) = false := by
            have : n1 ≠ m := fun e => hdec ⟨by omega, e⟩
            simp; omega
          clear hdec
          go_wp2_with fail
          go_meet
          exact ⟨rfl, Below.refl _ _⟩
        · clear hdec
          go_wp2_with fail
          go_meet
          exact ⟨rfl, Below.refl _ _⟩
      | true =>
        have hdec := of_decide_eq_true HOK.out.symm
        have hm0 : (0 : Int) < (m : Int) := by omega
        have hnb : ((n1 : Int) == (m : Int)) = true := by simp; omega
        clear hdec
        go_wp2_with fail
        go_meet
        exact ⟨rfl, Below.refl _ _⟩
      -->>
  case rest =>
    obtain ⟨rfl, HBx⟩ := hcut
    rename World => w5
    have HX5 := Lib.hid (box_below HX4.out HBx.out)
    have HY5 := Lib.hid (box_below HY4.out HBx.out)
    have HZ5 := Lib.hid (box_below HZ4.out HBx.out)
    have HL5 := Lib.hid (box_below HL4.out HBx.out)
    have HB5 := Lib.hid (HB4.out.trans (HBx.out.mono HB4.out.size))
    clear HX4 HY4 HZ4 HL4 HB4 HBx c0 c1 c2 y0 y1 y2 y3 l0 l1 l2 hxl hyl hll
    obtain ⟨c0, c1, c2, -, -, -⟩ := box3_cells HX5.out
    obtain ⟨y0, y1, y2, y3⟩ := box4_cells HY5.out
    obtain ⟨l0, l1, l2, -, -, -⟩ := box3_cells HL5.out
    have hxl := box_lt HX5.out
    have hyl := box_lt HY5.out
    have hll := box_lt HL5.out
    go_upto_if 96 with fail
    go_cut [] (fun wx => Hid (Below w5.heap.size w5 wx))
    case first =>
      as_aux_lemma =>
        --<<
        cases ok with
        | false =>
          go_wp2_with fail
          go_meet
          exact Below.refl _ _
        | true =>
          obtain ⟨b, hbl, hbk, hbe⟩ := HYES.out rfl
          have hdec := of_decide_eq_true HOK.out.symm
          have hbn : b < n1 := by have q1 : n1 = A.links.length := HA.out.l.hlen; have q2 := hbe.in_; omega
          have HBE := Lib.hid hbe
          have HBK := Lib.hid hbk
          have HBL := Lib.hid hbl
          have hnm : n1 = m := hdec.2
          clear hbl hbk hbe hdec
          go_wp2_with fail
          go_loopw [10, 100] (fun at_ i wr => ∃ j : Nat, i = .int .i64 j ∧ at_ = .int .i64 (if j ≤ b then -1 else (b : Int)) ∧ j ≤ n1 ∧ Hid (Below w5.heap.size w5 wr)) (fun _ i _ => n1 - (intOf i).toNat)
          case atStart => exact ⟨0, by go_num, by rw [if_pos (Nat.zero_le _)], by omega, Below.refl _ _⟩
          case round =>
            obtain ⟨j, rfl, rfl, hj, HBr⟩ := hrel
            by_cases hlt : j < n1
            · obtain ⟨bb, off, x, e1, hbbl, hx, p0⟩ := int_at (HA.out.l.below (HB5.out.trans (HBr.out.mono HB5.out.size))) hlt
              have e1 : a1 = _ := e1
              subst e1
              have hgx := getD_of hx
              have hgk := getD_of HBK.out
              have hji : (j : Int) < (n1 : Int) := by omega
              have hle : x ≤ kk := by have := HBE.out.le j hlt; rw [hgx, hgk] at this; exact this
              have hnk : ¬ kk < x := by omega
              rcases Nat.lt_trichotomy j b with hc | hc | hc
              · have hlt3 : x < kk := by have := HBE.out.lt j hc; rw [hgx, hgk] at this; exact this
                have heq : (x == kk) = false := by simp; omega
                have e3 : (if j ≤ b then (-1 : Int) else (b : Int)) = -1 := if_pos (by omega)
                have e4 : (if j + 1 ≤ b then (-1 : Int) else (b : Int)) = -1 := if_pos (by omega)
                have E4 := Lib.hid e4
                rw [e3]
                clear hgx hgk hx e3 e4
                go_wp2_with fail
                go_roundw
                case rel => exact ⟨j + 1, by go_num, by rw [E4.out], by omega, HBr.out⟩
                case measure => simp [intOf]; omega
              · subst hc
                have hxk : x = kk := by rw [← hgx, hgk]
                subst hxk
                have e3 : (if j ≤ j then (-1 : Int) else (j : Int)) = -1 := if_pos (by omega)
                have e4 : (if j + 1 ≤ j then (-1 : Int) else (j : Int)) = (j : Int) := if_neg (by omega)
                have E4 := Lib.hid e4
                rw [e3]
                clear hgx hgk hx e3 e4
                go_wp2_with fail
                go_roundw
                case rel => exact ⟨j + 1, by go_num, by rw [E4.out], by omega, HBr.out⟩
                case measure => simp [intOf]; omega
              · have e3 : (if j ≤ b then (-1 : Int) else (b : Int)) = (b : Int) := if_neg (by omega)
                have e4 : (if j + 1 ≤ b then (-1 : Int) else (b : Int)) = (b : Int) := if_neg (by omega)
                have E4 := Lib.hid e4
                have hb0 : ¬ ((b : Int) < 0) := by omega
                rw [e3]
                clear hgx hgk hx e3 e4
                by_cases hxe : x = kk
                · have heq : (x == kk) = true := by simpa using hxe
                  clear hxe
                  go_wp2_with fail
                  go_roundw
                  case rel => exact ⟨j + 1, by go_num, by rw [E4.out], by omega, HBr.out⟩
                  case measure => simp [intOf]; omega
                · have heq : (x == kk) = false := by simpa using hxe
                  go_wp2_with fail
                  go_roundw
                  case rel => exact ⟨j + 1, by go_num, by rw [E4.out], by omega, HBr.out⟩
                  case measure => simp [intOf]; omega
            · have hjn : n1 = j := by omega
              subst hjn
              have e3 : (if n1 ≤ b then (-1 : Int) else (b : Int)) = (b : Int) := if_neg (by omega)
              rw [e3]
              subst hnm
              have HX6 := Lib.hid (box_below HX5.out HBr.out)
              have HL6 := Lib.hid (box_below HL5.out HBr.out)
              clear c0 c1 c2 y0 y1 y2 y3 l0 l1 l2 hxl hyl hll e3
              obtain ⟨c0, c1, c2, -, -, -⟩ := box3_cells HX6.out
              obtain ⟨l0, l1, l2, -, -, -⟩ := box3_cells HL6.out
              have hxl := box_lt HX6.out
              have hll := box_lt HL6.out
              obtain ⟨lb, loff, l', e1, hlbl, hlj, p0, p1, p2⟩ := lnk_at (HH.out.l.below (HB5.out.trans (HBr.out.mono HB5.out.size))) hbn
              have e1 : la = _ := e1
              subst e1
              have hl' := Option.some.inj (HBL.out.symm.trans hlj)
              subst hl'
              have hb0 : decide ((b : Int) < 0) = false := decide_eq_false (by omega)
              have hbi : (b : Int) < (n1 : Int) := by omega
              clear hlj
              go_upto_region 18 with fail
              go_quiet (fail)
              go_wp2_with fail
              go_meet
              exact below_drewN HBr.out _
        -->>
    case rest =>
      have HBy := hcut
      rename World => w6
      have HX6 := Lib.hid (box_below HX5.out HBy.out)
      have HY6 := Lib.hid (box_below HY5.out HBy.out)
      have HZ6 := Lib.hid (box_below HZ5.out HBy.out)
      have HB6 := Lib.hid (HB5.out.trans (HBy.out.mono HB5.out.size))
      clear hcut HBy HX5 HY5 HZ5 HL5 HB5 c0 c1 c2 y0 y1 y2 y3 l0 l1 l2 hxl hyl hll HOK HNO HYES
      obtain ⟨y0, y1, y2, y3⟩ := box4_cells HY6.out
      obtain ⟨z0, z1, z2, z3⟩ := box4_cells HZ6.out
      have hyl := box_lt HY6.out
      have hzl := box_lt HZ6.out
      obtain ⟨mb, hmb⟩ : ∃ mb, mergeB A B = mb := ⟨_, rfl⟩
      obtain ⟨ML, hml⟩ : ∃ ML, mergeL A B = ML := ⟨_, rfl⟩
      have HMB := Lib.hid hmb
      have HML := Lib.hid hml
      clear hmb hml
      go_upto_region 21 with (go_at_call 54; go_loud (refine (fmerge_any A B a1 n1 q1 a2 n2 q2 a3 n3 q3 b1 m1 r1 b2 m2 r2 b3 m3 r3 w6 (HA.out.below HB6.out) (HB.out.below HB6.out) ⟨by omega, by omega, by omega⟩ ⟨by omega, by omega, by omega⟩).mono ?_); rintro e w7 ⟨f1, j1, t1, f2, j2, t2, f3, j3, t3, rfl, hf, hb⟩; rw [HMB.out]; rw [HML.out] at hf ⊢; have HF7 := Lib.hid hf; have HB7 := Lib.hid (HB6.out.trans (hb.mono HB6.out.size)); have HY7 := Lib.hid (box_below HY6.out hb); have HZ7 := Lib.hid (box_below HZ6.out hb); clear hf hb)
      clear y0 y1 y2 y3 z0 z1 z2 z3 hyl hzl HX6 HY6 HZ6 HB6
      have HY8 := Lib.hid (box_alloc (o := .cells #[.slice f1 j1 t1, .slice f2 j2 t2, .slice f3 j3 t3, .int .i64 ML.lost] 78) HY7.out)
      have HZ8 := Lib.hid (box_alloc (o := .cells #[.slice f1 j1 t1, .slice f2 j2 t2, .slice f3 j3 t3, .int .i64 ML.lost] 78) HZ7.out)
      have HF8 := Lib.hid (box_new w7 (.cells #[.slice f1 j1 t1, .slice f2 j2 t2, .slice f3 j3 t3, .int .i64 ML.lost] 78))
      have HG8 : Hid (FlIn (w7.alloc (.cells #[.slice f1 j1 t1, .slice f2 j2 t2, .slice f3 j3 t3, .int .i64 ML.lost] 78)) ML ⟨⟨f1, j1, t1⟩, ⟨f2, j2, t2⟩, ⟨f3, j3, t3⟩⟩) := HF7.out.below ((Below.refl _ _).alloc (Nat.le_refl _) _)
      have HB8 := Lib.hid (HB7.out.alloc HB7.out.size (.cells #[.slice f1 j1 t1, .slice f2 j2 t2, .slice f3 j3 t3, .int .i64 ML.lost] 78))
      obtain ⟨zf, hzf⟩ : ∃ zf, w7.heap.size = zf := ⟨_, rfl⟩
      obtain ⟨w8, hw8⟩ : ∃ w8, w7.alloc (.cells #[.slice f1 j1 t1, .slice f2 j2 t2, .slice f3 j3 t3, .int .i64 ML.lost] 78) = w8 := ⟨_, rfl⟩
      rw [hw8] at HY8 HZ8 HF8 HG8 HB8 ⊢
      rw [hzf] at HF8 ⊢
      clear hw8 hzf HF7 HB7 HY7 HZ7
      obtain ⟨y0, y1, y2, y3⟩ := box4_cells HY8.out
      obtain ⟨z0, z1, z2, z3⟩ := box4_cells HZ8.out
      have hyl := box_lt HY8.out
      have hzl := box_lt HZ8.out
      have HLA : Hid ((n1 = A.links.length ∧ n2 = A.on.length ∧ n3 = A.off.length) ∧ m1 = B.links.length ∧ m2 = B.on.length ∧ m3 = B.off.length) := ⟨⟨HA.out.l.hlen, HA.out.n.hlen, HA.out.f.hlen⟩, HB.out.l.hlen, HB.out.n.hlen, HB.out.f.hlen⟩
      have HFT : Hid (mb = (decide (n1 = m1) && decide (n2 = m2) && decide (n3 = m3) && rightB A && rightB B)) := by
        show _ = _
        obtain ⟨⟨x1, x2, x3⟩, x4, x5, x6⟩ := HLA.out
        rw [← HMB.out, mergeB_fits, x1, x2, x3, x4, x5, x6]
      obtain ⟨ra, hra⟩ : ∃ ra, rightB A = ra := ⟨_, rfl⟩
      obtain ⟨rb, hrb⟩ : ∃ rb, rightB B = rb := ⟨_, rfl⟩
      rw [hra, hrb] at HFT
      have HRA := Lib.hid hra
      have HRB := Lib.hid hrb
      clear hra hrb
      go_cut [15] (fun v wx => v = .bool mb ∧ Hid (Below w8.heap.size w8 wx))
      case first =>
        as_aux_lemma =>
          --<<
          by_cases k1 : n1 = m1
          case neg =>
            have e1 : ((n1 : Int) == (m1 : Int)) = false := by simp; omega
            have hz : false = mb := by rw [HFT.out, decide_eq_false k1]; rfl
            subst hz
            go_wp2_with fail
            go_meet
            exact ⟨rfl, Below.refl _ _⟩
          case pos =>
          have e1 : ((n1 : Int) == (m1 : Int)) = true := by simp; omega
          by_cases k2 : n2 = m2
          case neg =>
            have e2 : ((n2 : Int) == (m2 : Int)) = false := by simp; omega
            have hz : false = mb := by rw [HFT.out, decide_eq_false k2]; simp
            subst hz
            clear k1
            go_wp2_with fail
            go_meet
            exact ⟨rfl, Below.refl _ _⟩
          case pos =>
          have e2 : ((n2 : Int) == (m2 : Int)) = true := by simp; omega
          by_cases k3 : n3 = m3
          case neg =>
            have e3 : ((n3 : Int) == (m3 : Int)) = false := by simp; omega
            have hz : false = mb := by rw [HFT.out, decide_eq_false k3]; simp
            subst hz
            clear k1 k2
            go_wp2_with fail
            go_meet
            exact ⟨rfl, Below.refl _ _⟩
          case pos =>
          have e3 : ((n3 : Int) == (m3 : Int)) = true := by simp; omega
          have HZ : Hid (mb = (ra && rb)) := by show _ = _; rw [HFT.out, decide_eq_true k1, decide_eq_true k2, decide_eq_true k3]; rfl
          clear k1 k2 k3
          cases ra with
          | false =>
            have hz : false = mb := HZ.out.symm
            subst hz
            go_wp2_with (go_at_call 56; go_loud (refine (right_any A a1 n1 q1 a2 n2 q2 a3 n3 q3 w8 (HA.out.below HB8.out) ⟨by omega, by omega, by omega⟩).mono ?_); rintro e w9 ⟨rfl, hb⟩; rw [HRA.out]; have HB9 := Lib.hid hb; clear hb)
            go_meet
            exact ⟨rfl, HB9⟩
          | true =>
            have hz : rb = mb := HZ.out.symm
            subst hz
            go_wp2_with (first
              | (go_at_call 56; go_fit (right_any A a1 n1 q1 a2 n2 q2 a3 n3 q3 w8 (HA.out.below HB8.out) ⟨by omega, by omega, by omega⟩); rintro e w9 ⟨rfl, hb⟩; rw [HRA.out]; have HB9 := Lib.hid hb; have HZ9 := Lib.hid (box_below HZ8.out hb); obtain ⟨v0, v1, v2, v3⟩ := box4_cells HZ9.out; have hvl := box_lt HZ9.out; clear hb)
              | (go_at_call 56; go_fit (right_any B b1 m1 r1 b2 m2 r2 b3 m3 r3 w9 (HB.out.below (HB8.out.trans (HB9.out.mono HB8.out.size))) ⟨by omega, by omega, by omega⟩); rintro e w10 ⟨rfl, hb⟩; rw [HRB.out]; have HB10 := Lib.hid (HB9.out.trans (hb.mono HB9.out.size)); clear hb))
            go_meet
            exact ⟨rfl, HB10⟩
          -->>
      case rest =>
        obtain ⟨rfl, HBx⟩ := hcut
        rename World => w9
        have HY9 := Lib.hid (box_below HY8.out HBx.out)
        have HZ9 := Lib.hid (box_below HZ8.out HBx.out)
        have HF9 := Lib.hid (box_below HF8.out HBx.out)
        have HG9 := Lib.hid (HG8.out.below HBx.out)
        have HB9 := Lib.hid (HB8.out.trans (HBx.out.mono HB8.out.size))
        clear HY8 HZ8 HF8 HG8 HB8 HBx y0 y1 y2 y3 z0 z1 z2 z3 hyl hzl HFT HRA HRB
        obtain ⟨y0, y1, y2, y3⟩ := box4_cells HY9.out
        obtain ⟨z0, z1, z2, z3⟩ := box4_cells HZ9.out
        obtain ⟨v0, v1, v2, v3⟩ := box4_cells HF9.out
        have hyl := box_lt HY9.out
        have hzl := box_lt HZ9.out
        have hvl := box_lt HF9.out
        cases mb with
        | false =>
          have hz : (⟨[], [], [], 0⟩ : Fl) = ML := by rw [← HML.out]; exact (mergeL_no HMB.out).symm
          subst hz
          go_wp2_with (go_at_call 52; go_loud (refine (fsame_any ⟨[], [], [], 0⟩ ⟨⟨f1, j1, t1⟩, ⟨f2, j2, t2⟩, ⟨f3, j3, t3⟩⟩ ⟨⟨none, 0, 0⟩, ⟨none, 0, 0⟩, ⟨none, 0, 0⟩⟩ w9 HG9.out ⟨sl_none _, sl_none _, sl_none _⟩).mono ?_); rintro e w10 ⟨rfl, hb⟩; have HB10 := Lib.hid (HB9.out.trans (hb.mono HB9.out.size)); clear hb)
          go_ret
          exact ⟨rfl, HB10.out⟩
        | true =>
          obtain ⟨s1, s2, s3, s4, s5⟩ := mergeB_parts HMB.out
          have hmx : IntKind.i64.wrap (A.lost + B.lost) = A.lost + B.lost := by rw [IntKind.wrap_i64]; omega
          have hz : (⟨addL A.links B.links, addL A.on B.on, addL A.off B.off, A.lost + B.lost⟩ : Fl) = ML := by rw [← HML.out]; exact (mergeL_yes HMB.out).symm
          subst hz
          have HS1 := Lib.hid s1
          have HS2 := Lib.hid s2
          have HS3 := Lib.hid s3
          have hl1 : n1 = m1 := by rw [HLA.out.1.1, HLA.out.2.1]; exact (sumB_parts s1).1
          have hl2 : n2 = m2 := by rw [HLA.out.1.2.1, HLA.out.2.2.1]; exact (sumB_parts s2).1
          have hl3 : n3 = m3 := by rw [HLA.out.1.2.2, HLA.out.2.2.2]; exact (sumB_parts s3).1
          clear s1 s2 s3
          subst hl1
          subst hl2
          subst hl3
          obtain ⟨X, hX⟩ : ∃ X, A.lost + B.lost = X := ⟨_, rfl⟩
          rw [hX] at hmx
          simp only [hX] at HG9 HF9 v3 ⊢
          go_upto_region 27 with fail
          have HG0 := Lib.hid (box_new w9 (.cells #[.slice none 0 0, .slice none 0 0, .slice none 0 0, .int .i64 X] 78))
          have HY0 := Lib.hid (box_alloc (o := .cells #[.slice none 0 0, .slice none 0 0, .slice none 0 0, .int .i64 X] 78) HY9.out)
          have HZ0 := Lib.hid (box_alloc (o := .cells #[.slice none 0 0, .slice none 0 0, .slice none 0 0, .int .i64 X] 78) HZ9.out)
          have HF0' := Lib.hid (box_alloc (o := .cells #[.slice none 0 0, .slice none 0 0, .slice none 0 0, .int .i64 X] 78) HF9.out)
          have hba : Below w9.heap.size w9 (w9.alloc (.cells #[.slice none 0 0, .slice none 0 0, .slice none 0 0, .int .i64 X] 78)) := (Below.refl _ _).alloc (Nat.le_refl _) _
          have HA0 := Lib.hid ((HA.out.below HB9.out).below hba)
          have HB0' := Lib.hid ((HB.out.below HB9.out).below hba)
          have HM0' := Lib.hid (HG9.out.below hba)
          have HW0 := Lib.hid (HB9.out.trans (hba.mono HB9.out.size))
          have hw9 := HB9.out.size
          have HNM : Hid (∀ d, f1 = some d ∨ f2 = some d ∨ f3 = some d → d.block ≠ w9.heap.size) := fun d hd => by
            rcases hd with hd | hd | hd
            · have := (HG9.out.l.hat d hd).2.1; omega
            · have := (HG9.out.n.hat d hd).2.1; omega
            · have := (HG9.out.f.hat d hd).2.1; omega
          have HNA : Hid (∀ d, a1 = some d ∨ a2 = some d ∨ a3 = some d → d.block ≠ w9.heap.size) := fun d hd => by
            rcases hd with hd | hd | hd
            · have := (HA.out.l.hat d hd).2.1; omega
            · have := (HA.out.n.hat d hd).2.1; omega
            · have := (HA.out.f.hat d hd).2.1; omega
          have HNB : Hid (∀ d, b1 = some d ∨ b2 = some d ∨ b3 = some d → d.block ≠ w9.heap.size) := fun d hd => by
            rcases hd with hd | hd | hd
            · have := (HB.out.l.hat d hd).2.1; omega
            · have := (HB.out.n.hat d hd).2.1; omega
            · have := (HB.out.f.hat d hd).2.1; omega
          have hgy : w.heap.size + 1 ≠ w9.heap.size := by omega
          have hgz : w.heap.size + 1 + 1 ≠ w9.heap.size := by omega
          have hgf : zf ≠ w9.heap.size := by omega
          have hg0 : w9.heap.size < (w9.alloc (.cells #[.slice none 0 0, .slice none 0 0, .slice none 0 0, .int .i64 X] 78)).heap.size := by simp
          obtain ⟨g, hgg⟩ : ∃ g, w9.heap.size = g := ⟨_, rfl⟩
          obtain ⟨V0, hV0⟩ : ∃ V0, w9.alloc (.cells #[.slice none 0 0, .slice none 0 0, .slice none 0 0, .int .i64 X] 78) = V0 := ⟨_, rfl⟩
          rw [hV0] at HG0 HY0 HZ0 HF0' HA0 HB0' HM0' HW0 hg0 ⊢
          rw [hgg] at HG0 HNM HNA HNB hgy hgz hgf hg0 hw9 ⊢
          have hgw : w.heap.size ≤ g := hw9
          clear hV0 hgg hba hw9 HY9 HZ9 HF9 HG9 HB9 y0 y1 y2 y3 z0 z1 z2 z3 v0 v1 v2 v3 hyl hzl hvl hX
          obtain ⟨y0, y1, y2, y3⟩ := box4_cells HY0.out
          obtain ⟨z0, z1, z2, z3⟩ := box4_cells HZ0.out
          have hyl := box_lt HY0.out
          have hzl := box_lt HZ0.out
          --LOOPS
          go_wp2_with fail
          go_loopw [184] (fun i wr => ∃ (v : Value) (j : Nat), i = .int .i64 j ∧ j ≤ n1 ∧ Hid (wr.heap[g]? = some (.cells #[v, .slice none 0 0, .slice none 0 0, .int .i64 X] 78 (0, 0))) ∧ Hid (V.Own 3 icod V0.heap.size wr v ((addL A.links B.links).take j)) ∧ Hid (V0.grownBy wr (some g))) (fun i _ => n1 - (intOf i).toNat)
          case atStart => exact ⟨.slice none 0 0, 0, by go_num, by omega, HG0.out, Own.nil, World.grownBy.refl' _ _⟩
          case round =>
            obtain ⟨v, j, rfl, hj, HGr, HO, HR⟩ := hrel
            clear y0 y1 y2 y3 z0 z1 z2 z3 hyl hzl
            have HYr := Lib.hid (box_grown HY0.out HR.out hgy)
            have HZr := Lib.hid (box_grown HZ0.out HR.out hgz)
            obtain ⟨y0, y1, y2, y3⟩ := box4_cells HYr.out
            obtain ⟨z0, z1, z2, z3⟩ := box4_cells HZr.out
            have hyl := box_lt HYr.out
            have hzl := box_lt HZr.out
            by_cases hlt : j < n1
            · as_aux_lemma =>
                obtain ⟨bx, ox, x, e1, hbx, hx, p0⟩ := int_at (sl_grown HA0.out.l HR.out (fun d hd => HNA.out d (.inl hd))) hlt
                obtain ⟨by', oy, y, e2, hby, hy, p1⟩ := int_at (sl_grown HB0'.out.l HR.out (fun d hd => HNB.out d (.inl hd))) hlt
                have e1 : a1 = _ := e1
                have e2 : b1 = _ := e2
                subst e1
                subst e2
                have hbxV : bx < V0.heap.size := (HA0.out.l.hat _ rfl).2.1
                have hbyV : by' < V0.heap.size := (HB0'.out.l.hat _ rfl).2.1
                have hgx : g ≠ bx := fun e => HNA.out _ (.inl rfl) e.symm
                have hgb : g ≠ by' := fun e => HNB.out _ (.inl rfl) e.symm
                have hgy' : g ≠ w.heap.size + 1 := fun e => hgy e.symm
                have hgz' : g ≠ w.heap.size + 1 + 1 := fun e => hgz e.symm
                have hyV := box_lt HY0.out
                have hzV := box_lt HZ0.out
                have hxr := (sumB_parts HS1.out).2.1 j x hx
                have hyr := (sumB_parts HS1.out).2.2 j y hy
                have hadd : IntKind.i64.wrap (x + y) = x + y := by rw [IntKind.wrap_i64]; omega
                have hji : (j : Int) < (n1 : Int) := by omega
                have HSN := Lib.hid (addL_snoc hx hy)
                have HM1 : Hid (((addL A.links B.links).take j).length + 1 ≤ maxLen) := by show _ ≤ _; rw [List.length_take]; unfold maxLen; omega
                have HM2 : Hid ((((addL A.links B.links).take j).length + 1) * 8 ≤ 140737488355328) := by show _ ≤ _; rw [List.length_take]; omega
                clear hx hy hxr hyr
                obtain ⟨v0, v1, v2, v3⟩ := box4_cells HGr.out
                have vf := (box_cell HGr.out 0).2
                have hvl := box_lt HGr.out
                have hws := HR.out.size
                go_upto_region 30 with fail
                refine wp_region_held_drew (S := (fun w' => w'.cell? ⟨w.heap.size + 1, 0, none⟩ = some (.slice (some ⟨bx, ox, none⟩) n1 q1) ∧ w'.cell? ⟨w.heap.size + 1 + 1, 0, none⟩ = some (.slice (some ⟨by', oy, none⟩) n1 r1) ∧ w'.cell? ⟨bx, ox + j, none⟩ = some (.int .i64 x) ∧ w'.cell? ⟨by', oy + j, none⟩ = some (.int .i64 y))) (by kernel_rfl) ?_ (fun hHeld => ?_)
                · (first | go_keep | (exact ⟨y0, z0, p0, p1⟩))
                refine wpAnyH_take (i := 0) (v := ?_) rfl (by kernel_rfl) (by kernel_rfl) (by kernel_rfl) (fun _ _ _ h => h) (Or.inl ⟨by rfl, ?_⟩) (by assumption) ?_
                rotate_left
                · (intro w hSw; (try dsimp only at hSw); go_simp); try (with_reducible rfl)
                try simp only [Act.put, List.getElem_toArray, List.getElem_cons_zero, List.getElem_cons_succ, List.setIfInBounds_toArray, List.set_cons_zero, List.set_cons_succ]
                refine wpAnyH_take (i := 2) (v := ?_) rfl (by kernel_rfl) (by kernel_rfl) (by kernel_rfl) (fun _ _ _ h => h) (Or.inl ⟨by rfl, ?_⟩) (by assumption) ?_
                rotate_left
                · (intro w hSw; (try dsimp only at hSw); go_simp); try (with_reducible rfl)
                try simp only [Act.put, List.getElem_toArray, List.getElem_cons_zero, List.getElem_cons_succ, List.setIfInBounds_toArray, List.set_cons_zero, List.set_cons_succ]
                refine wpAnyH_take (i := 3) (v := ?_) rfl (by kernel_rfl) (by kernel_rfl) (by kernel_rfl) (fun _ _ _ h => h) (Or.inl ⟨by rfl, ?_⟩) (by assumption) ?_
                rotate_left
                · (intro w hSw; (try dsimp only at hSw); go_simp); try (with_reducible rfl)
                try simp only [Act.put, List.getElem_toArray, List.getElem_cons_zero, List.getElem_cons_succ, List.setIfInBounds_toArray, List.set_cons_zero, List.set_cons_succ]
                refine wpAnyH_take (i := 4) (v := ?_) rfl (by kernel_rfl) (by kernel_rfl) (by kernel_rfl) (fun _ _ _ h => h) (Or.inl ⟨by rfl, ?_⟩) (by assumption) ?_
                rotate_left
                · (intro w hSw; (try dsimp only at hSw); go_simp); try (with_reducible rfl)
                try simp only [Act.put, List.getElem_toArray, List.getElem_cons_zero, List.getElem_cons_succ, List.setIfInBounds_toArray, List.set_cons_zero, List.set_cons_succ]
                refine wpAnyH_take (i := 5) (v := ?_) rfl (by kernel_rfl) (by kernel_rfl) (by kernel_rfl) (fun _ _ _ h => h) (Or.inl ⟨by rfl, ?_⟩) (by assumption) ?_
                rotate_left
                · (intro w hSw; (try dsimp only at hSw); go_simp); try (with_reducible rfl)
                try simp only [Act.put, List.getElem_toArray, List.getElem_cons_zero, List.getElem_cons_succ, List.setIfInBounds_toArray, List.set_cons_zero, List.set_cons_succ]
                refine wpAnyH_take (i := 6) (v := ?_) rfl (by kernel_rfl) (by kernel_rfl) (by kernel_rfl) (fun _ _ _ h => h) (Or.inl ⟨by rfl, ?_⟩) (by assumption) ?_
                rotate_left
                · (intro w hSw; (try dsimp only at hSw); go_simp); try (with_reducible rfl)
                try simp only [Act.put, List.getElem_toArray, List.getElem_cons_zero, List.getElem_cons_succ, List.setIfInBounds_toArray, List.set_cons_zero, List.set_cons_succ]
                refine wpAnyH_take (i := 7) (v := ?_) rfl (by kernel_rfl) (by kernel_rfl) (by kernel_rfl) (fun _ _ _ h => h) (Or.inl ⟨by rfl, ?_⟩) (by assumption) ?_
                rotate_left
                · (intro w hSw; (try dsimp only at hSw); go_simp); try (with_reducible rfl)
                try simp only [Act.put, List.getElem_toArray, List.getElem_cons_zero, List.getElem_cons_succ, List.setIfInBounds_toArray, List.set_cons_zero, List.set_cons_succ]
                refine wpAnyH_take (i := 8) (v := ?_) rfl (by kernel_rfl) (by kernel_rfl) (by kernel_rfl) (fun _ _ _ h => h) (Or.inl ⟨by rfl, ?_⟩) (by assumption) ?_
                rotate_left
                · (intro w hSw; (try dsimp only at hSw); go_simp); try (with_reducible rfl)
                try simp only [Act.put, List.getElem_toArray, List.getElem_cons_zero, List.getElem_cons_succ, List.setIfInBounds_toArray, List.set_cons_zero, List.set_cons_succ]
                refine wpAnyH_take (i := 9) (v := ?_) rfl (by kernel_rfl) (by kernel_rfl) (by kernel_rfl) (fun _ _ _ h => h) (Or.inl ⟨by rfl, ?_⟩) (by assumption) ?_
                rotate_left
                · (intro w hSw; (try dsimp only at hSw); go_simp); try (with_reducible rfl)
                try simp only [Act.put, List.getElem_toArray, List.getElem_cons_zero, List.getElem_cons_succ, List.setIfInBounds_toArray, List.set_cons_zero, List.set_cons_succ]
                refine wpAnyH_take (i := 10) (v := ?_) rfl (by kernel_rfl) (by kernel_rfl) (by kernel_rfl) (fun _ _ _ h => h) (Or.inl ⟨by rfl, ?_⟩) (by assumption) ?_
                rotate_left
                · (intro w hSw; (try dsimp only at hSw); go_simp); try (with_reducible rfl)
                try simp only [Act.put, List.getElem_toArray, List.getElem_cons_zero, List.getElem_cons_succ, List.setIfInBounds_toArray, List.set_cons_zero, List.set_cons_succ]
                refine wpAnyH_take (i := 11) (v := ?_) rfl (by kernel_rfl) (by kernel_rfl) (by kernel_rfl) (fun _ _ _ h => h) (Or.inl ⟨by rfl, ?_⟩) (by assumption) ?_
                rotate_left
                · (intro w hSw; (try dsimp only at hSw); go_simp); try (with_reducible rfl)
                try simp only [Act.put, List.getElem_toArray, List.getElem_cons_zero, List.getElem_cons_succ, List.setIfInBounds_toArray, List.set_cons_zero, List.set_cons_succ]
                refine wpAnyH_take (i := 12) (v := ?_) rfl (by kernel_rfl) (by kernel_rfl) (by kernel_rfl) (fun _ _ _ h => h) (Or.inl ⟨by rfl, ?_⟩) (by assumption) ?_
                rotate_left
                · (intro w hSw; (try dsimp only at hSw); go_simp); try (with_reducible rfl)
                try simp only [Act.put, List.getElem_toArray, List.getElem_cons_zero, List.getElem_cons_succ, List.setIfInBounds_toArray, List.set_cons_zero, List.set_cons_succ]
                refine wpAnyH_ready (rs := [1, 13]) (by kernel_rfl) (by simp) ?_
                refine AllReadyH.cons rfl (fun K hK => ?ka0) (AllReadyH.cons rfl (fun K hK => ?kb0) AllReadyH.nil)
                case' ka0 =>
                  go_simp
                  refine hK.out _ _ ?_ (fun hHeld => ?_)
                  · (first | go_keep | (exact ⟨k0, k1, k2, k3⟩) | (exact ⟨(World.cell?_setCell_far _ _ _ _ hgy').trans k0, (World.cell?_setCell_far _ _ _ _ hgz').trans k1, (World.cell?_setCell_far _ _ _ _ hgx).trans k2, (World.cell?_setCell_far _ _ _ _ hgb).trans k3⟩))
                  clear hK K
                  try simp only [Act.put, List.getElem_toArray, List.getElem_cons_zero, List.getElem_cons_succ, List.setIfInBounds_toArray, List.set_cons_zero, List.set_cons_succ]
                  refine wpAnyH_ready (rs := [13]) (by kernel_rfl) (by simp) ?_
                  refine AllReadyH.cons rfl (fun K hK => ?_) AllReadyH.nil
                  go_simp
                  refine hK.out _ _ ?_ (fun hHeld => ?_)
                  · (first | go_keep | (exact ⟨k0, k1, k2, k3⟩) | (exact ⟨(World.cell?_setCell_far _ _ _ _ hgy').trans k0, (World.cell?_setCell_far _ _ _ _ hgz').trans k1, (World.cell?_setCell_far _ _ _ _ hgx).trans k2, (World.cell?_setCell_far _ _ _ _ hgb).trans k3⟩))
                  clear hK K
                  try simp only [Act.put, List.getElem_toArray, List.getElem_cons_zero, List.getElem_cons_succ, List.setIfInBounds_toArray, List.set_cons_zero, List.set_cons_succ]
                  refine wpAnyH_ready (rs := [14]) (by kernel_rfl) (by simp) ?_
                  refine AllReadyH.cons rfl (fun K hK => ?_) AllReadyH.nil
                  (refine step_app_at eltI (by rfl) (.tmp 188) (.tmp 200) (by rfl) v ((addL A.links B.links).take j) (by simp [Act.eval]) (HO.out.below (Below.drew ((Below.refl _ _).alloc (Nat.le_refl _) _))) ⟨wr.heap.size, 0, none⟩ 1 1 [x + y] (by simp [Act.eval]) ((sl_new (c := icod) wr #[.int .i64 (x + y)] 3 [x + y] 1 rfl (by unfold maxLen; omega) rfl).below (Below.drew (Below.refl _ _))) HM1.out HM2.out (by simp; omega) ?_; intro v1' w11 hown1 hg1 hat1; obtain ⟨ea, eu, hev, -, -⟩ := hown1.slice; obtain ⟨ln, hln⟩ : ∃ ln, ((addL A.links B.links).take j ++ [x + y]).length = ln := ⟨_, rfl⟩; rw [hln] at hev; subst hev; clear hln; have HO1 := Lib.hid hown1; have HG1 := Lib.hid hg1; have HOB : Hid (∀ k, k < V0.heap.size → some k ≠ v.ownBlock) := (fun k hk e => by have := (World.ownsRow.lt HO.out k e.symm).1; omega); have HX1 : Hid (w11.heap[g]? = some (.cells #[v, .slice none 0 0, .slice none 0 0, .int .i64 X] 78 (0, 0))) := (hg1.block g (by simp; omega) (HOB.out g (by omega))).trans (box_alloc HGr.out); have HYw : Hid (w11.heap[w.heap.size + 1]? = some (.cells #[.slice (some ⟨bx, ox, none⟩) n1 q1, .slice a2 n2 q2, .slice a3 n3 q3, .int .i64 A.lost] 78 (0, 0))) := (hg1.block _ (by simp; omega) (HOB.out _ hyV)).trans (box_alloc HYr.out); have HZw : Hid (w11.heap[w.heap.size + 1 + 1]? = some (.cells #[.slice (some ⟨by', oy, none⟩) n1 r1, .slice b2 n2 r2, .slice b3 n3 r3, .int .i64 B.lost] 78 (0, 0))) := (hg1.block _ (by simp; omega) (HOB.out _ hzV)).trans (box_alloc HZr.out); have k0 := (box_cell HYw.out 0).1; have k1 := (box_cell HZw.out 0).1; have k2 : w11.cell? ⟨bx, ox + j, none⟩ = some (.int .i64 x) := (World.cell?_of_block (hg1.block bx (by simp; omega) (HOB.out bx hbxV))).trans (cell_alloc p0 _); have k3 : w11.cell? ⟨by', oy + j, none⟩ = some (.int .i64 y) := (World.cell?_of_block (hg1.block by' (by simp; omega) (HOB.out by' hbyV))).trans (cell_alloc p1 _); obtain ⟨q0, q1', q2', q3'⟩ := box4_cells HX1.out; have qf := (box_cell HX1.out 0).2; have hql := box_lt HX1.out; clear hown1 hg1 hat1)
                  refine hK.out _ _ ?_ (fun hHeld => ?_)
                  · (first | go_keep | (exact ⟨k0, k1, k2, k3⟩) | (exact ⟨(World.cell?_setCell_far _ _ _ _ hgy').trans k0, (World.cell?_setCell_far _ _ _ _ hgz').trans k1, (World.cell?_setCell_far _ _ _ _ hgx).trans k2, (World.cell?_setCell_far _ _ _ _ hgb).trans k3⟩))
                  clear hK K
                  try simp only [Act.put, List.getElem_toArray, List.getElem_cons_zero, List.getElem_cons_succ, List.setIfInBounds_toArray, List.set_cons_zero, List.set_cons_succ]
                  refine wpAnyH_take (i := 15) (v := ?_) rfl (by kernel_rfl) (by kernel_rfl) (by kernel_rfl) (fun _ _ _ h => h) (Or.inl ⟨by rfl, ?_⟩) (by assumption) ?_
                  rotate_left
                  · (intro w hSw; (try dsimp only at hSw); go_simp); try (with_reducible rfl)
                  try simp only [Act.put, List.getElem_toArray, List.getElem_cons_zero, List.getElem_cons_succ, List.setIfInBounds_toArray, List.set_cons_zero, List.set_cons_succ]
                  refine wpAnyH_ready (rs := [16]) (by kernel_rfl) (by simp) ?_
                  refine AllReadyH.cons rfl (fun K hK => ?_) AllReadyH.nil
                  go_simp
                  refine hK.out _ _ ?_ (fun hHeld => ?_)
                  · (first | go_keep | (exact ⟨k0, k1, k2, k3⟩) | (exact ⟨(World.cell?_setCell_far _ _ _ _ hgy').trans k0, (World.cell?_setCell_far _ _ _ _ hgz').trans k1, (World.cell?_setCell_far _ _ _ _ hgx).trans k2, (World.cell?_setCell_far _ _ _ _ hgb).trans k3⟩))
                  clear hK K
                  try simp only [Act.put, List.getElem_toArray, List.getElem_cons_zero, List.getElem_cons_succ, List.setIfInBounds_toArray, List.set_cons_zero, List.set_cons_succ]
                  refine wpAnyH_done (by kernel_rfl) ?_ _
                case' kb0 =>
                  go_simp
                  refine hK.out _ _ ?_ (fun hHeld => ?_)
                  · (first | go_keep | (exact ⟨k0, k1, k2, k3⟩) | (exact ⟨(World.cell?_setCell_far _ _ _ _ hgy').trans k0, (World.cell?_setCell_far _ _ _ _ hgz').trans k1, (World.cell?_setCell_far _ _ _ _ hgx).trans k2, (World.cell?_setCell_far _ _ _ _ hgb).trans k3⟩))
                  clear hK K
                  try simp only [Act.put, List.getElem_toArray, List.getElem_cons_zero, List.getElem_cons_succ, List.setIfInBounds_toArray, List.set_cons_zero, List.set_cons_succ]
                  refine wpAnyH_ready (rs := [1]) (by kernel_rfl) (by simp) ?_
                  refine AllReadyH.cons rfl (fun K hK => ?_) AllReadyH.nil
                  go_simp
                  refine hK.out _ _ ?_ (fun hHeld => ?_)
                  · (first | go_keep | (exact ⟨k0, k1, k2, k3⟩) | (exact ⟨(World.cell?_setCell_far _ _ _ _ hgy').trans k0, (World.cell?_setCell_far _ _ _ _ hgz').trans k1, (World.cell?_setCell_far _ _ _ _ hgx).trans k2, (World.cell?_setCell_far _ _ _ _ hgb).trans k3⟩))
                  clear hK K
                  try simp only [Act.put, List.getElem_toArray, List.getElem_cons_zero, List.getElem_cons_succ, List.setIfInBounds_toArray, List.set_cons_zero, List.set_cons_succ]
                  refine wpAnyH_ready (rs := [14]) (by kernel_rfl) (by simp) ?_
                  refine AllReadyH.cons rfl (fun K hK => ?_) AllReadyH.nil
                  (refine step_app_at eltI (by rfl) (.tmp 188) (.tmp 200) (by rfl) v ((addL A.links B.links).take j) (by simp [Act.eval]) (HO.out.below (Below.drew ((Below.refl _ _).alloc (Nat.le_refl _) _))) ⟨wr.heap.size, 0, none⟩ 1 1 [x + y] (by simp [Act.eval]) ((sl_new (c := icod) wr #[.int .i64 (x + y)] 3 [x + y] 1 rfl (by unfold maxLen; omega) rfl).below (Below.drew (Below.refl _ _))) HM1.out HM2.out (by simp; omega) ?_; intro v1' w11 hown1 hg1 hat1; obtain ⟨ea, eu, hev, -, -⟩ := hown1.slice; obtain ⟨ln, hln⟩ : ∃ ln, ((addL A.links B.links).take j ++ [x + y]).length = ln := ⟨_, rfl⟩; rw [hln] at hev; subst hev; clear hln; have HO1 := Lib.hid hown1; have HG1 := Lib.hid hg1; have HOB : Hid (∀ k, k < V0.heap.size → some k ≠ v.ownBlock) := (fun k hk e => by have := (World.ownsRow.lt HO.out k e.symm).1; omega); have HX1 : Hid (w11.heap[g]? = some (.cells #[v, .slice none 0 0, .slice none 0 0, .int .i64 X] 78 (0, 0))) := (hg1.block g (by simp; omega) (HOB.out g (by omega))).trans (box_alloc HGr.out); have HYw : Hid (w11.heap[w.heap.size + 1]? = some (.cells #[.slice (some ⟨bx, ox, none⟩) n1 q1, .slice a2 n2 q2, .slice a3 n3 q3, .int .i64 A.lost] 78 (0, 0))) := (hg1.block _ (by simp; omega) (HOB.out _ hyV)).trans (box_alloc HYr.out); have HZw : Hid (w11.heap[w.heap.size + 1 + 1]? = some (.cells #[.slice (some ⟨by', oy, none⟩) n1 r1, .slice b2 n2 r2, .slice b3 n3 r3, .int .i64 B.lost] 78 (0, 0))) := (hg1.block _ (by simp; omega) (HOB.out _ hzV)).trans (box_alloc HZr.out); have k0 := (box_cell HYw.out 0).1; have k1 := (box_cell HZw.out 0).1; have k2 : w11.cell? ⟨bx, ox + j, none⟩ = some (.int .i64 x) := (World.cell?_of_block (hg1.block bx (by simp; omega) (HOB.out bx hbxV))).trans (cell_alloc p0 _); have k3 : w11.cell? ⟨by', oy + j, none⟩ = some (.int .i64 y) := (World.cell?_of_block (hg1.block by' (by simp; omega) (HOB.out by' hbyV))).trans (cell_alloc p1 _); obtain ⟨q0, q1', q2', q3'⟩ := box4_cells HX1.out; have qf := (box_cell HX1.out 0).2; have hql := box_lt HX1.out; clear hown1 hg1 hat1)
                  refine hK.out _ _ ?_ (fun hHeld => ?_)
                  · (first | go_keep | (exact ⟨k0, k1, k2, k3⟩) | (exact ⟨(World.cell?_setCell_far _ _ _ _ hgy').trans k0, (World.cell?_setCell_far _ _ _ _ hgz').trans k1, (World.cell?_setCell_far _ _ _ _ hgx).trans k2, (World.cell?_setCell_far _ _ _ _ hgb).trans k3⟩))
                  clear hK K
                  try simp only [Act.put, List.getElem_toArray, List.getElem_cons_zero, List.getElem_cons_succ, List.setIfInBounds_toArray, List.set_cons_zero, List.set_cons_succ]
                  refine wpAnyH_take (i := 15) (v := ?_) rfl (by kernel_rfl) (by kernel_rfl) (by kernel_rfl) (fun _ _ _ h => h) (Or.inl ⟨by rfl, ?_⟩) (by assumption) ?_
                  rotate_left
                  · (intro w hSw; (try dsimp only at hSw); go_simp); try (with_reducible rfl)
                  try simp only [Act.put, List.getElem_toArray, List.getElem_cons_zero, List.getElem_cons_succ, List.setIfInBounds_toArray, List.set_cons_zero, List.set_cons_succ]
                  refine wpAnyH_ready (rs := [16]) (by kernel_rfl) (by simp) ?_
                  refine AllReadyH.cons rfl (fun K hK => ?_) AllReadyH.nil
                  go_simp
                  refine hK.out _ _ ?_ (fun hHeld => ?_)
                  · (first | go_keep | (exact ⟨k0, k1, k2, k3⟩) | (exact ⟨(World.cell?_setCell_far _ _ _ _ hgy').trans k0, (World.cell?_setCell_far _ _ _ _ hgz').trans k1, (World.cell?_setCell_far _ _ _ _ hgx).trans k2, (World.cell?_setCell_far _ _ _ _ hgb).trans k3⟩))
                  clear hK K
                  try simp only [Act.put, List.getElem_toArray, List.getElem_cons_zero, List.getElem_cons_succ, List.setIfInBounds_toArray, List.set_cons_zero, List.set_cons_succ]
                  refine wpAnyH_done (by kernel_rfl) ?_ _
                all_goals
                  have HO2 : Hid (V.Own 3 icod V0.heap.size (w11.setCell ⟨g, 0, none⟩ (.slice ea ln eu)) (.slice ea ln eu) ((addL A.links B.links).take (j + 1))) := by show V.Own _ _ _ _ _ _; rw [HSN.out]; exact own_kept_any HO1.out (by omega)
                  have HR2 : Hid (V0.grownBy (w11.setCell ⟨g, 0, none⟩ (.slice ea ln eu)) (some g)) := grown_g2 (grown_g HR.out (Below.drew ((Below.refl _ _).alloc (Nat.le_refl _) (.cells #[.int .i64 (x + y)] 3))) HG1.out (fun o e => (World.ownsRow.lt HO.out o e).1)) _ _
                  have HG2 : Hid ((w11.setCell ⟨g, 0, none⟩ (.slice ea ln eu)).heap[g]? = some (.cells #[.slice ea ln eu, .slice none 0 0, .slice none 0 0, .int .i64 X] 78 (0, 0))) := (by show _ = _; rw [heap_setCell_same w11 g 0 _ _ (.slice ea ln eu) HX1.out]; rfl)
                  go_wp2_with fail
                  go_roundw
                  case rel => exact ⟨.slice ea ln eu, j + 1, by go_num, by omega, HG2.out, HO2.out, HR2.out⟩
                  case measure => simp [intOf]; omega
            · have hjn : n1 = j := by omega
              subst hjn
              have HFU : Hid (V.Own 3 icod V0.heap.size wr v (addL A.links B.links)) := by
                have := HO.out
                rwa [List.take_of_length_le (by rw [addL_len (sumB_parts HS1.out).1]; have := HLA.out; omega)] at this
              obtain ⟨ee0, u0, hv, -, -⟩ := HFU.out.slice
              obtain ⟨k0', hk⟩ : ∃ k', (addL A.links B.links).length = k' := ⟨_, rfl⟩
              rw [hk] at hv
              subst hv
              clear hk
              have hsE := own_sl2 HFU.out
              have HE0 := Lib.hid hsE
              have HNE0 : Hid (∀ d, ee0 = some d → d.block ≠ g) := fun d hd => by subst hd; have := (World.ownsRow.lt HFU.out d.block rfl).1; have := hg0; omega
              have HG1 := HGr
              have HY1 := HYr
              have HZ1 := HZr
              have HA1 := Lib.hid (fl_grown HA0.out HR.out HNA.out)
              have HB1' := Lib.hid (fl_grown HB0'.out HR.out HNB.out)
              have HM1' := Lib.hid (fl_grown HM0'.out HR.out HNM.out)
              have HF1' := Lib.hid (box_grown HF0'.out HR.out hgf)
              have HW1 := Lib.hid (below_g HW0.out HR.out hgw)
              have hg1 : g < wr.heap.size := box_lt HGr.out
              clear hsE HFU HO HR HGr HYr HZr
              obtain ⟨V1, hVV⟩ : ∃ V, V = wr := ⟨_, rfl⟩
              subst hVV
              go_wp2_with fail
              go_loopw [207] (fun i wr => ∃ (v : Value) (j : Nat), i = .int .i64 j ∧ j ≤ n2 ∧ Hid (wr.heap[g]? = some (.cells #[.slice ee0 k0' u0, v, .slice none 0 0, .int .i64 X] 78 (0, 0))) ∧ Hid (V.Own 3 icod V1.heap.size wr v ((addL A.on B.on).take j)) ∧ Hid (V1.grownBy wr (some g))) (fun i _ => n2 - (intOf i).toNat)
              case atStart => exact ⟨.slice none 0 0, 0, by go_num, by omega, HG1.out, Own.nil, World.grownBy.refl' _ _⟩
              case round =>
                obtain ⟨v, j, rfl, hj, HGr, HO, HR⟩ := hrel
                clear y0 y1 y2 y3 z0 z1 z2 z3 hyl hzl
                have HYr := Lib.hid (box_grown HY1.out HR.out hgy)
                have HZr := Lib.hid (box_grown HZ1.out HR.out hgz)
                obtain ⟨y0, y1, y2, y3⟩ := box4_cells HYr.out
                obtain ⟨z0, z1, z2, z3⟩ := box4_cells HZr.out
                have hyl := box_lt HYr.out
                have hzl := box_lt HZr.out
                by_cases hlt : j < n2
                · as_aux_lemma =>
                    obtain ⟨bx, ox, x, e1, hbx, hx, p0⟩ := int_at (sl_grown HA1.out.n HR.out (fun d hd => HNA.out d (.inr (.inl hd)))) hlt
                    obtain ⟨by', oy, y, e2, hby, hy, p1⟩ := int_at (sl_grown HB1'.out.n HR.out (fun d hd => HNB.out d (.inr (.inl hd)))) hlt
                    have e1 : a2 = _ := e1
                    have e2 : b2 = _ := e2
                    subst e1
                    subst e2
                    have hbxV : bx < V1.heap.size := (HA1.out.n.hat _ rfl).2.1
                    have hbyV : by' < V1.heap.size := (HB1'.out.n.hat _ rfl).2.1
                    have hgx : g ≠ bx := fun e => HNA.out _ (.inr (.inl rfl)) e.symm
                    have hgb : g ≠ by' := fun e => HNB.out _ (.inr (.inl rfl)) e.symm
                    have hgy' : g ≠ w.heap.size + 1 := fun e => hgy e.symm
                    have hgz' : g ≠ w.heap.size + 1 + 1 := fun e => hgz e.symm
                    have hyV := box_lt HY1.out
                    have hzV := box_lt HZ1.out
                    have hxr := (sumB_parts HS2.out).2.1 j x hx
                    have hyr := (sumB_parts HS2.out).2.2 j y hy
                    have hadd : IntKind.i64.wrap (x + y) = x + y := by rw [IntKind.wrap_i64]; omega
                    have hji : (j : Int) < (n2 : Int) := by omega
                    have HSN := Lib.hid (addL_snoc hx hy)
                    have HM1 : Hid (((addL A.on B.on).take j).length + 1 ≤ maxLen) := by show _ ≤ _; rw [List.length_take]; unfold maxLen; omega
                    have HM2 : Hid ((((addL A.on B.on).take j).length + 1) * 8 ≤ 140737488355328) := by show _ ≤ _; rw [List.length_take]; omega
                    clear hx hy hxr hyr
                    obtain ⟨v0, v1, v2, v3⟩ := box4_cells HGr.out
                    have vf := (box_cell HGr.out 1).2
                    have hvl := box_lt HGr.out
                    have hws := HR.out.size
                    go_upto_region 35 with fail
                    refine wp_region_held_drew (S := (fun w' => w'.cell? ⟨w.heap.size + 1, 1, none⟩ = some (.slice (some ⟨bx, ox, none⟩) n2 q2) ∧ w'.cell? ⟨w.heap.size + 1 + 1, 1, none⟩ = some (.slice (some ⟨by', oy, none⟩) n2 r2) ∧ w'.cell? ⟨bx, ox + j, none⟩ = some (.int .i64 x) ∧ w'.cell? ⟨by', oy + j, none⟩ = some (.int .i64 y))) (by kernel_rfl) ?_ (fun hHeld => ?_)
                    · (first | go_keep | (exact ⟨y1, z1, p0, p1⟩))
                    refine wpAnyH_take (i := 0) (v := ?_) rfl (by kernel_rfl) (by kernel_rfl) (by kernel_rfl) (fun _ _ _ h => h) (Or.inl ⟨by rfl, ?_⟩) (by assumption) ?_
                    rotate_left
                    · (intro w hSw; (try dsimp only at hSw); go_simp); try (with_reducible rfl)
                    try simp only [Act.put, List.getElem_toArray, List.getElem_cons_zero, List.getElem_cons_succ, List.setIfInBounds_toArray, List.set_cons_zero, List.set_cons_succ]
                    refine wpAnyH_take (i := 2) (v := ?_) rfl (by kernel_rfl) (by kernel_rfl) (by kernel_rfl) (fun _ _ _ h => h) (Or.inl ⟨by rfl, ?_⟩) (by assumption) ?_
                    rotate_left
                    · (intro w hSw; (try dsimp only at hSw); go_simp); try (with_reducible rfl)
                    try simp only [Act.put, List.getElem_toArray, List.getElem_cons_zero, List.getElem_cons_succ, List.setIfInBounds_toArray, List.set_cons_zero, List.set_cons_succ]
                    refine wpAnyH_take (i := 3) (v := ?_) rfl (by kernel_rfl) (by kernel_rfl) (by kernel_rfl) (fun _ _ _ h => h) (Or.inl ⟨by rfl, ?_⟩) (by assumption) ?_
                    rotate_left
                    · (intro w hSw; (try dsimp only at hSw); go_simp); try (with_reducible rfl)
                    try simp only [Act.put, List.getElem_toArray, List.getElem_cons_zero, List.getElem_cons_succ, List.setIfInBounds_toArray, List.set_cons_zero, List.set_cons_succ]
                    refine wpAnyH_take (i := 4) (v := ?_) rfl (by kernel_rfl) (by kernel_rfl) (by kernel_rfl) (fun _ _ _ h => h) (Or.inl ⟨by rfl, ?_⟩) (by assumption) ?_
                    rotate_left
                    · (intro w hSw; (try dsimp only at hSw); go_simp); try (with_reducible rfl)
                    try simp only [Act.put, List.getElem_toArray, List.getElem_cons_zero, List.getElem_cons_succ, List.setIfInBounds_toArray, List.set_cons_zero, List.set_cons_succ]
                    refine wpAnyH_take (i := 5) (v := ?_) rfl (by kernel_rfl) (by kernel_rfl) (by kernel_rfl) (fun _ _ _ h => h) (Or.inl ⟨by rfl, ?_⟩) (by assumption) ?_
                    rotate_left
                    · (intro w hSw; (try dsimp only at hSw); go_simp); try (with_reducible rfl)
                    try simp only [Act.put, List.getElem_toArray, List.getElem_cons_zero, List.getElem_cons_succ, List.setIfInBounds_toArray, List.set_cons_zero, List.set_cons_succ]
                    refine wpAnyH_take (i := 6) (v := ?_) rfl (by kernel_rfl) (by kernel_rfl) (by kernel_rfl) (fun _ _ _ h => h) (Or.inl ⟨by rfl, ?_⟩) (by assumption) ?_
                    rotate_left
                    · (intro w hSw; (try dsimp only at hSw); go_simp); try (with_reducible rfl)
                    try simp only [Act.put, List.getElem_toArray, List.getElem_cons_zero, List.getElem_cons_succ, List.setIfInBounds_toArray, List.set_cons_zero, List.set_cons_succ]
                    refine wpAnyH_take (i := 7) (v := ?_) rfl (by kernel_rfl) (by kernel_rfl) (by kernel_rfl) (fun _ _ _ h => h) (Or.inl ⟨by rfl, ?_⟩) (by assumption) ?_
                    rotate_left
                    · (intro w hSw; (try dsimp only at hSw); go_simp); try (with_reducible rfl)
                    try simp only [Act.put, List.getElem_toArray, List.getElem_cons_zero, List.getElem_cons_succ, List.setIfInBounds_toArray, List.set_cons_zero, List.set_cons_succ]
                    refine wpAnyH_take (i := 8) (v := ?_) rfl (by kernel_rfl) (by kernel_rfl) (by kernel_rfl) (fun _ _ _ h => h) (Or.inl ⟨by rfl, ?_⟩) (by assumption) ?_
                    rotate_left
                    · (intro w hSw; (try dsimp only at hSw); go_simp); try (with_reducible rfl)
                    try simp only [Act.put, List.getElem_toArray, List.getElem_cons_zero, List.getElem_cons_succ, List.setIfInBounds_toArray, List.set_cons_zero, List.set_cons_succ]
                    refine wpAnyH_take (i := 9) (v := ?_) rfl (by kernel_rfl) (by kernel_rfl) (by kernel_rfl) (fun _ _ _ h => h) (Or.inl ⟨by rfl, ?_⟩) (by assumption) ?_
                    rotate_left
                    · (intro w hSw; (try dsimp only at hSw); go_simp); try (with_reducible rfl)
                    try simp only [Act.put, List.getElem_toArray, List.getElem_cons_zero, List.getElem_cons_succ, List.setIfInBounds_toArray, List.set_cons_zero, List.set_cons_succ]
                    refine wpAnyH_take (i := 10) (v := ?_) rfl (by kernel_rfl) (by kernel_rfl) (by kernel_rfl) (fun _ _ _ h => h) (Or.inl ⟨by rfl, ?_⟩) (by assumption) ?_
                    rotate_left
                    · (intro w hSw; (try dsimp only at hSw); go_simp); try (with_reducible rfl)
                    try simp only [Act.put, List.getElem_toArray, List.getElem_cons_zero, List.getElem_cons_succ, List.setIfInBounds_toArray, List.set_cons_zero, List.set_cons_succ]
                    refine wpAnyH_take (i := 11) (v := ?_) rfl (by kernel_rfl) (by kernel_rfl) (by kernel_rfl) (fun _ _ _ h => h) (Or.inl ⟨by rfl, ?_⟩) (by assumption) ?_
                    rotate_left
                    · (intro w hSw; (try dsimp only at hSw); go_simp); try (with_reducible rfl)
                    try simp only [Act.put, List.getElem_toArray, List.getElem_cons_zero, List.getElem_cons_succ, List.setIfInBounds_toArray, List.set_cons_zero, List.set_cons_succ]
                    refine wpAnyH_take (i := 12) (v := ?_) rfl (by kernel_rfl) (by kernel_rfl) (by kernel_rfl) (fun _ _ _ h => h) (Or.inl ⟨by rfl, ?_⟩) (by assumption) ?_
                    rotate_left
                    · (intro w hSw; (try dsimp only at hSw); go_simp); try (with_reducible rfl)
                    try simp only [Act.put, List.getElem_toArray, List.getElem_cons_zero, List.getElem_cons_succ, List.setIfInBounds_toArray, List.set_cons_zero, List.set_cons_succ]
                    refine wpAnyH_ready (rs := [1, 13]) (by kernel_rfl) (by simp) ?_
                    refine AllReadyH.cons rfl (fun K hK => ?ka1) (AllReadyH.cons rfl (fun K hK => ?kb1) AllReadyH.nil)
                    case' ka1 =>
                      go_simp
                      refine hK.out _ _ ?_ (fun hHeld => ?_)
                      · (first | go_keep | (exact ⟨k0, k1, k2, k3⟩) | (exact ⟨(World.cell?_setCell_far _ _ _ _ hgy').trans k0, (World.cell?_setCell_far _ _ _ _ hgz').trans k1, (World.cell?_setCell_far _ _ _ _ hgx).trans k2, (World.cell?_setCell_far _ _ _ _ hgb).trans k3⟩))
                      clear hK K
                      try simp only [Act.put, List.getElem_toArray, List.getElem_cons_zero, List.getElem_cons_succ, List.setIfInBounds_toArray, List.set_cons_zero, List.set_cons_succ]
                      refine wpAnyH_ready (rs := [13]) (by kernel_rfl) (by simp) ?_
                      refine AllReadyH.cons rfl (fun K hK => ?_) AllReadyH.nil
                      go_simp
                      refine hK.out _ _ ?_ (fun hHeld => ?_)
                      · (first | go_keep | (exact ⟨k0, k1, k2, k3⟩) | (exact ⟨(World.cell?_setCell_far _ _ _ _ hgy').trans k0, (World.cell?_setCell_far _ _ _ _ hgz').trans k1, (World.cell?_setCell_far _ _ _ _ hgx).trans k2, (World.cell?_setCell_far _ _ _ _ hgb).trans k3⟩))
                      clear hK K
                      try simp only [Act.put, List.getElem_toArray, List.getElem_cons_zero, List.getElem_cons_succ, List.setIfInBounds_toArray, List.set_cons_zero, List.set_cons_succ]
                      refine wpAnyH_ready (rs := [14]) (by kernel_rfl) (by simp) ?_
                      refine AllReadyH.cons rfl (fun K hK => ?_) AllReadyH.nil
                      (refine step_app_at eltI (by rfl) (.tmp 211) (.tmp 223) (by rfl) v ((addL A.on B.on).take j) (by simp [Act.eval]) (HO.out.below (Below.drew ((Below.refl _ _).alloc (Nat.le_refl _) _))) ⟨wr.heap.size, 0, none⟩ 1 1 [x + y] (by simp [Act.eval]) ((sl_new (c := icod) wr #[.int .i64 (x + y)] 3 [x + y] 1 rfl (by unfold maxLen; omega) rfl).below (Below.drew (Below.refl _ _))) HM1.out HM2.out (by simp; omega) ?_; intro v1' w11 hown1 hg1 hat1; obtain ⟨ea, eu, hev, -, -⟩ := hown1.slice; obtain ⟨ln, hln⟩ : ∃ ln, ((addL A.on B.on).take j ++ [x + y]).length = ln := ⟨_, rfl⟩; rw [hln] at hev; subst hev; clear hln; have HO1 := Lib.hid hown1; have HG1 := Lib.hid hg1; have HOB : Hid (∀ k, k < V1.heap.size → some k ≠ v.ownBlock) := (fun k hk e => by have := (World.ownsRow.lt HO.out k e.symm).1; omega); have HX1 : Hid (w11.heap[g]? = some (.cells #[.slice ee0 k0' u0, v, .slice none 0 0, .int .i64 X] 78 (0, 0))) := (hg1.block g (by simp; omega) (HOB.out g (by omega))).trans (box_alloc HGr.out); have HYw : Hid (w11.heap[w.heap.size + 1]? = some (.cells #[.slice a1 n1 q1, .slice (some ⟨bx, ox, none⟩) n2 q2, .slice a3 n3 q3, .int .i64 A.lost] 78 (0, 0))) := (hg1.block _ (by simp; omega) (HOB.out _ hyV)).trans (box_alloc HYr.out); have HZw : Hid (w11.heap[w.heap.size + 1 + 1]? = some (.cells #[.slice b1 n1 r1, .slice (some ⟨by', oy, none⟩) n2 r2, .slice b3 n3 r3, .int .i64 B.lost] 78 (0, 0))) := (hg1.block _ (by simp; omega) (HOB.out _ hzV)).trans (box_alloc HZr.out); have k0 := (box_cell HYw.out 1).1; have k1 := (box_cell HZw.out 1).1; have k2 : w11.cell? ⟨bx, ox + j, none⟩ = some (.int .i64 x) := (World.cell?_of_block (hg1.block bx (by simp; omega) (HOB.out bx hbxV))).trans (cell_alloc p0 _); have k3 : w11.cell? ⟨by', oy + j, none⟩ = some (.int .i64 y) := (World.cell?_of_block (hg1.block by' (by simp; omega) (HOB.out by' hbyV))).trans (cell_alloc p1 _); obtain ⟨q0, q1', q2', q3'⟩ := box4_cells HX1.out; have qf := (box_cell HX1.out 1).2; have hql := box_lt HX1.out; clear hown1 hg1 hat1)
                      refine hK.out _ _ ?_ (fun hHeld => ?_)
                      · (first | go_keep | (exact ⟨k0, k1, k2, k3⟩) | (exact ⟨(World.cell?_setCell_far _ _ _ _ hgy').trans k0, (World.cell?_setCell_far _ _ _ _ hgz').trans k1, (World.cell?_setCell_far _ _ _ _ hgx).trans k2, (World.cell?_setCell_far _ _ _ _ hgb).trans k3⟩))
                      clear hK K
                      try simp only [Act.put, List.getElem_toArray, List.getElem_cons_zero, List.getElem_cons_succ, List.setIfInBounds_toArray, List.set_cons_zero, List.set_cons_succ]
                      refine wpAnyH_take (i := 15) (v := ?_) rfl (by kernel_rfl) (by kernel_rfl) (by kernel_rfl) (fun _ _ _ h => h) (Or.inl ⟨by rfl, ?_⟩) (by assumption) ?_
                      rotate_left
                      · (intro w hSw; (try dsimp only at hSw); go_simp); try (with_reducible rfl)
                      try simp only [Act.put, List.getElem_toArray, List.getElem_cons_zero, List.getElem_cons_succ, List.setIfInBounds_toArray, List.set_cons_zero, List.set_cons_succ]
                      refine wpAnyH_ready (rs := [16]) (by kernel_rfl) (by simp) ?_
                      refine AllReadyH.cons rfl (fun K hK => ?_) AllReadyH.nil
                      go_simp
                      refine hK.out _ _ ?_ (fun hHeld => ?_)
                      · (first | go_keep | (exact ⟨k0, k1, k2, k3⟩) | (exact ⟨(World.cell?_setCell_far _ _ _ _ hgy').trans k0, (World.cell?_setCell_far _ _ _ _ hgz').trans k1, (World.cell?_setCell_far _ _ _ _ hgx).trans k2, (World.cell?_setCell_far _ _ _ _ hgb).trans k3⟩))
                      clear hK K
                      try simp only [Act.put, List.getElem_toArray, List.getElem_cons_zero, List.getElem_cons_succ, List.setIfInBounds_toArray, List.set_cons_zero, List.set_cons_succ]
                      refine wpAnyH_done (by kernel_rfl) ?_ _
                    case' kb1 =>
                      go_simp
                      refine hK.out _ _ ?_ (fun hHeld => ?_)
                      · (first | go_keep | (exact ⟨k0, k1, k2, k3⟩) | (exact ⟨(World.cell?_setCell_far _ _ _ _ hgy').trans k0, (World.cell?_setCell_far _ _ _ _ hgz').trans k1, (World.cell?_setCell_far _ _ _ _ hgx).trans k2, (World.cell?_setCell_far _ _ _ _ hgb).trans k3⟩))
                      clear hK K
                      try simp only [Act.put, List.getElem_toArray, List.getElem_cons_zero, List.getElem_cons_succ, List.setIfInBounds_toArray, List.set_cons_zero, List.set_cons_succ]
                      refine wpAnyH_ready (rs := [1]) (by kernel_rfl) (by simp) ?_
                      refine AllReadyH.cons rfl (fun K hK => ?_) AllReadyH.nil
                      go_simp
                      refine hK.out _ _ ?_ (fun hHeld => ?_)
                      · (first | go_keep | (exact ⟨k0, k1, k2, k3⟩) | (exact ⟨(World.cell?_setCell_far _ _ _ _ hgy').trans k0, (World.cell?_setCell_far _ _ _ _ hgz').trans k1, (World.cell?_setCell_far _ _ _ _ hgx).trans k2, (World.cell?_setCell_far _ _ _ _ hgb).trans k3⟩))
                      clear hK K
                      try simp only [Act.put, List.getElem_toArray, List.getElem_cons_zero, List.getElem_cons_succ, List.setIfInBounds_toArray, List.set_cons_zero, List.set_cons_succ]
                      refine wpAnyH_ready (rs := [14]) (by kernel_rfl) (by simp) ?_
                      refine AllReadyH.cons rfl (fun K hK => ?_) AllReadyH.nil
                      (refine step_app_at eltI (by rfl) (.tmp 211) (.tmp 223) (by rfl) v ((addL A.on B.on).take j) (by simp [Act.eval]) (HO.out.below (Below.drew ((Below.refl _ _).alloc (Nat.le_refl _) _))) ⟨wr.heap.size, 0, none⟩ 1 1 [x + y] (by simp [Act.eval]) ((sl_new (c := icod) wr #[.int .i64 (x + y)] 3 [x + y] 1 rfl (by unfold maxLen; omega) rfl).below (Below.drew (Below.refl _ _))) HM1.out HM2.out (by simp; omega) ?_; intro v1' w11 hown1 hg1 hat1; obtain ⟨ea, eu, hev, -, -⟩ := hown1.slice; obtain ⟨ln, hln⟩ : ∃ ln, ((addL A.on B.on).take j ++ [x + y]).length = ln := ⟨_, rfl⟩; rw [hln] at hev; subst hev; clear hln; have HO1 := Lib.hid hown1; have HG1 := Lib.hid hg1; have HOB : Hid (∀ k, k < V1.heap.size → some k ≠ v.ownBlock) := (fun k hk e => by have := (World.ownsRow.lt HO.out k e.symm).1; omega); have HX1 : Hid (w11.heap[g]? = some (.cells #[.slice ee0 k0' u0, v, .slice none 0 0, .int .i64 X] 78 (0, 0))) := (hg1.block g (by simp; omega) (HOB.out g (by omega))).trans (box_alloc HGr.out); have HYw : Hid (w11.heap[w.heap.size + 1]? = some (.cells #[.slice a1 n1 q1, .slice (some ⟨bx, ox, none⟩) n2 q2, .slice a3 n3 q3, .int .i64 A.lost] 78 (0, 0))) := (hg1.block _ (by simp; omega) (HOB.out _ hyV)).trans (box_alloc HYr.out); have HZw : Hid (w11.heap[w.heap.size + 1 + 1]? = some (.cells #[.slice b1 n1 r1, .slice (some ⟨by', oy, none⟩) n2 r2, .slice b3 n3 r3, .int .i64 B.lost] 78 (0, 0))) := (hg1.block _ (by simp; omega) (HOB.out _ hzV)).trans (box_alloc HZr.out); have k0 := (box_cell HYw.out 1).1; have k1 := (box_cell HZw.out 1).1; have k2 : w11.cell? ⟨bx, ox + j, none⟩ = some (.int .i64 x) := (World.cell?_of_block (hg1.block bx (by simp; omega) (HOB.out bx hbxV))).trans (cell_alloc p0 _); have k3 : w11.cell? ⟨by', oy + j, none⟩ = some (.int .i64 y) := (World.cell?_of_block (hg1.block by' (by simp; omega) (HOB.out by' hbyV))).trans (cell_alloc p1 _); obtain ⟨q0, q1', q2', q3'⟩ := box4_cells HX1.out; have qf := (box_cell HX1.out 1).2; have hql := box_lt HX1.out; clear hown1 hg1 hat1)
                      refine hK.out _ _ ?_ (fun hHeld => ?_)
                      · (first | go_keep | (exact ⟨k0, k1, k2, k3⟩) | (exact ⟨(World.cell?_setCell_far _ _ _ _ hgy').trans k0, (World.cell?_setCell_far _ _ _ _ hgz').trans k1, (World.cell?_setCell_far _ _ _ _ hgx).trans k2, (World.cell?_setCell_far _ _ _ _ hgb).trans k3⟩))
                      clear hK K
                      try simp only [Act.put, List.getElem_toArray, List.getElem_cons_zero, List.getElem_cons_succ, List.setIfInBounds_toArray, List.set_cons_zero, List.set_cons_succ]
                      refine wpAnyH_take (i := 15) (v := ?_) rfl (by kernel_rfl) (by kernel_rfl) (by kernel_rfl) (fun _ _ _ h => h) (Or.inl ⟨by rfl, ?_⟩) (by assumption) ?_
                      rotate_left
                      · (intro w hSw; (try dsimp only at hSw); go_simp); try (with_reducible rfl)
                      try simp only [Act.put, List.getElem_toArray, List.getElem_cons_zero, List.getElem_cons_succ, List.setIfInBounds_toArray, List.set_cons_zero, List.set_cons_succ]
                      refine wpAnyH_ready (rs := [16]) (by kernel_rfl) (by simp) ?_
                      refine AllReadyH.cons rfl (fun K hK => ?_) AllReadyH.nil
                      go_simp
                      refine hK.out _ _ ?_ (fun hHeld => ?_)
                      · (first | go_keep | (exact ⟨k0, k1, k2, k3⟩) | (exact ⟨(World.cell?_setCell_far _ _ _ _ hgy').trans k0, (World.cell?_setCell_far _ _ _ _ hgz').trans k1, (World.cell?_setCell_far _ _ _ _ hgx).trans k2, (World.cell?_setCell_far _ _ _ _ hgb).trans k3⟩))
                      clear hK K
                      try simp only [Act.put, List.getElem_toArray, List.getElem_cons_zero, List.getElem_cons_succ, List.setIfInBounds_toArray, List.set_cons_zero, List.set_cons_succ]
                      refine wpAnyH_done (by kernel_rfl) ?_ _
                    all_goals
                      have HO2 : Hid (V.Own 3 icod V1.heap.size (w11.setCell ⟨g, 1, none⟩ (.slice ea ln eu)) (.slice ea ln eu) ((addL A.on B.on).take (j + 1))) := by show V.Own _ _ _ _ _ _; rw [HSN.out]; exact own_kept_any HO1.out (by omega)
                      have HR2 : Hid (V1.grownBy (w11.setCell ⟨g, 1, none⟩ (.slice ea ln eu)) (some g)) := grown_g2 (grown_g HR.out (Below.drew ((Below.refl _ _).alloc (Nat.le_refl _) (.cells #[.int .i64 (x + y)] 3))) HG1.out (fun o e => (World.ownsRow.lt HO.out o e).1)) _ _
                      have HG2 : Hid ((w11.setCell ⟨g, 1, none⟩ (.slice ea ln eu)).heap[g]? = some (.cells #[.slice ee0 k0' u0, .slice ea ln eu, .slice none 0 0, .int .i64 X] 78 (0, 0))) := (by show _ = _; rw [heap_setCell_same w11 g 1 _ _ (.slice ea ln eu) HX1.out]; rfl)
                      go_wp2_with fail
                      go_roundw
                      case rel => exact ⟨.slice ea ln eu, j + 1, by go_num, by omega, HG2.out, HO2.out, HR2.out⟩
                      case measure => simp [intOf]; omega
                · have hjn : n2 = j := by omega
                  subst hjn
                  have HFU : Hid (V.Own 3 icod V1.heap.size wr v (addL A.on B.on)) := by
                    have := HO.out
                    rwa [List.take_of_length_le (by rw [addL_len (sumB_parts HS2.out).1]; have := HLA.out; omega)] at this
                  obtain ⟨ee1, u1, hv, -, -⟩ := HFU.out.slice
                  obtain ⟨k1', hk⟩ : ∃ k', (addL A.on B.on).length = k' := ⟨_, rfl⟩
                  rw [hk] at hv
                  subst hv
                  clear hk
                  have hsE := own_sl2 HFU.out
                  have HE1 := Lib.hid hsE
                  have HNE1 : Hid (∀ d, ee1 = some d → d.block ≠ g) := fun d hd => by subst hd; have := (World.ownsRow.lt HFU.out d.block rfl).1; have := hg1; omega
                  have HG2 := HGr
                  have HY2 := HYr
                  have HZ2 := HZr
                  have HA2 := Lib.hid (fl_grown HA1.out HR.out HNA.out)
                  have HB2' := Lib.hid (fl_grown HB1'.out HR.out HNB.out)
                  have HM2' := Lib.hid (fl_grown HM1'.out HR.out HNM.out)
                  have HF2' := Lib.hid (box_grown HF1'.out HR.out hgf)
                  have HW2 := Lib.hid (below_g HW1.out HR.out hgw)
                  have HE0 := Lib.hid (sl_grown HE0.out HR.out HNE0.out)
                  have hg2 : g < wr.heap.size := box_lt HGr.out
                  clear hsE HFU HO HR HGr HYr HZr
                  obtain ⟨V2, hVV⟩ : ∃ V, V = wr := ⟨_, rfl⟩
                  subst hVV
                  go_wp2_with fail
                  go_loopw [230] (fun i wr => ∃ (v : Value) (j : Nat), i = .int .i64 j ∧ j ≤ n3 ∧ Hid (wr.heap[g]? = some (.cells #[.slice ee0 k0' u0, .slice ee1 k1' u1, v, .int .i64 X] 78 (0, 0))) ∧ Hid (V.Own 3 icod V2.heap.size wr v ((addL A.off B.off).take j)) ∧ Hid (V2.grownBy wr (some g))) (fun i _ => n3 - (intOf i).toNat)
                  case atStart => exact ⟨.slice none 0 0, 0, by go_num, by omega, HG2.out, Own.nil, World.grownBy.refl' _ _⟩
                  case round =>
                    obtain ⟨v, j, rfl, hj, HGr, HO, HR⟩ := hrel
                    clear y0 y1 y2 y3 z0 z1 z2 z3 hyl hzl
                    have HYr := Lib.hid (box_grown HY2.out HR.out hgy)
                    have HZr := Lib.hid (box_grown HZ2.out HR.out hgz)
                    obtain ⟨y0, y1, y2, y3⟩ := box4_cells HYr.out
                    obtain ⟨z0, z1, z2, z3⟩ := box4_cells HZr.out
                    have hyl := box_lt HYr.out
                    have hzl := box_lt HZr.out
                    by_cases hlt : j < n3
                    · as_aux_lemma =>
                        obtain ⟨bx, ox, x, e1, hbx, hx, p0⟩ := int_at (sl_grown HA2.out.f HR.out (fun d hd => HNA.out d (.inr (.inr hd)))) hlt
                        obtain ⟨by', oy, y, e2, hby, hy, p1⟩ := int_at (sl_grown HB2'.out.f HR.out (fun d hd => HNB.out d (.inr (.inr hd)))) hlt
                        have e1 : a3 = _ := e1
                        have e2 : b3 = _ := e2
                        subst e1
                        subst e2
                        have hbxV : bx < V2.heap.size := (HA2.out.f.hat _ rfl).2.1
                        have hbyV : by' < V2.heap.size := (HB2'.out.f.hat _ rfl).2.1
                        have hgx : g ≠ bx := fun e => HNA.out _ (.inr (.inr rfl)) e.symm
                        have hgb : g ≠ by' := fun e => HNB.out _ (.inr (.inr rfl)) e.symm
                        have hgy' : g ≠ w.heap.size + 1 := fun e => hgy e.symm
                        have hgz' : g ≠ w.heap.size + 1 + 1 := fun e => hgz e.symm
                        have hyV := box_lt HY2.out
                        have hzV := box_lt HZ2.out
                        have hxr := (sumB_parts HS3.out).2.1 j x hx
                        have hyr := (sumB_parts HS3.out).2.2 j y hy
                        have hadd : IntKind.i64.wrap (x + y) = x + y := by rw [IntKind.wrap_i64]; omega
                        have hji : (j : Int) < (n3 : Int) := by omega
                        have HSN := Lib.hid (addL_snoc hx hy)
                        have HM1 : Hid (((addL A.off B.off).take j).length + 1 ≤ maxLen) := by show _ ≤ _; rw [List.length_take]; unfold maxLen; omega
                        have HM2 : Hid ((((addL A.off B.off).take j).length + 1) * 8 ≤ 140737488355328) := by show _ ≤ _; rw [List.length_take]; omega
                        clear hx hy hxr hyr
                        obtain ⟨v0, v1, v2, v3⟩ := box4_cells HGr.out
                        have vf := (box_cell HGr.out 2).2
                        have hvl := box_lt HGr.out
                        have hws := HR.out.size
                        go_upto_region 40 with fail
                        refine wp_region_held_drew (S := (fun w' => w'.cell? ⟨w.heap.size + 1, 2, none⟩ = some (.slice (some ⟨bx, ox, none⟩) n3 q3) ∧ w'.cell? ⟨w.heap.size + 1 + 1, 2, none⟩ = some (.slice (some ⟨by', oy, none⟩) n3 r3) ∧ w'.cell? ⟨bx, ox + j, none⟩ = some (.int .i64 x) ∧ w'.cell? ⟨by', oy + j, none⟩ = some (.int .i64 y))) (by kernel_rfl) ?_ (fun hHeld => ?_)
                        · (first | go_keep | (exact ⟨y2, z2, p0, p1⟩))
                        refine wpAnyH_take (i := 0) (v := ?_) rfl (by kernel_rfl) (by kernel_rfl) (by kernel_rfl) (fun _ _ _ h => h) (Or.inl ⟨by rfl, ?_⟩) (by assumption) ?_
                        rotate_left
                        · (intro w hSw; (try dsimp only at hSw); go_simp); try (with_reducible rfl)
                        try simp only [Act.put, List.getElem_toArray, List.getElem_cons_zero, List.getElem_cons_succ, List.setIfInBounds_toArray, List.set_cons_zero, List.set_cons_succ]
                        refine wpAnyH_take (i := 2) (v := ?_) rfl (by kernel_rfl) (by kernel_rfl) (by kernel_rfl) (fun _ _ _ h => h) (Or.inl ⟨by rfl, ?_⟩) (by assumption) ?_
                        rotate_left
                        · (intro w hSw; (try dsimp only at hSw); go_simp); try (with_reducible rfl)
                        try simp only [Act.put, List.getElem_toArray, List.getElem_cons_zero, List.getElem_cons_succ, List.setIfInBounds_toArray, List.set_cons_zero, List.set_cons_succ]
                        refine wpAnyH_take (i := 3) (v := ?_) rfl (by kernel_rfl) (by kernel_rfl) (by kernel_rfl) (fun _ _ _ h => h) (Or.inl ⟨by rfl, ?_⟩) (by assumption) ?_
                        rotate_left
                        · (intro w hSw; (try dsimp only at hSw); go_simp); try (with_reducible rfl)
                        try simp only [Act.put, List.getElem_toArray, List.getElem_cons_zero, List.getElem_cons_succ, List.setIfInBounds_toArray, List.set_cons_zero, List.set_cons_succ]
                        refine wpAnyH_take (i := 4) (v := ?_) rfl (by kernel_rfl) (by kernel_rfl) (by kernel_rfl) (fun _ _ _ h => h) (Or.inl ⟨by rfl, ?_⟩) (by assumption) ?_
                        rotate_left
                        · (intro w hSw; (try dsimp only at hSw); go_simp); try (with_reducible rfl)
                        try simp only [Act.put, List.getElem_toArray, List.getElem_cons_zero, List.getElem_cons_succ, List.setIfInBounds_toArray, List.set_cons_zero, List.set_cons_succ]
                        refine wpAnyH_take (i := 5) (v := ?_) rfl (by kernel_rfl) (by kernel_rfl) (by kernel_rfl) (fun _ _ _ h => h) (Or.inl ⟨by rfl, ?_⟩) (by assumption) ?_
                        rotate_left
                        · (intro w hSw; (try dsimp only at hSw); go_simp); try (with_reducible rfl)
                        try simp only [Act.put, List.getElem_toArray, List.getElem_cons_zero, List.getElem_cons_succ, List.setIfInBounds_toArray, List.set_cons_zero, List.set_cons_succ]
                        refine wpAnyH_take (i := 6) (v := ?_) rfl (by kernel_rfl) (by kernel_rfl) (by kernel_rfl) (fun _ _ _ h => h) (Or.inl ⟨by rfl, ?_⟩) (by assumption) ?_
                        rotate_left
                        · (intro w hSw; (try dsimp only at hSw); go_simp); try (with_reducible rfl)
                        try simp only [Act.put, List.getElem_toArray, List.getElem_cons_zero, List.getElem_cons_succ, List.setIfInBounds_toArray, List.set_cons_zero, List.set_cons_succ]
                        refine wpAnyH_take (i := 7) (v := ?_) rfl (by kernel_rfl) (by kernel_rfl) (by kernel_rfl) (fun _ _ _ h => h) (Or.inl ⟨by rfl, ?_⟩) (by assumption) ?_
                        rotate_left
                        · (intro w hSw; (try dsimp only at hSw); go_simp); try (with_reducible rfl)
                        try simp only [Act.put, List.getElem_toArray, List.getElem_cons_zero, List.getElem_cons_succ, List.setIfInBounds_toArray, List.set_cons_zero, List.set_cons_succ]
                        refine wpAnyH_take (i := 8) (v := ?_) rfl (by kernel_rfl) (by kernel_rfl) (by kernel_rfl) (fun _ _ _ h => h) (Or.inl ⟨by rfl, ?_⟩) (by assumption) ?_
                        rotate_left
                        · (intro w hSw; (try dsimp only at hSw); go_simp); try (with_reducible rfl)
                        try simp only [Act.put, List.getElem_toArray, List.getElem_cons_zero, List.getElem_cons_succ, List.setIfInBounds_toArray, List.set_cons_zero, List.set_cons_succ]
                        refine wpAnyH_take (i := 9) (v := ?_) rfl (by kernel_rfl) (by kernel_rfl) (by kernel_rfl) (fun _ _ _ h => h) (Or.inl ⟨by rfl, ?_⟩) (by assumption) ?_
                        rotate_left
                        · (intro w hSw; (try dsimp only at hSw); go_simp); try (with_reducible rfl)
                        try simp only [Act.put, List.getElem_toArray, List.getElem_cons_zero, List.getElem_cons_succ, List.setIfInBounds_toArray, List.set_cons_zero, List.set_cons_succ]
                        refine wpAnyH_take (i := 10) (v := ?_) rfl (by kernel_rfl) (by kernel_rfl) (by kernel_rfl) (fun _ _ _ h => h) (Or.inl ⟨by rfl, ?_⟩) (by assumption) ?_
                        rotate_left
                        · (intro w hSw; (try dsimp only at hSw); go_simp); try (with_reducible rfl)
                        try simp only [Act.put, List.getElem_toArray, List.getElem_cons_zero, List.getElem_cons_succ, List.setIfInBounds_toArray, List.set_cons_zero, List.set_cons_succ]
                        refine wpAnyH_take (i := 11) (v := ?_) rfl (by kernel_rfl) (by kernel_rfl) (by kernel_rfl) (fun _ _ _ h => h) (Or.inl ⟨by rfl, ?_⟩) (by assumption) ?_
                        rotate_left
                        · (intro w hSw; (try dsimp only at hSw); go_simp); try (with_reducible rfl)
                        try simp only [Act.put, List.getElem_toArray, List.getElem_cons_zero, List.getElem_cons_succ, List.setIfInBounds_toArray, List.set_cons_zero, List.set_cons_succ]
                        refine wpAnyH_take (i := 12) (v := ?_) rfl (by kernel_rfl) (by kernel_rfl) (by kernel_rfl) (fun _ _ _ h => h) (Or.inl ⟨by rfl, ?_⟩) (by assumption) ?_
                        rotate_left
                        · (intro w hSw; (try dsimp only at hSw); go_simp); try (with_reducible rfl)
                        try simp only [Act.put, List.getElem_toArray, List.getElem_cons_zero, List.getElem_cons_succ, List.setIfInBounds_toArray, List.set_cons_zero, List.set_cons_succ]
                        refine wpAnyH_ready (rs := [1, 13]) (by kernel_rfl) (by simp) ?_
                        refine AllReadyH.cons rfl (fun K hK => ?ka2) (AllReadyH.cons rfl (fun K hK => ?kb2) AllReadyH.nil)
                        case' ka2 =>
                          go_simp
                          refine hK.out _ _ ?_ (fun hHeld => ?_)
                          · (first | go_keep | (exact ⟨k0, k1, k2, k3⟩) | (exact ⟨(World.cell?_setCell_far _ _ _ _ hgy').trans k0, (World.cell?_setCell_far _ _ _ _ hgz').trans k1, (World.cell?_setCell_far _ _ _ _ hgx).trans k2, (World.cell?_setCell_far _ _ _ _ hgb).trans k3⟩))
                          clear hK K
                          try simp only [Act.put, List.getElem_toArray, List.getElem_cons_zero, List.getElem_cons_succ, List.setIfInBounds_toArray, List.set_cons_zero, List.set_cons_succ]
                          refine wpAnyH_ready (rs := [13]) (by kernel_rfl) (by simp) ?_
                          refine AllReadyH.cons rfl (fun K hK => ?_) AllReadyH.nil
                          go_simp
                          refine hK.out _ _ ?_ (fun hHeld => ?_)
                          · (first | go_keep | (exact ⟨k0, k1, k2, k3⟩) | (exact ⟨(World.cell?_setCell_far _ _ _ _ hgy').trans k0, (World.cell?_setCell_far _ _ _ _ hgz').trans k1, (World.cell?_setCell_far _ _ _ _ hgx).trans k2, (World.cell?_setCell_far _ _ _ _ hgb).trans k3⟩))
                          clear hK K
                          try simp only [Act.put, List.getElem_toArray, List.getElem_cons_zero, List.getElem_cons_succ, List.setIfInBounds_toArray, List.set_cons_zero, List.set_cons_succ]
                          refine wpAnyH_ready (rs := [14]) (by kernel_rfl) (by simp) ?_
                          refine AllReadyH.cons rfl (fun K hK => ?_) AllReadyH.nil
                          (refine step_app_at eltI (by rfl) (.tmp 234) (.tmp 246) (by rfl) v ((addL A.off B.off).take j) (by simp [Act.eval]) (HO.out.below (Below.drew ((Below.refl _ _).alloc (Nat.le_refl _) _))) ⟨wr.heap.size, 0, none⟩ 1 1 [x + y] (by simp [Act.eval]) ((sl_new (c := icod) wr #[.int .i64 (x + y)] 3 [x + y] 1 rfl (by unfold maxLen; omega) rfl).below (Below.drew (Below.refl _ _))) HM1.out HM2.out (by simp; omega) ?_; intro v1' w11 hown1 hg1 hat1; obtain ⟨ea, eu, hev, -, -⟩ := hown1.slice; obtain ⟨ln, hln⟩ : ∃ ln, ((addL A.off B.off).take j ++ [x + y]).length = ln := ⟨_, rfl⟩; rw [hln] at hev; subst hev; clear hln; have HO1 := Lib.hid hown1; have HG1 := Lib.hid hg1; have HOB : Hid (∀ k, k < V2.heap.size → some k ≠ v.ownBlock) := (fun k hk e => by have := (World.ownsRow.lt HO.out k e.symm).1; omega); have HX1 : Hid (w11.heap[g]? = some (.cells #[.slice ee0 k0' u0, .slice ee1 k1' u1, v, .int .i64 X] 78 (0, 0))) := (hg1.block g (by simp; omega) (HOB.out g (by omega))).trans (box_alloc HGr.out); have HYw : Hid (w11.heap[w.heap.size + 1]? = some (.cells #[.slice a1 n1 q1, .slice a2 n2 q2, .slice (some ⟨bx, ox, none⟩) n3 q3, .int .i64 A.lost] 78 (0, 0))) := (hg1.block _ (by simp; omega) (HOB.out _ hyV)).trans (box_alloc HYr.out); have HZw : Hid (w11.heap[w.heap.size + 1 + 1]? = some (.cells #[.slice b1 n1 r1, .slice b2 n2 r2, .slice (some ⟨by', oy, none⟩) n3 r3, .int .i64 B.lost] 78 (0, 0))) := (hg1.block _ (by simp; omega) (HOB.out _ hzV)).trans (box_alloc HZr.out); have k0 := (box_cell HYw.out 2).1; have k1 := (box_cell HZw.out 2).1; have k2 : w11.cell? ⟨bx, ox + j, none⟩ = some (.int .i64 x) := (World.cell?_of_block (hg1.block bx (by simp; omega) (HOB.out bx hbxV))).trans (cell_alloc p0 _); have k3 : w11.cell? ⟨by', oy + j, none⟩ = some (.int .i64 y) := (World.cell?_of_block (hg1.block by' (by simp; omega) (HOB.out by' hbyV))).trans (cell_alloc p1 _); obtain ⟨q0, q1', q2', q3'⟩ := box4_cells HX1.out; have qf := (box_cell HX1.out 2).2; have hql := box_lt HX1.out; clear hown1 hg1 hat1)
                          refine hK.out _ _ ?_ (fun hHeld => ?_)
                          · (first | go_keep | (exact ⟨k0, k1, k2, k3⟩) | (exact ⟨(World.cell?_setCell_far _ _ _ _ hgy').trans k0, (World.cell?_setCell_far _ _ _ _ hgz').trans k1, (World.cell?_setCell_far _ _ _ _ hgx).trans k2, (World.cell?_setCell_far _ _ _ _ hgb).trans k3⟩))
                          clear hK K
                          try simp only [Act.put, List.getElem_toArray, List.getElem_cons_zero, List.getElem_cons_succ, List.setIfInBounds_toArray, List.set_cons_zero, List.set_cons_succ]
                          refine wpAnyH_take (i := 15) (v := ?_) rfl (by kernel_rfl) (by kernel_rfl) (by kernel_rfl) (fun _ _ _ h => h) (Or.inl ⟨by rfl, ?_⟩) (by assumption) ?_
                          rotate_left
                          · (intro w hSw; (try dsimp only at hSw); go_simp); try (with_reducible rfl)
                          try simp only [Act.put, List.getElem_toArray, List.getElem_cons_zero, List.getElem_cons_succ, List.setIfInBounds_toArray, List.set_cons_zero, List.set_cons_succ]
                          refine wpAnyH_ready (rs := [16]) (by kernel_rfl) (by simp) ?_
                          refine AllReadyH.cons rfl (fun K hK => ?_) AllReadyH.nil
                          go_simp
                          refine hK.out _ _ ?_ (fun hHeld => ?_)
                          · (first | go_keep | (exact ⟨k0, k1, k2, k3⟩) | (exact ⟨(World.cell?_setCell_far _ _ _ _ hgy').trans k0, (World.cell?_setCell_far _ _ _ _ hgz').trans k1, (World.cell?_setCell_far _ _ _ _ hgx).trans k2, (World.cell?_setCell_far _ _ _ _ hgb).trans k3⟩))
                          clear hK K
                          try simp only [Act.put, List.getElem_toArray, List.getElem_cons_zero, List.getElem_cons_succ, List.setIfInBounds_toArray, List.set_cons_zero, List.set_cons_succ]
                          refine wpAnyH_done (by kernel_rfl) ?_ _
                        case' kb2 =>
                          go_simp
                          refine hK.out _ _ ?_ (fun hHeld => ?_)
                          · (first | go_keep | (exact ⟨k0, k1, k2, k3⟩) | (exact ⟨(World.cell?_setCell_far _ _ _ _ hgy').trans k0, (World.cell?_setCell_far _ _ _ _ hgz').trans k1, (World.cell?_setCell_far _ _ _ _ hgx).trans k2, (World.cell?_setCell_far _ _ _ _ hgb).trans k3⟩))
                          clear hK K
                          try simp only [Act.put, List.getElem_toArray, List.getElem_cons_zero, List.getElem_cons_succ, List.setIfInBounds_toArray, List.set_cons_zero, List.set_cons_succ]
                          refine wpAnyH_ready (rs := [1]) (by kernel_rfl) (by simp) ?_
                          refine AllReadyH.cons rfl (fun K hK => ?_) AllReadyH.nil
                          go_simp
                          refine hK.out _ _ ?_ (fun hHeld => ?_)
                          · (first | go_keep | (exact ⟨k0, k1, k2, k3⟩) | (exact ⟨(World.cell?_setCell_far _ _ _ _ hgy').trans k0, (World.cell?_setCell_far _ _ _ _ hgz').trans k1, (World.cell?_setCell_far _ _ _ _ hgx).trans k2, (World.cell?_setCell_far _ _ _ _ hgb).trans k3⟩))
                          clear hK K
                          try simp only [Act.put, List.getElem_toArray, List.getElem_cons_zero, List.getElem_cons_succ, List.setIfInBounds_toArray, List.set_cons_zero, List.set_cons_succ]
                          refine wpAnyH_ready (rs := [14]) (by kernel_rfl) (by simp) ?_
                          refine AllReadyH.cons rfl (fun K hK => ?_) AllReadyH.nil
                          (refine step_app_at eltI (by rfl) (.tmp 234) (.tmp 246) (by rfl) v ((addL A.off B.off).take j) (by simp [Act.eval]) (HO.out.below (Below.drew ((Below.refl _ _).alloc (Nat.le_refl _) _))) ⟨wr.heap.size, 0, none⟩ 1 1 [x + y] (by simp [Act.eval]) ((sl_new (c := icod) wr #[.int .i64 (x + y)] 3 [x + y] 1 rfl (by unfold maxLen; omega) rfl).below (Below.drew (Below.refl _ _))) HM1.out HM2.out (by simp; omega) ?_; intro v1' w11 hown1 hg1 hat1; obtain ⟨ea, eu, hev, -, -⟩ := hown1.slice; obtain ⟨ln, hln⟩ : ∃ ln, ((addL A.off B.off).take j ++ [x + y]).length = ln := ⟨_, rfl⟩; rw [hln] at hev; subst hev; clear hln; have HO1 := Lib.hid hown1; have HG1 := Lib.hid hg1; have HOB : Hid (∀ k, k < V2.heap.size → some k ≠ v.ownBlock) := (fun k hk e => by have := (World.ownsRow.lt HO.out k e.symm).1; omega); have HX1 : Hid (w11.heap[g]? = some (.cells #[.slice ee0 k0' u0, .slice ee1 k1' u1, v, .int .i64 X] 78 (0, 0))) := (hg1.block g (by simp; omega) (HOB.out g (by omega))).trans (box_alloc HGr.out); have HYw : Hid (w11.heap[w.heap.size + 1]? = some (.cells #[.slice a1 n1 q1, .slice a2 n2 q2, .slice (some ⟨bx, ox, none⟩) n3 q3, .int .i64 A.lost] 78 (0, 0))) := (hg1.block _ (by simp; omega) (HOB.out _ hyV)).trans (box_alloc HYr.out); have HZw : Hid (w11.heap[w.heap.size + 1 + 1]? = some (.cells #[.slice b1 n1 r1, .slice b2 n2 r2, .slice (some ⟨by', oy, none⟩) n3 r3, .int .i64 B.lost] 78 (0, 0))) := (hg1.block _ (by simp; omega) (HOB.out _ hzV)).trans (box_alloc HZr.out); have k0 := (box_cell HYw.out 2).1; have k1 := (box_cell HZw.out 2).1; have k2 : w11.cell? ⟨bx, ox + j, none⟩ = some (.int .i64 x) := (World.cell?_of_block (hg1.block bx (by simp; omega) (HOB.out bx hbxV))).trans (cell_alloc p0 _); have k3 : w11.cell? ⟨by', oy + j, none⟩ = some (.int .i64 y) := (World.cell?_of_block (hg1.block by' (by simp; omega) (HOB.out by' hbyV))).trans (cell_alloc p1 _); obtain ⟨q0, q1', q2', q3'⟩ := box4_cells HX1.out; have qf := (box_cell HX1.out 2).2; have hql := box_lt HX1.out; clear hown1 hg1 hat1)
                          refine hK.out _ _ ?_ (fun hHeld => ?_)
                          · (first | go_keep | (exact ⟨k0, k1, k2, k3⟩) | (exact ⟨(World.cell?_setCell_far _ _ _ _ hgy').trans k0, (World.cell?_setCell_far _ _ _ _ hgz').trans k1, (World.cell?_setCell_far _ _ _ _ hgx).trans k2, (World.cell?_setCell_far _ _ _ _ hgb).trans k3⟩))
                          clear hK K
                          try simp only [Act.put, List.getElem_toArray, List.getElem_cons_zero, List.getElem_cons_succ, List.setIfInBounds_toArray, List.set_cons_zero, List.set_cons_succ]
                          refine wpAnyH_take (i := 15) (v := ?_) rfl (by kernel_rfl) (by kernel_rfl) (by kernel_rfl) (fun _ _ _ h => h) (Or.inl ⟨by rfl, ?_⟩) (by assumption) ?_
                          rotate_left
                          · (intro w hSw; (try dsimp only at hSw); go_simp); try (with_reducible rfl)
                          try simp only [Act.put, List.getElem_toArray, List.getElem_cons_zero, List.getElem_cons_succ, List.setIfInBounds_toArray, List.set_cons_zero, List.set_cons_succ]
                          refine wpAnyH_ready (rs := [16]) (by kernel_rfl) (by simp) ?_
                          refine AllReadyH.cons rfl (fun K hK => ?_) AllReadyH.nil
                          go_simp
                          refine hK.out _ _ ?_ (fun hHeld => ?_)
                          · (first | go_keep | (exact ⟨k0, k1, k2, k3⟩) | (exact ⟨(World.cell?_setCell_far _ _ _ _ hgy').trans k0, (World.cell?_setCell_far _ _ _ _ hgz').trans k1, (World.cell?_setCell_far _ _ _ _ hgx).trans k2, (World.cell?_setCell_far _ _ _ _ hgb).trans k3⟩))
                          clear hK K
                          try simp only [Act.put, List.getElem_toArray, List.getElem_cons_zero, List.getElem_cons_succ, List.setIfInBounds_toArray, List.set_cons_zero, List.set_cons_succ]
                          refine wpAnyH_done (by kernel_rfl) ?_ _
                        all_goals
                          have HO2 : Hid (V.Own 3 icod V2.heap.size (w11.setCell ⟨g, 2, none⟩ (.slice ea ln eu)) (.slice ea ln eu) ((addL A.off B.off).take (j + 1))) := by show V.Own _ _ _ _ _ _; rw [HSN.out]; exact own_kept_any HO1.out (by omega)
                          have HR2 : Hid (V2.grownBy (w11.setCell ⟨g, 2, none⟩ (.slice ea ln eu)) (some g)) := grown_g2 (grown_g HR.out (Below.drew ((Below.refl _ _).alloc (Nat.le_refl _) (.cells #[.int .i64 (x + y)] 3))) HG1.out (fun o e => (World.ownsRow.lt HO.out o e).1)) _ _
                          have HG2 : Hid ((w11.setCell ⟨g, 2, none⟩ (.slice ea ln eu)).heap[g]? = some (.cells #[.slice ee0 k0' u0, .slice ee1 k1' u1, .slice ea ln eu, .int .i64 X] 78 (0, 0))) := (by show _ = _; rw [heap_setCell_same w11 g 2 _ _ (.slice ea ln eu) HX1.out]; rfl)
                          go_wp2_with fail
                          go_roundw
                          case rel => exact ⟨.slice ea ln eu, j + 1, by go_num, by omega, HG2.out, HO2.out, HR2.out⟩
                          case measure => simp [intOf]; omega
                    · have hjn : n3 = j := by omega
                      subst hjn
                      have HFU : Hid (V.Own 3 icod V2.heap.size wr v (addL A.off B.off)) := by
                        have := HO.out
                        rwa [List.take_of_length_le (by rw [addL_len (sumB_parts HS3.out).1]; have := HLA.out; omega)] at this
                      obtain ⟨ee2, u2, hv, -, -⟩ := HFU.out.slice
                      obtain ⟨k2', hk⟩ : ∃ k', (addL A.off B.off).length = k' := ⟨_, rfl⟩
                      rw [hk] at hv
                      subst hv
                      clear hk
                      have hsE := own_sl2 HFU.out
                      have HE2 := Lib.hid hsE
                      have HNE2 : Hid (∀ d, ee2 = some d → d.block ≠ g) := fun d hd => by subst hd; have := (World.ownsRow.lt HFU.out d.block rfl).1; have := hg2; omega
                      have HG3 := HGr
                      have HY3 := HYr
                      have HZ3 := HZr
                      have HA3 := Lib.hid (fl_grown HA2.out HR.out HNA.out)
                      have HB3' := Lib.hid (fl_grown HB2'.out HR.out HNB.out)
                      have HM3' := Lib.hid (fl_grown HM2'.out HR.out HNM.out)
                      have HF3' := Lib.hid (box_grown HF2'.out HR.out hgf)
                      have HW3 := Lib.hid (below_g HW2.out HR.out hgw)
                      have HE0 := Lib.hid (sl_grown HE0.out HR.out HNE0.out)
                      have HE1 := Lib.hid (sl_grown HE1.out HR.out HNE1.out)
                      have hg3 : g < wr.heap.size := box_lt HGr.out
                      clear hsE HFU HO HR HGr HYr HZr
                      obtain ⟨V3, hVV⟩ : ∃ V, V = wr := ⟨_, rfl⟩
                      subst hVV
                      obtain ⟨v0, v1, v2, v3⟩ := box4_cells HG3.out
                      obtain ⟨x0, x1, x2, x3⟩ := box4_cells HF3'.out
                      have hvl := box_lt HG3.out
                      have hxl := box_lt HF3'.out
                      clear y0 y1 y2 y3 z0 z1 z2 z3
                      have HWT : Hid (FlIn V3 ⟨addL A.links B.links, addL A.on B.on, addL A.off B.off, X⟩ ⟨⟨ee0, k0', u0⟩, ⟨ee1, k1', u1⟩, ⟨ee2, k2', u2⟩⟩) := ⟨HE0.out, HE1.out, HE2.out⟩
                      go_wp2_with (go_at_call 52; go_loud (refine (fsame_any ⟨addL A.links B.links, addL A.on B.on, addL A.off B.off, X⟩ ⟨⟨f1, j1, t1⟩, ⟨f2, j2, t2⟩, ⟨f3, j3, t3⟩⟩ ⟨⟨ee0, k0', u0⟩, ⟨ee1, k1', u1⟩, ⟨ee2, k2', u2⟩⟩ V3 HM3'.out HWT.out).mono ?_); rintro e w12 ⟨rfl, hb⟩; have HB12 := Lib.hid (HW3.out.trans (hb.mono HW3.out.size)); clear hb)
                      go_ret
                      exact ⟨rfl, HB12.out⟩
end Go.Proofs.Yteihffnmgacfpaa.Ne

namespace Go.Proofs.Yteihffnmgacfpaa.lawFlowMerges
open Go.ChangeShapes Go.WideShapes Go.ChangeAt Go.RowKit Go.V Go.Proofs.Yteihffnmgacfpaa.Ne

theorem own : ownKnob Try.prog.godebug = none := by kernel_rfl
theorem laidOut : laidOutB Try.prog = true := by kernel_rfl

set_option maxRecDepth 100000 in
theorem lifted (os : Os) (started : os.Started) (H : Type) (enc : TypeId × Value → H) :
    ReturnsInHanded {} Try.checked os 14 .any (Rows.flowMergesSpec.pre6 enc Try.prog Try.f14 Rows.flowMergesRow.domain false) (Rows.flowMergesSpec.post enc Try.prog Try.f14 false true false false) := by
  refine returnsInHanded_of_change (C := Try.checked) own started (by kernel_rfl) Try.func14
    (ChangeSpec.witness6 (enc := enc) (C := Try.checked) false ⟨#[], #[.agg #[.int .i64 0, .slice none 0 0, .slice none 0 0], .agg #[.slice none 0 0, .slice none 0 0, .slice none 0 0, .int .i64 0], .agg #[.slice none 0 0, .slice none 0 0, .slice none 0 0, .int .i64 0]], []⟩ 8 (by kernel_rfl) (by kernel_rfl) (by kernel_rfl) (by kernel_rfl)) ?_
  intro W base args ds gs before hval0 hW hcnd _
  have hval : ∀ (j : Nat) t v, Try.f14.params[j]? = some t → args[j]? = some v → Value.okWide Try.prog W .any base t v := hval0
  have hW' := hW
  obtain ⟨p, q, hA0, hV, rfl, hfz, hnd⟩ := hW
  have hA : DataW.TrodAll enc Try.prog W 0 (fun _ => true) true Try.f14.params.toList args.toList ds p := hA0
  rw [Try.params14] at hA hval
  obtain ⟨v0, vs0, d0, ds0, p0, q0, hargs, rfl, rfl, h0, r0⟩ := trodAll_cons hA
  obtain ⟨v1, vs1, d1, ds1, p1, q1, rfl, rfl, rfl, h1, r1⟩ := trodAll_cons r0
  obtain ⟨v2, vs2, d2, ds2, p2, q2, rfl, rfl, rfl, h2, r2⟩ := trodAll_cons r1
  obtain ⟨rfl, rfl, rfl⟩ := trodAll_nil r2
  obtain rfl : args = #[v0, v1, v2] := by cases args; simp_all
  obtain ⟨rfl, rfl⟩ := trodVars_none hV
  have k0 := h0
  have lt0 : ∀ x ∈ p0, x.block < W.heap.size := by obtain ⟨m, hm⟩ := k0; exact DataW.trod_lt m _ _ _ hm
  have k1 := h1
  have lt1 : ∀ x ∈ p1, x.block < W.heap.size := by obtain ⟨m, hm⟩ := k1; exact DataW.trod_lt m _ _ _ hm
  have k2 := h2
  have lt2 : ∀ x ∈ p2, x.block < W.heap.size := by obtain ⟨m, hm⟩ := k2; exact DataW.trod_lt m _ _ _ hm
  obtain ⟨nt, hs, hl, rfl, hnt, -, -, -⟩ := open_net (hval 0 25 v0 rfl rfl) h0
  obtain ⟨F1, fa1b, fn1b, fq1b, fa2b, fn2b, fq2b, fa3b, fn3b, fq3b, rfl, hfl1⟩ := open_flows (hval 1 78 v1 rfl rfl) h1
  obtain ⟨F2, fa1c, fn1c, fq1c, fa2c, fn2c, fq2c, fa3c, fn3c, fq3c, rfl, hfl2⟩ := open_flows (hval 2 78 v2 rfl rfl) h2
  clear hA0 hval0
  refine (fmerges_any nt hs hl F1 fa1b fn1b fq1b fa2b fn2b fq2b fa3b fn3b fq3b F2 fa1c fn1c fq1c fa2c fn2c fq2c fa3c fn3c fq3c W hnt hfl1 hfl2).mono fun e W' ⟨he, bel⟩ => ?_
  subst he
  exact ⟨_, rfl, _, _, _, [], _, [], hW', trodAll_mk1 (shut_bool Try.underlying4 _), (trodAll_cons_mk (Below.trod laidOut (by kernel_rfl) (of_decide_eq_true (by kernel_rfl)) k0 bel lt0) (trodAll_cons_mk (Below.trod laidOut (by kernel_rfl) (of_decide_eq_true (by kernel_rfl)) k1 bel lt1) (trodAll_cons_mk (Below.trod laidOut (by kernel_rfl) (of_decide_eq_true (by kernel_rfl)) k2 bel lt2) trodAll_mk0))), rfl, bel.frame _, fun h => by cases h⟩

theorem over : Rows.flowMergesRow.holds Try.pinned (OpenSpec.ofChange Rows.flowMergesSpec) :=
  OpenClaim.holds_of_wide 14 Try.f14 rfl rfl rfl rfl rfl rfl rfl ⟨rfl, rfl, rfl, rfl, rfl⟩ rfl rfl rfl rfl rfl (by kernel_rfl) Try.func14 (by kernel_rfl)
    (of_decide_eq_true (by kernel_rfl)) (by unfold Func.isWrapper; first | (rw [if_pos (by decide +kernel)]; kernel_rfl) | (rw [if_neg (by decide +kernel)]; exact ⟨rfl, rfl⟩))
    (fun os started H enc _ => lifted os started H enc)

theorem proved : Rows.FlowMergesSaid := over
#print axioms proved
end Go.Proofs.Yteihffnmgacfpaa.lawFlowMerges
