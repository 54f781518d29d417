/- Networks: flows, added: flow.sum and flow.Merge, walked. -/
import Derived.Test.YteihffnmgacfpaaNwE
import Derived.Test.YteihffnmgacfpaaNeO
import Derived.Test.YteihffnmgacfpaaBase6
namespace Go.Proofs.Yteihffnmgacfpaa.Ne
open Go.RowKit Go.V Go.Proofs Go.Sort

/-- A number that may be added. -/
def okT (x : Int) : Bool := decide (0 ≤ x ∧ x ≤ 2305843009213693952)
def sumB (xs ys : List Int) : Bool := decide (xs.length = ys.length) && xs.all okT && ys.all okT
def addL (xs ys : List Int) : List Int := List.zipWith (· + ·) xs ys
def sumL (xs ys : List Int) : List Int := if sumB xs ys = true then addL xs ys else []
theorem sumB_len {xs ys : List Int} (h : xs.length ≠ ys.length) : sumB xs ys = false := by unfold sumB; rw [decide_eq_false h]; rfl
theorem sumB_all {xs ys : List Int} (h : xs.length = ys.length) (h1 : xs.all okT = true) (h2 : ys.all okT = true) : sumB xs ys = true := by unfold sumB; rw [decide_eq_true h, h1, h2]; rfl
theorem all_not {xs : List Int} {j : Nat} {x : Int} (h : xs[j]? = some x) (hx : okT x = false) : xs.all okT = false := by
  rw [Bool.eq_false_iff]
  intro hh
  have := List.all_eq_true.1 hh x (List.mem_of_getElem? h)
  rw [hx] at this; cases this
theorem sumB_no1 {xs ys : List Int} {j : Nat} {x : Int} (h : xs[j]? = some x) (hx : okT x = false) : sumB xs ys = false := by unfold sumB; rw [all_not h hx]; simp
theorem sumB_no2 {xs ys : List Int} {j : Nat} {y : Int} (h : ys[j]? = some y) (hy : okT y = false) : sumB xs ys = false := by unfold sumB; rw [all_not h hy]; simp
theorem all_snoc {xs : List Int} {j : Nat} {x : Int} (h : xs[j]? = some x) (hx : okT x = true) (hh : (xs.take j).all okT = true) : (xs.take (j + 1)).all okT = true := by
  rw [take_at h, List.all_append, hh]; simp [hx]
theorem addL_snoc {xs ys : List Int} {j : Nat} {x y : Int} (h : xs[j]? = some x) (h' : ys[j]? = some y) : (addL xs ys).take (j + 1) = (addL xs ys).take j ++ [x + y] := by
  refine take_at ?_
  unfold addL
  rw [List.getElem?_zipWith, h, h']
theorem addL_len {xs ys : List Int} (h : xs.length = ys.length) : (addL xs ys).length = xs.length := by unfold addL; rw [List.length_zipWith]; omega

set_option maxHeartbeats 4000000 in
set_option maxRecDepth 100000 in
theorem fsum_any (a1 : Option Addr) (n1 q1 : Nat) (xs : List Int) (a2 : Option Addr) (n2 q2 : Nat) (ys : List Int) (w : World) (h1 : Sl icod w a1 n1 q1 xs) (h2 : Sl icod w a2 n2 q2 ys) (hn1 : n1 ≤ 1000000) (hn2 : n2 ≤ 1000000) :
    Calls Try.prog 88 #[.slice a1 n1 q1, .slice a2 n2 q2] w fun e w' => ∃ va vn vc, e = .returned (.tuple #[.slice va vn vc, .bool (sumB xs ys)]) ∧ V.Own 3 icod w.heap.size w' (.slice va vn vc) (sumL xs ys) ∧ Below w.heap.size w w' := by
  have mixed : Try.prog.follows .mixedOrders = true := by kernel_rfl
  have HN := Lib.hid h1.hlen
  have HM := Lib.hid h2.hlen
  have H1 := Lib.hid h1
  have H2 := Lib.hid h2
  clear h1 h2
  obtain ⟨sb, hsb⟩ : ∃ sb, sumB xs ys = sb := ⟨_, rfl⟩
  have HS := Lib.hid hsb
  clear hsb
  have HNO : Hid (sb = false → ∀ w', V.Own 3 icod w.heap.size w' (.slice none 0 0) (sumL xs ys)) := fun h w' => by
    unfold sumL
    rw [HS.out, h]
    exact Own.nil
  by_cases hlen : n1 = n2
  case neg =>
    have hl : (((n1 : Int)) != (n2 : Int)) = true := by simp; omega
    have hz : false = sb := by rw [← HS.out]; exact (sumB_len (by rw [← HN.out, ← HM.out]; exact hlen)).symm
    subst hz
    go_enter Try.func88, Try.ntmps88
    go_wp2_with fail
    go_ret2
    rw [HS.out]
    exact ⟨none, 0, 0, rfl, HNO.out trivial _, Below.refl _ _⟩
  case pos =>
  subst hlen
  have HXY : Hid (xs.length = ys.length) := HN.out.symm.trans HM.out
  go_enter Try.func88, Try.ntmps88
  go_wp2_with fail
  go_loopw [6, 15] (fun v i wr => ∃ (z : Value) (j : Nat), z = v ∧ i = .int .i64 j ∧ j ≤ n1 ∧ Hid (V.Own 3 icod w.heap.size wr z ((addL xs ys).take j)) ∧ Hid (Below w.heap.size w wr) ∧ Hid ((xs.take j).all okT = true ∧ (ys.take j).all okT = true)) (fun _ i _ => n1 - (intOf i).toNat)
  case atStart => exact ⟨_, 0, rfl, by go_num, by omega, Own.nil, Below.refl _ _, rfl, rfl⟩
  case round =>
    obtain ⟨v, j, rfl, rfl, hj, HO, HB, HA⟩ := hrel
    by_cases hlt : j < n1
    · obtain ⟨b, off, x, e1, hbl, hx, p0⟩ := int_at (H1.out.below HB.out) hlt
      obtain ⟨b', off', y, e2, hbl', hy, p1⟩ := int_at (H2.out.below HB.out) hlt
      have e1 : a1 = _ := e1
      have e2 : a2 = _ := e2
      subst e1
      subst e2
      have hji : (j : Int) < (n1 : Int) := by omega
      have HX := Lib.hid hx
      have HY := Lib.hid hy
      clear hx hy
      have bad : ∀ {z : Int}, z < 0 ∨ 2305843009213693952 < z → okT z = false := fun h => decide_eq_false (by omega)
      by_cases x1 : x < 0
      · have hz : false = sb := by rw [← HS.out]; exact (sumB_no1 HX.out (bad (.inl x1))).symm
        subst hz
        go_wp2_with fail
        go_ret2
        rw [HS.out]
        exact ⟨none, 0, 0, rfl, HNO.out trivial _, HB.out⟩
      · by_cases x2 : 2305843009213693952 < x
        · have hz : false = sb := by rw [← HS.out]; exact (sumB_no1 HX.out (bad (.inr x2))).symm
          subst hz
          go_wp2_with fail
          go_ret2
          rw [HS.out]
          exact ⟨none, 0, 0, rfl, HNO.out trivial _, HB.out⟩
        · by_cases y1 : y < 0
          · have hz : false = sb := by rw [← HS.out]; exact (sumB_no2 HY.out (bad (.inl y1))).symm
            subst hz
            go_wp2_with fail
            go_ret2
            rw [HS.out]
            exact ⟨none, 0, 0, rfl, HNO.out trivial _, HB.out⟩
          · by_cases y2 : 2305843009213693952 < y
            · have hz : false = sb := by rw [← HS.out]; exact (sumB_no2 HY.out (bad (.inr y2))).symm
              subst hz
              go_wp2_with fail
              go_ret2
              rw [HS.out]
              exact ⟨none, 0, 0, rfl, HNO.out trivial _, HB.out⟩
            · have HXK : Hid (okT x = true ∧ okT y = true) := ⟨decide_eq_true (by omega), decide_eq_true (by omega)⟩
              have hadd : IntKind.i64.wrap (x + y) = x + y := by rw [IntKind.wrap_i64]; omega
              have HM1 : Hid (((addL xs ys).take j).length + 1 ≤ maxLen) := by show _ ≤ _; rw [List.length_take]; unfold maxLen; omega
              have HM2 : Hid ((((addL xs ys).take j).length + 1) * 8 ≤ 140737488355328) := by show _ ≤ _; rw [List.length_take]; omega
              have hws := HB.out.size
              go_upto_region 9 with fail
              go_region_law (go_loud (refine step_app_at eltI rfl (.tmp 44) (.tmp 54) rfl v ((addL xs ys).take j) (by simp [Act.eval]) (HO.out.below (Below.drew ((Below.refl _ _).alloc (Nat.le_refl _) _))) ⟨wr.heap.size, 0, none⟩ 1 1 [x + y] (by simp [Act.eval]) ((sl_new (c := icod) wr #[.int .i64 (x + y)] 3 [x + y] 1 rfl (by unfold maxLen; omega) rfl).below (Below.drew (Below.refl _ _))) HM1.out HM2.out (by simp; omega) ?_); intro v1 w5 hown1 hg1 hat1; have HO1 := Lib.hid hown1; have HG1 := Lib.hid hg1; clear hown1 hg1 hat1)
              all_goals
                have HO2 : Hid (V.Own 3 icod w.heap.size w5 v1 ((addL xs ys).take (j + 1))) := by show V.Own _ _ _ _ _ _; rw [addL_snoc HX.out HY.out]; exact HO1.out
                have HB2 : Hid (Below w.heap.size w w5) := ((HB.out.alloc hws (.cells #[.int .i64 (x + y)] 3)).trans (Below.drew (Below.refl _ _))).trans (own_below (HO.out.below (Below.drew ((Below.refl _ _).alloc (Nat.le_refl _) (.cells #[.int .i64 (x + y)] 3)))) HG1.out (by simp; omega))
                go_wp2_with fail
                go_roundw
                case rel => exact ⟨v1, j + 1, rfl, by go_num, by omega, HO2.out, HB2.out, all_snoc HX.out HXK.out.1 HA.out.1, all_snoc HY.out HXK.out.2 HA.out.2⟩
                case measure => simp [intOf]; omega
    · have hjn : n1 = j := by omega
      subst hjn
      have hal : sumB xs ys = true := by
        refine sumB_all HXY.out ?_ ?_
        · have := HA.out.1; rwa [List.take_of_length_le (by rw [← HN.out]; exact Nat.le_refl _)] at this
        · have := HA.out.2; rwa [List.take_of_length_le (by rw [← HM.out]; exact Nat.le_refl _)] at this
      have hz : true = sb := by rw [← HS.out, hal]
      subst hz
      have HSL : Hid (V.Own 3 icod w.heap.size wr v (sumL xs ys)) := by
        show V.Own _ _ _ _ _ _
        unfold sumL; rw [if_pos hal]
        have := HO.out
        rwa [List.take_of_length_le (by rw [addL_len HXY.out, ← HN.out]; exact Nat.le_refl _)] at this
      clear hal
      obtain ⟨va, vc, hv, -, -⟩ := HSL.out.slice
      subst hv
      go_wp2_with fail
      go_ret2
      rw [HS.out]
      exact ⟨va, _, vc, rfl, HSL.out, HB.out⟩

/-! ### Flows, added -/
def mergeB (A B : Fl) : Bool := sumB A.links B.links && sumB A.on B.on && sumB A.off B.off && sumB [A.lost] [B.lost]
def mergeL (A B : Fl) : Fl := if mergeB A B = true then ⟨addL A.links B.links, addL A.on B.on, addL A.off B.off, A.lost + B.lost⟩ else ⟨[], [], [], 0⟩
theorem mergeL_yes {A B : Fl} (h : mergeB A B = true) : mergeL A B = ⟨addL A.links B.links, addL A.on B.on, addL A.off B.off, A.lost + B.lost⟩ := if_pos h
theorem mergeL_no {A B : Fl} (h : mergeB A B = false) : mergeL A B = ⟨[], [], [], 0⟩ := if_neg (by rw [h]; simp)

theorem own_kept_any {base : Nat} {w : World} {xs : List Int} {v u : Value} {p i : Nat} (h : V.Own 3 icod base w v xs) (hp : p < base) : V.Own 3 icod base (w.setCell ⟨p, i, none⟩ u) v xs :=
  h.kept (set_grown w p i u) (.inr (fun e => by have := (World.ownsRow.lt h p e).1; omega))
theorem own_kept4 {base : Nat} {w : World} {xs : List Int} {v u0 u1 u2 u3 : Value} {p : Nat} (h : V.Own 3 icod base w v xs) (hp : p < base) : V.Own 3 icod base ((((w.setCell ⟨p, 0, none⟩ u0).setCell ⟨p, 1, none⟩ u1).setCell ⟨p, 2, none⟩ u2).setCell ⟨p, 3, none⟩ u3) v xs :=
  own_kept_any (own_kept_any (own_kept_any (own_kept_any h hp) hp) hp) hp
theorem own_sl2 {base : Nat} {w : World} {xs : List Int} {a : Option Addr} {n c : Nat} (h : V.Own 3 icod base w (.slice a n c) xs) : Sl icod w a n c xs := by
  obtain ⟨a', c', e, h2, -⟩ := h.slice
  simp only [Value.slice.injEq] at e
  obtain ⟨rfl, rfl, rfl⟩ := e
  exact h2

set_option maxHeartbeats 4000000 in
set_option maxRecDepth 100000 in
theorem fmerge_any (A B : Fl) (a1 : Option Addr) (n1 q1 : Nat) (a2 : Option Addr) (n2 q2 : Nat) (a3 : Option Addr) (n3 q3 : Nat) (b1 : Option Addr) (m1 r1 : Nat) (b2 : Option Addr) (m2 r2 : Nat) (b3 : Option Addr) (m3 r3 : Nat) (w : World) (hA : FlIn w A ⟨⟨a1, n1, q1⟩, ⟨a2, n2, q2⟩, ⟨a3, n3, q3⟩⟩) (hB : FlIn w B ⟨⟨b1, m1, r1⟩, ⟨b2, m2, r2⟩, ⟨b3, m3, r3⟩⟩)
    (hn : n1 ≤ 1000000 ∧ n2 ≤ 1000000 ∧ n3 ≤ 1000000) (hm : m1 ≤ 1000000 ∧ m2 ≤ 1000000 ∧ m3 ≤ 1000000) :
    Calls Try.prog 54 #[.agg #[.slice a1 n1 q1, .slice a2 n2 q2, .slice a3 n3 q3, .int .i64 A.lost], .agg #[.slice b1 m1 r1, .slice b2 m2 r2, .slice b3 m3 r3, .int .i64 B.lost]] w fun e w' => ∃ c1 k1 s1 c2 k2 s2 c3 k3 s3, e = .returned (.tuple #[.agg #[.slice c1 k1 s1, .slice c2 k2 s2, .slice c3 k3 s3, .int .i64 (mergeL A B).lost], .bool (mergeB A B)]) ∧ FlIn w' (mergeL A B) ⟨⟨c1, k1, s1⟩, ⟨c2, k2, s2⟩, ⟨c3, k3, s3⟩⟩ ∧ Below w.heap.size w w' := by
  have mixed : Try.prog.follows .mixedOrders = true := by kernel_rfl
  have HA := Lib.hid hA
  have HB := Lib.hid hB
  obtain ⟨hn1, hn2, hn3⟩ := hn
  obtain ⟨hm1, hm2, hm3⟩ := hm
  clear hA hB
  obtain ⟨al, ao, af, ax⟩ := A
  obtain ⟨bl, bo, bf', bx⟩ := B
  simp only []
  obtain ⟨p1, hp1⟩ : ∃ p1, sumB al bl = p1 := ⟨_, rfl⟩
  obtain ⟨p2, hp2⟩ : ∃ p2, sumB ao bo = p2 := ⟨_, rfl⟩
  obtain ⟨p3, hp3⟩ : ∃ p3, sumB af bf' = p3 := ⟨_, rfl⟩
  obtain ⟨p4, hp4⟩ : ∃ p4, sumB [ax] [bx] = p4 := ⟨_, rfl⟩
  have HP : Hid (sumB al bl = p1 ∧ sumB ao bo = p2 ∧ sumB af bf' = p3 ∧ sumB [ax] [bx] = p4) := ⟨hp1, hp2, hp3, hp4⟩
  have hmb : mergeB ⟨al, ao, af, ax⟩ ⟨bl, bo, bf', bx⟩ = (p1 && p2 && p3 && p4) := by
    unfold mergeB; rw [hp1, hp2, hp3, hp4]
  obtain ⟨pp, hpp⟩ : ∃ pp, (p1 && p2 && p3 && p4) = pp := ⟨_, rfl⟩
  rw [hpp] at hmb
  have HPP := Lib.hid hpp
  have HMB := Lib.hid hmb
  obtain ⟨ML, hml⟩ : ∃ ML, mergeL ⟨al, ao, af, ax⟩ ⟨bl, bo, bf', bx⟩ = ML := ⟨_, rfl⟩
  have HML := Lib.hid hml
  rw [hmb, hml]
  clear hp1 hp2 hp3 hp4 hpp hmb hml
  have HXA := Lib.hid (box_alloc (o := .cells #[.slice none 0 0, .slice none 0 0, .slice none 0 0, .int .i64 0] 78) (box_alloc (o := .cells #[.slice b1 m1 r1, .slice b2 m2 r2, .slice b3 m3 r3, .int .i64 bx] 78) (box_new w (.cells #[.slice a1 n1 q1, .slice a2 n2 q2, .slice a3 n3 q3, .int .i64 ax] 78))))
  have HXB := Lib.hid (box_alloc (o := .cells #[.slice none 0 0, .slice none 0 0, .slice none 0 0, .int .i64 0] 78) (box_new (w.alloc (.cells #[.slice a1 n1 q1, .slice a2 n2 q2, .slice a3 n3 q3, .int .i64 ax] 78)) (.cells #[.slice b1 m1 r1, .slice b2 m2 r2, .slice b3 m3 r3, .int .i64 bx] 78)))
  have HXR := Lib.hid (box_new ((w.alloc (.cells #[.slice a1 n1 q1, .slice a2 n2 q2, .slice a3 n3 q3, .int .i64 ax] 78)).alloc (.cells #[.slice b1 m1 r1, .slice b2 m2 r2, .slice b3 m3 r3, .int .i64 bx] 78)) (.cells #[.slice none 0 0, .slice none 0 0, .slice none 0 0, .int .i64 0] 78))
  have HB1 : Hid (Below w.heap.size w (((w.alloc (.cells #[.slice a1 n1 q1, .slice a2 n2 q2, .slice a3 n3 q3, .int .i64 ax] 78)).alloc (.cells #[.slice b1 m1 r1, .slice b2 m2 r2, .slice b3 m3 r3, .int .i64 bx] 78)).alloc (.cells #[.slice none 0 0, .slice none 0 0, .slice none 0 0, .int .i64 0] 78))) := (((Below.refl _ _).alloc (Nat.le_refl _) _).alloc (by simp) _).alloc (by simp; omega) _
  go_enter Try.func54, Try.ntmps54
  go_upto_region 1 with fail
  obtain ⟨w1, hw1⟩ : ∃ w1, ((w.alloc (.cells #[.slice a1 n1 q1, .slice a2 n2 q2, .slice a3 n3 q3, .int .i64 ax] 78)).alloc (.cells #[.slice b1 m1 r1, .slice b2 m2 r2, .slice b3 m3 r3, .int .i64 bx] 78)).alloc (.cells #[.slice none 0 0, .slice none 0 0, .slice none 0 0, .int .i64 0] 78) = w1 := ⟨_, rfl⟩
  rw [hw1] at HXA HXB HXR HB1 ⊢
  simp only [World.size_alloc] at HXB HXR
  clear hw1
  obtain ⟨x0, x1, x2, x3⟩ := box4_cells HXA.out
  obtain ⟨y0, y1, y2, y3⟩ := box4_cells HXB.out
  have hxl := box_lt HXA.out
  have hyl := box_lt HXB.out
  have hrl := box_lt HXR.out
  go_upto_region 2 with (go_at_call 88; go_loud (refine (fsum_any a1 n1 q1 al b1 m1 r1 bl _ (HA.out.l.below HB1.out) (HB.out.l.below HB1.out) hn1 hm1).mono ?_); rintro e w2 ⟨c1, k1, s1, rfl, hs, hb⟩; rw [HP.out.1]; have HS1 : Hid (V.Own 3 icod (w.heap.size + 1 + 1 + 1) w2 (.slice c1 k1 s1) (sumL al bl)) := hs.lower (by omega); have HB2 := Lib.hid (HB1.out.trans (hb.mono HB1.out.size)); have HXA2 := Lib.hid (box_below HXA.out hb); have HXB2 := Lib.hid (box_below HXB.out hb); have HXR2 := Lib.hid (box_below HXR.out hb); clear hs hb)
  clear x0 x1 x2 x3 y0 y1 y2 y3 hxl hyl hrl HXA HXB HXR HB1
  obtain ⟨x0, x1, x2, x3⟩ := box4_cells HXA2.out
  obtain ⟨y0, y1, y2, y3⟩ := box4_cells HXB2.out
  have hxl := box_lt HXA2.out
  have hyl := box_lt HXB2.out
  have hrl := box_lt HXR2.out
  go_upto_region 3 with (go_at_call 88; go_loud (refine (fsum_any a2 n2 q2 ao b2 m2 r2 bo _ (HA.out.n.below HB2.out) (HB.out.n.below HB2.out) hn2 hm2).mono ?_); rintro e w3 ⟨c2, k2, s2, rfl, hs, hb⟩; rw [HP.out.2.1]; have HS1' := Lib.hid (HS1.out.below hb); have HS2 : Hid (V.Own 3 icod (w.heap.size + 1 + 1 + 1) w3 (.slice c2 k2 s2) (sumL ao bo)) := hs.lower (by omega); have HB3 := Lib.hid (HB2.out.trans (hb.mono HB2.out.size)); have HXA3 := Lib.hid (box_below HXA2.out hb); have HXB3 := Lib.hid (box_below HXB2.out hb); have HXR3 := Lib.hid (box_below HXR2.out hb); clear hs hb HS1)
  clear x0 x1 x2 x3 y0 y1 y2 y3 hxl hyl hrl HXA2 HXB2 HXR2 HB2
  obtain ⟨x0, x1, x2, x3⟩ := box4_cells HXA3.out
  obtain ⟨y0, y1, y2, y3⟩ := box4_cells HXB3.out
  have hxl := box_lt HXA3.out
  have hyl := box_lt HXB3.out
  have hrl := box_lt HXR3.out
  go_upto_region 4 with (go_at_call 88; go_loud (refine (fsum_any a3 n3 q3 af b3 m3 r3 bf' _ (HA.out.f.below HB3.out) (HB.out.f.below HB3.out) hn3 hm3).mono ?_); rintro e w4 ⟨c3, k3, s3, rfl, hs, hb⟩; rw [HP.out.2.2.1]; have HS1 := Lib.hid (HS1'.out.below hb); have HS2' := Lib.hid (HS2.out.below hb); have HS3 : Hid (V.Own 3 icod (w.heap.size + 1 + 1 + 1) w4 (.slice c3 k3 s3) (sumL af bf')) := hs.lower (by omega); have HB4 := Lib.hid (HB3.out.trans (hb.mono HB3.out.size)); have HXA4 := Lib.hid (box_below HXA3.out hb); have HXB4 := Lib.hid (box_below HXB3.out hb); have HXR4 := Lib.hid (box_below HXR3.out hb); clear hs hb HS1' HS2)
  clear x0 x1 x2 x3 y0 y1 y2 y3 hxl hyl hrl HXA3 HXB3 HXR3 HB3
  obtain ⟨x0, x1, x2, x3⟩ := box4_cells HXA4.out
  obtain ⟨y0, y1, y2, y3⟩ := box4_cells HXB4.out
  have hxl := box_lt HXA4.out
  have hyl := box_lt HXB4.out
  have hrl := box_lt HXR4.out
  have hws := HB4.out.size
  have HU1 : Hid (Sl icod ((w4.alloc (.cells #[.int .i64 ax] 3)).alloc (.cells #[.int .i64 bx] 3)) (some ⟨w4.heap.size, 0, none⟩) 1 1 [ax]) := (sl_new (c := icod) w4 #[.int .i64 ax] 3 [ax] 1 rfl (by unfold maxLen; omega) rfl).below ((Below.refl _ _).alloc (Nat.le_refl _) _)
  have HU2 : Hid (Sl icod ((w4.alloc (.cells #[.int .i64 ax] 3)).alloc (.cells #[.int .i64 bx] 3)) (some ⟨w4.heap.size + 1, 0, none⟩) 1 1 [bx]) := by
    have h := sl_new (c := icod) (w4.alloc (.cells #[.int .i64 ax] 3)) #[.int .i64 bx] 3 [bx] 1 rfl (by unfold maxLen; omega) rfl
    simp only [World.size_alloc] at h
    exact h
  have HB5 : Hid (Below w4.heap.size w4 ((w4.alloc (.cells #[.int .i64 ax] 3)).alloc (.cells #[.int .i64 bx] 3))) := ((Below.refl _ _).alloc (Nat.le_refl _) _).alloc (by simp) _
  go_upto_region 5 with (go_at_call 88; go_loud (refine (fsum_any _ 1 1 [ax] _ 1 1 [bx] _ HU1.out HU2.out (by omega) (by omega)).mono ?_); rintro e w5 ⟨c4, k4, s4, rfl, hs, hb⟩; rw [HP.out.2.2.2]; have HB6 := Lib.hid (HB5.out.trans (hb.mono HB5.out.size)); have HS4 : Hid (Sl icod w5 c4 k4 s4 (sumL [ax] [bx])) := own_sl2 hs; clear hs hb)
  clear x0 x1 x2 x3 y0 y1 y2 y3 hxl hyl hrl HXA4 HXB4 HU1 HU2 HB5
  have HT1 := Lib.hid (HS1.out.below HB6.out)
  have HT2 := Lib.hid (HS2'.out.below HB6.out)
  have HT3 := Lib.hid (HS3.out.below HB6.out)
  have HXR := Lib.hid (box_below HXR4.out HB6.out)
  have HBW := Lib.hid (HB4.out.trans (HB6.out.mono HB4.out.size))
  clear HS1 HS2' HS3 HXR4 HB4 HB6 hws
  obtain ⟨z, hz⟩ : ∃ z, w.heap.size + 1 + 1 = z := ⟨_, rfl⟩
  have hzw : w.heap.size ≤ z := by omega
  rw [hz] at HXR HT1 HT2 HT3 ⊢
  clear hz
  obtain ⟨x0, x1, x2, x3⟩ := box4_cells HXR.out
  have f0 := (box_cell HXR.out 0).2
  have f1 := (box_cell HXR.out 1).2
  have f2 := (box_cell HXR.out 2).2
  have f3 := (box_cell HXR.out 3).2
  have hlt := box_lt HXR.out
  cases pp with
  | false =>
    have hz : (⟨[], [], [], 0⟩ : Fl) = ML := by rw [← HML.out]; exact (mergeL_no HMB.out).symm
    subst hz
    have hc : p1 = false ∨ (p1 = true ∧ p2 = false) ∨ (p1 = true ∧ p2 = true ∧ p3 = false) ∨ (p1 = true ∧ p2 = true ∧ p3 = true ∧ p4 = false) := by
      have := HPP.out
      cases p1 <;> cases p2 <;> cases p3 <;> cases p4 <;> simp_all
    clear HPP
    rcases hc with rfl | ⟨rfl, rfl⟩ | ⟨rfl, rfl, rfl⟩ | ⟨rfl, rfl, rfl, rfl⟩
    all_goals
      go_wp2_with fail
      exact bodyPost_ret (results_row_tmp rfl _ _ z _ _ _ _ rfl (box4_set HXR.out _ _ _ _) Try.underlying78 rfl (by kernel_rfl)) rfl ⟨none, 0, 0, none, 0, 0, none, 0, 0, rfl, ⟨sl_none _, sl_none _, sl_none _⟩, below_set (below_set (below_set (below_set HBW.out hzw) hzw) hzw) hzw⟩
  | true =>
    have hz : (⟨addL al bl, addL ao bo, addL af bf', ax + bx⟩ : Fl) = ML := by rw [← HML.out]; exact (mergeL_yes HMB.out).symm
    subst hz
    have hc : p1 = true ∧ p2 = true ∧ p3 = true ∧ p4 = true := by
      have := HPP.out
      cases p1 <;> cases p2 <;> cases p3 <;> cases p4 <;> simp_all
    clear HPP
    obtain ⟨rfl, rfl, rfl, rfl⟩ := hc
    have HL1 : Hid (sumL al bl = addL al bl ∧ sumL ao bo = addL ao bo ∧ sumL af bf' = addL af bf' ∧ sumL [ax] [bx] = [ax + bx]) := ⟨if_pos HP.out.1, if_pos HP.out.2.1, if_pos HP.out.2.2.1, if_pos HP.out.2.2.2⟩
    have hk4 : k4 = 1 := by have := HS4.out.hlen; rwa [HL1.out.2.2.2] at this
    subst hk4
    obtain ⟨b, off, r, e1, hbl, hr, p0⟩ := int_at HS4.out (show 0 < 1 by omega)
    rw [HL1.out.2.2.2] at hr
    have hr2 : ax + bx = r := Option.some.inj hr
    subst hr2
    have e1 : c4 = _ := e1
    subst e1
    rw [Nat.add_zero] at p0
    clear hr
    go_wp2_with fail
    refine bodyPost_ret (results_row_tmp rfl _ _ z _ _ _ _ rfl (box4_set HXR.out _ _ _ _) Try.underlying78 rfl (by kernel_rfl)) rfl ⟨c1, k1, s1, c2, k2, s2, c3, k3, s3, rfl, ⟨?_, ?_, ?_⟩, below_set (below_set (below_set (below_set HBW.out hzw) hzw) hzw) hzw⟩
    · rw [HL1.out.1] at HT1; exact own_sl2 (own_kept4 HT1.out (Nat.lt_succ_self z))
    · rw [HL1.out.2.1] at HT2; exact own_sl2 (own_kept4 HT2.out (Nat.lt_succ_self z))
    · rw [HL1.out.2.2.1] at HT3; exact own_sl2 (own_kept4 HT3.out (Nat.lt_succ_self z))
end Go.Proofs.Yteihffnmgacfpaa.Ne
