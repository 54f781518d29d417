/- Networks: flows: how they lie; the ends of a link; flows held against one another, walked; where links stand, walked; plain: how many go along which link. (merged) -/
import Derived.Test.YteihffnmgacfpaaNvA
import Derived.Test.YteihffnmgacfpaaNeT
import Derived.Test.YteihffnmgacfpaaNeG
import Derived.WideKeyPair
import Derived.Test.YteihffnmgacfpaaNvB
namespace Go.Proofs.Yteihffnmgacfpaa.Ne
open Go.RowKit Go.V Go.Proofs Go.Sort Go.Maps

set_option maxHeartbeats 1000000 in
theorem of_any (a b : Int) (w : World) : Calls Try.prog 86 #[.int .i64 a, .int .i64 b] w fun e w' => e = .returned (.agg #[.int .i64 (min a b), .int .i64 (max a b)]) ∧ Below w.heap.size w w' := by
  rcases Int.lt_or_le a b with h | h
  · have e1 : min a b = a := by omega
    have e2 : max a b = b := by omega
    have h2 : ¬ b < a := by omega
    have h3 : (if b < a then b else a) = a := if_neg h2
    have h4 : (if b > a then b else a) = b := if_pos h
    rw [e1, e2]
    go_enter Try.func86, Try.ntmps86
    go_wp2_with fail
    exact bodyPost_ret (results_cell_row rfl _ _ w.heap.size _ _ _ _ rfl (box_new w _) Try.underlying136 rfl (by kernel_rfl)) rfl ⟨rfl, (Below.refl _ _).alloc (Nat.le_refl _) _⟩
  · have e1 : min a b = b := by omega
    have e2 : max a b = a := by omega
    have h2 : ¬ a < b := by omega
    rcases Int.lt_or_eq_of_le h with h3 | h3
    · rw [e1, e2]
      go_enter Try.func86, Try.ntmps86
      go_wp2_with fail
      exact bodyPost_ret (results_cell_row rfl _ _ w.heap.size _ _ _ _ rfl (box_new w _) Try.underlying136 rfl (by kernel_rfl)) rfl ⟨rfl, (Below.refl _ _).alloc (Nat.le_refl _) _⟩
    · subst h3
      rw [e1]
      have e3 : max b b = b := by omega
      rw [e3]
      go_enter Try.func86, Try.ntmps86
      go_wp2_with fail
      exact bodyPost_ret (results_cell_row rfl _ _ w.heap.size _ _ _ _ rfl (box_new w _) Try.underlying136 rfl (by kernel_rfl)) rfl ⟨rfl, (Below.refl _ _).alloc (Nat.le_refl _) _⟩

set_option maxHeartbeats 1000000 in
theorem ints_any (a1 : Option Addr) (n1 cap1 : Nat) (xs : List Int) (a2 : Option Addr) (n2 cap2 : Nat) (ys : List Int) (w : World) (h1 : Sl icod w a1 n1 cap1 xs) (h2 : Sl icod w a2 n2 cap2 ys) :
    Calls Try.prog 87 #[.slice a1 n1 cap1, .slice a2 n2 cap2] w fun e w' => e = .returned (.bool (decide (xs = ys))) ∧ Below w.heap.size w w' := by
  have hN := Lib.hid h1.hlen
  have hM := Lib.hid h2.hlen
  have hm : n1 ≤ 9223372036854775807 := by have := h1.hcap; have := h1.hmax; unfold maxLen at this; omega
  by_cases hlen : n1 = n2
  · subst hlen
    go_enter Try.func87, Try.ntmps87
    go_wp2
    go_loopw [5] (fun i wr => ∃ (k : Nat), k ≤ n1 ∧ i = .int .i64 k ∧ Hid (xs.take k = ys.take k) ∧ Below w.heap.size w wr) (fun i _ => n1 - (intOf i).toNat)
    case atStart => exact ⟨0, by omega, rfl, by show _ = _; rw [List.take_zero, List.take_zero], Below.refl _ _⟩
    case round =>
      obtain ⟨k, hk, rfl, he, hb⟩ := hrel
      by_cases hlt : k < n1
      · obtain ⟨b, off, r, rfl, -, hr, c0⟩ := int_at (h1.below hb) hlt
        obtain ⟨b', off', r', rfl, -, hr', c0'⟩ := int_at (h2.below hb) hlt
        have HR := Lib.hid hr
        have HR' := Lib.hid hr'
        have HB := Lib.hid hb
        have hltz : (k : Int) < n1 := by omega
        clear hr hr' hb
        by_cases heq : r = r'
        · subst heq
          go_wp2_with fail
          go_quiet (fail)
          go_wp2_with fail
          go_roundw
          case rel => exact ⟨k + 1, by omega, by go_num, by show _ = _; rw [take_at HR.out, take_at HR'.out, he.out], below_drewN HB.out _⟩
          case measure => simp [intOf]; omega
        · have hq : (r != r') = true := by simpa using heq
          have hq2 : (r == r') = false := by simpa using heq
          have HE := Lib.hid heq
          clear heq
          go_wp2_with fail
          go_quiet (fail)
          go_wp2_with fail
          go_ret
          exact ⟨ret_bool (by
            symm; rw [decide_eq_false_iff_not]
            intro h; apply HE.out
            have a1 := HR.out; have a2 := HR'.out
            rw [h, a2] at a1; exact (Option.some.inj a1).symm), below_drewN HB.out _⟩
      · have hk' : k = n1 := by omega
        have HK := Lib.hid hk'; clear hk'
        go_wp2
        go_ret
        exact ⟨ret_bool (by
          have e := he.out
          rw [HK.out, List.take_of_length_le (by rw [← hN.out]; omega), List.take_of_length_le (by rw [← hM.out]; omega)] at e
          simp [e]), hb⟩
  · have hl : (((n1 : Int)) != (n2 : Int)) = true := by simp; omega
    have HL := Lib.hid hlen
    clear hlen
    go_enter Try.func87, Try.ntmps87
    go_wp2
    go_ret
    exact ⟨ret_bool (by
      have := HL.out
      symm; rw [decide_eq_false_iff_not]
      intro h; apply this; rw [hN.out, hM.out, h]), Below.refl _ _⟩

/-! ### Flows -/
structure Fl where
  links : List Int
  on : List Int
  off : List Int
  lost : Int
deriving DecidableEq
/-- How flows lie: three slices and a number. -/
structure FH where
  l : Hdr
  n : Hdr
  f : Hdr
def FH.val (h : FH) (x : Int) : Value := .agg #[.slice h.l.a h.l.n h.l.cap, .slice h.n.a h.n.n h.n.cap, .slice h.f.a h.f.n h.f.cap, .int .i64 x]
def FH.box (h : FH) (x : Int) : Obj := .cells #[.slice h.l.a h.l.n h.l.cap, .slice h.n.a h.n.n h.n.cap, .slice h.f.a h.f.n h.f.cap, .int .i64 x] 78 (0, 0)
structure FlIn (w : World) (F : Fl) (h : FH) : Prop where
  l : Sl icod w h.l.a h.l.n h.l.cap F.links
  n : Sl icod w h.n.a h.n.n h.n.cap F.on
  f : Sl icod w h.f.a h.f.n h.f.cap F.off
theorem FlIn.below {w w' : World} {F : Fl} {h : FH} (hh : FlIn w F h) (hb : Below w.heap.size w w') : FlIn w' F h := ⟨hh.l.below hb, hh.n.below hb, hh.f.below hb⟩

set_option maxHeartbeats 2000000 in
set_option maxRecDepth 100000 in
theorem fsame_any (F : Fl) (h h' : FH) (w : World) (hF : FlIn w F h) (hG : FlIn w F h') :
    Calls Try.prog 52 #[h.val F.lost, h'.val F.lost] w fun e w' => e = .returned (.bool true) ∧ Below w.heap.size w w' := by
  obtain ⟨⟨a1, n1, q1⟩, ⟨a2, n2, q2⟩, ⟨a3, n3, q3⟩⟩ := h
  obtain ⟨⟨b1, m1, r1⟩, ⟨b2, m2, r2⟩, ⟨b3, m3, r3⟩⟩ := h'
  obtain ⟨x1, x2, x3, x4⟩ := F
  have HF := Lib.hid hF
  have HG := Lib.hid hG
  clear hF hG
  unfold FH.val
  simp only []
  have HB0 : Hid (Below w.heap.size w ((w.alloc (.cells #[.slice a1 n1 q1, .slice a2 n2 q2, .slice a3 n3 q3, .int .i64 x4] 78)).alloc (.cells #[.slice b1 m1 r1, .slice b2 m2 r2, .slice b3 m3 r3, .int .i64 x4] 78))) := ((Below.refl _ _).alloc (Nat.le_refl _) _).alloc (by simp) _
  have HX0 := Lib.hid (box_alloc (o := .cells #[.slice b1 m1 r1, .slice b2 m2 r2, .slice b3 m3 r3, .int .i64 x4] 78) (box_new w (.cells #[.slice a1 n1 q1, .slice a2 n2 q2, .slice a3 n3 q3, .int .i64 x4] 78)))
  have HY0 : Hid (((w.alloc (.cells #[.slice a1 n1 q1, .slice a2 n2 q2, .slice a3 n3 q3, .int .i64 x4] 78)).alloc (.cells #[.slice b1 m1 r1, .slice b2 m2 r2, .slice b3 m3 r3, .int .i64 x4] 78)).heap[w.heap.size + 1]? = some (.cells #[.slice b1 m1 r1, .slice b2 m2 r2, .slice b3 m3 r3, .int .i64 x4] 78 (0, 0))) := by
    show _ = _
    have := box_new (w.alloc (.cells #[.slice a1 n1 q1, .slice a2 n2 q2, .slice a3 n3 q3, .int .i64 x4] 78)) (.cells #[.slice b1 m1 r1, .slice b2 m2 r2, .slice b3 m3 r3, .int .i64 x4] 78)
    simpa using this
  have hxx : ((x4 : Int) == x4) = true := by simp
  go_enter Try.func52, Try.ntmps52
  go_upto_region 1 with fail
  obtain ⟨X, hX⟩ : ∃ X, (w.alloc (.cells #[.slice a1 n1 q1, .slice a2 n2 q2, .slice a3 n3 q3, .int .i64 x4] 78)).alloc (.cells #[.slice b1 m1 r1, .slice b2 m2 r2, .slice b3 m3 r3, .int .i64 x4] 78) = X := ⟨_, rfl⟩
  rw [hX] at HB0 HX0 HY0 ⊢
  clear hX
  obtain ⟨c0, c1, c2, c3⟩ := box4_cells HX0.out
  obtain ⟨d0, d1, d2, d3⟩ := box4_cells HY0.out
  go_wp2_with (first
    | (go_at_call 87; go_fit (ints_any a1 n1 q1 x1 b1 m1 r1 x1 X (HF.out.l.below HB0.out) (HG.out.l.below HB0.out)); rintro e w1 ⟨rfl, hb1⟩; rw [decide_eq_true (rfl : x1 = x1)]; have HB1 := Lib.hid (HB0.out.trans (hb1.mono HB0.out.size)); have HX1 := Lib.hid (box_below HX0.out hb1); have HY1 := Lib.hid (box_below HY0.out hb1); obtain ⟨e0, e1, e2, e3⟩ := box4_cells HX1.out; obtain ⟨f0, f1, f2, f3⟩ := box4_cells HY1.out; clear hb1)
    | (go_at_call 87; go_fit (ints_any a2 n2 q2 x2 b2 m2 r2 x2 w1 (HF.out.n.below HB1.out) (HG.out.n.below HB1.out)); rintro e w2 ⟨rfl, hb2⟩; rw [decide_eq_true (rfl : x2 = x2)]; have HB2 := Lib.hid (HB1.out.trans (hb2.mono HB1.out.size)); have HX2 := Lib.hid (box_below HX1.out hb2); have HY2 := Lib.hid (box_below HY1.out hb2); obtain ⟨g0, g1, g2, g3⟩ := box4_cells HX2.out; obtain ⟨k0, k1, k2, k3⟩ := box4_cells HY2.out; clear hb2)
    | (go_at_call 87; go_fit (ints_any a3 n3 q3 x3 b3 m3 r3 x3 w2 (HF.out.f.below HB2.out) (HG.out.f.below HB2.out)); rintro e w3 ⟨rfl, hb3⟩; rw [decide_eq_true (rfl : x3 = x3)]; have HB3 := Lib.hid (HB2.out.trans (hb3.mono HB2.out.size)); clear hb3))
  go_ret
  exact ⟨rfl, HB3.out⟩
end Go.Proofs.Yteihffnmgacfpaa.Ne

namespace Go.Proofs.Yteihffnmgacfpaa.Ne
open Go.RowKit Go.V Go.Proofs Go.Sort Go.Maps Go.WideMaps Go.ChangeShapes

theorem arrE : ArrKey Try.prog 136 3 2 := ⟨Try.underlying136, by kernel_rfl, by kernel_rfl, by kernel_rfl⟩
theorem lawE : Maps.Keyed Try.prog 136 := Maps.Keyed.of_law arrE.law
theorem zeroI (w : World) : (zeroValue 3).run Try.prog w = .ok (.int .i64 0) w := by kernel_rfl
theorem typesN : ∃ m, Try.prog.types.size = m + 1 := ⟨Try.prog.types.size - 1, by kernel_rfl⟩
/-- A link's ends, as a key. -/
def kyL (a b : Int) : Lit := .string (keyBytes [.int .i64 a, .int .i64 b])
theorem wfI {a : Int} (h : 0 ≤ a ∧ a ≤ 1000000) : (Lit.int .i64 a).wf = true := by
  simp [Lit.wf, IntKind.min, IntKind.max, IntKind.signed, IntKind.bits]; omega
theorem kyL_of {a b : Int} (ha : 0 ≤ a ∧ a ≤ 1000000) (hb : 0 ≤ b ∧ b ≤ 1000000) : keyOf Try.prog 136 (.agg #[.int .i64 a, .int .i64 b]) = some (kyL a b) :=
  WideMaps.keyOf_pair arrE Try.underlying3 typesN (wfI ha) (wfI hb)
theorem kyL_inj {a b c d : Int} (ha : 0 ≤ a ∧ a ≤ 1000000) (hb : 0 ≤ b ∧ b ≤ 1000000) (hc : 0 ≤ c ∧ c ≤ 1000000) (hd : 0 ≤ d ∧ d ≤ 1000000) (h : kyL a b = kyL c d) : a = c ∧ b = d := by
  unfold kyL at h
  have h := keyBytes_inj (l := [.int .i64 a, .int .i64 b]) (l' := [.int .i64 c, .int .i64 d]) (by simp [Alike, Lit.sameKind]) (by simp [Lit.keyWf, wfI ha, wfI hb]) (by simp [Lit.keyWf, wfI hc, wfI hd]) (by simpa using h)
  simp at h
  exact h

/-- The map of the places: of these links so far. -/
def PlIn (w : World) (mg m : Nat) (L : List Lnk) : Prop := ∃ D : DataW Value, w.ownsMap Try.prog 136 (plainElem Try.prog 3) mg m D ∧ ∀ (i : Nat) (l : Lnk), L[i]? = some l → D.atKey (kyL l.a l.b) (.lit (.int .i64 0)) = .lit (.int .i64 i)
theorem PlIn.kept {w w' : World} {mg m : Nat} {L : List Lnk} {r : Option Nat} (h : PlIn w mg m L) (hg : w.grownBy w' r) (hr : some mg ≠ r) : PlIn w' mg m L := by
  obtain ⟨D, h1, h2⟩ := h
  exact ⟨D, h1.kept hg hr, h2⟩
theorem PlIn.lt {w : World} {mg m : Nat} {L : List Lnk} (h : PlIn w mg m L) : mg < w.heap.size := by
  obtain ⟨D, h1, -⟩ := h
  exact h1.lt

set_option maxHeartbeats 4000000 in
set_option maxRecDepth 100000 in
theorem places_any (n : Net) (hs hl : Hdr) (w : World) (h : NetIn w n hs hl) (hok : checkE n = 0) :
    Calls Try.prog 85 #[n.val hs hl] w fun e w' => ∃ mg, e = .returned (.map (some mg)) ∧ w.heap.size ≤ mg ∧ PlIn w' mg hl.n n.links ∧ Below w.heap.size w w' := by
  have mixed : Try.prog.follows .mixedOrders = true := by kernel_rfl
  have hmm := @run_makeMap Try.prog
  obtain ⟨kk1, kk2, -, -, kk5, kk6⟩ := check_ok hok
  have HLN := Lib.hid h.l.hlen
  obtain ⟨sa, k, sc⟩ := hs
  obtain ⟨la, m, lc⟩ := hl
  have hm4 : m ≤ 16384 := by have e : m = n.links.length := HLN.out; omega
  have HLI : Hid (∀ l ∈ n.links, (0 ≤ l.a ∧ l.a ≤ 1000000) ∧ (0 ≤ l.b ∧ l.b ≤ 1000000) ∧ l.a < l.b) := fun l hl => by have := kk5 l hl; omega
  have HPW := Lib.hid kk6
  have HH := Lib.hid h
  have HX0 := Lib.hid (box_new w (n.box ⟨sa, k, sc⟩ ⟨la, m, lc⟩))
  have HB0 : Hid (Below w.heap.size w (w.alloc (n.box ⟨sa, k, sc⟩ ⟨la, m, lc⟩))) := (Below.refl _ _).alloc (Nat.le_refl _) _
  clear h kk1 kk2 kk5 kk6
  go_enter Try.func85, Try.ntmps85
  go_upto_region 2 with fail
  unfold Net.box at HX0 HB0
  obtain ⟨W, hW⟩ : ∃ W, w.alloc (.cells #[.int .i64 n.ver, .slice sa k sc, .slice la m lc] 25) = W := ⟨_, rfl⟩
  rw [hW] at HX0 HB0 ⊢
  have HM0 : Hid (PlIn (W.alloc (.map #[] 0)) W.heap.size 0 (n.links.take 0)) := ⟨.map [], World.ownsMap_made W Try.prog _ _, fun i l hl => by simp at hl⟩
  have HX1 := Lib.hid (box_alloc (o := .map #[] 0) HX0.out)
  have HB1 := Lib.hid (HB0.out.alloc HB0.out.size (.map #[] 0))
  have HWS : Hid (W.heap.size = w.heap.size + 1) := by show _ = _; rw [← hW]; simp
  rw [HWS.out] at HM0
  clear hW
  have hmw : w.heap.size ≤ w.heap.size + 1 := by omega
  obtain ⟨mg, hmg⟩ : ∃ mg, w.heap.size + 1 = mg := ⟨_, rfl⟩
  rw [hmg] at HM0 hmw ⊢
  clear hmg
  obtain ⟨c0, c1, c2, -, -, -⟩ := box3_cells HX1.out
  go_wp2_with fail
  clear c0 c1 c2
  go_loopw [10] (fun i wr => ∃ j : Nat, i = .int .i64 j ∧ j ≤ m ∧ Hid (PlIn wr mg j (n.links.take j)) ∧ Hid (Below w.heap.size w wr)) (fun i _ => m - (intOf i).toNat)
  case atStart => exact ⟨0, by go_num, by omega, HM0.out, HB1.out⟩
  case round =>
    clear HM0 HB1 HX1 HX0 HB0 HWS
    obtain ⟨j, rfl, hj, HM, HB⟩ := hrel
    by_cases hlt : j < m
    · obtain ⟨bl, off, l, e1, hbl, hlj, l0, l1, l2⟩ := lnk_at (HH.out.l.below HB.out) hlt
      have e1 : la = _ := e1
      subst e1
      obtain ⟨r1, r2, r3⟩ := HLI.out l (List.mem_of_getElem? hlj)
      have HLJ := Lib.hid hlj
      obtain ⟨P, Q, x⟩ := l
      simp only [] at r1 r2 r3
      have hmin : min P Q = P := by omega
      have hmax : max P Q = Q := by omega
      have HMI : Hid (min P Q = P ∧ max P Q = Q) := ⟨hmin, hmax⟩
      have HKY := Lib.hid (kyL_of r1 r2)
      have hji : (j : Int) < (m : Int) := by omega
      obtain ⟨D, hD, hat⟩ := HM.out
      have HD := Lib.hid (hD.alloc (.cells #[.int .i64 P, .int .i64 Q, .int .i64 x] 49))
      have HBa := Lib.hid (HB.out.alloc HB.out.size (.cells #[.int .i64 P, .int .i64 Q, .int .i64 x] 49))
      have HAT : Hid (∀ (i : Nat) (l : Lnk), (n.links.take j)[i]? = some l → D.atKey (kyL l.a l.b) (.lit (.int .i64 0)) = .lit (.int .i64 i)) := hat
      have HNM : Hid (j < maxLen) := by show _ < _; unfold maxLen; omega
      have HVAL : Hid (plainElem (H := Value) Try.prog 3 (.int .i64 (j : Int)) = some (.lit (.int .i64 j), [])) := plainElem_int Try.underlying3 (wfI ⟨by omega, by omega⟩)
      clear hD hat hlj HM hmin hmax
      go_wp2_with (first
        | (go_at_call 86; go_loud (refine (of_any P Q _).mono ?_); rintro e w3 ⟨rfl, hb3⟩; rw [HMI.out.1, HMI.out.2]; have HB3 := Lib.hid (HBa.out.trans (hb3.mono HBa.out.size)); have HD3 := Lib.hid (HD.out.kept (grownN hb3) (by simp)); clear hb3)
        | (at_mapUpdate; go_loud (refine wpList_mapUpdate_own _ rfl _ _ _ 134 rfl 136 3 lawE Try.underlying134 (plainElem Try.prog 3) mg j D rfl HD3.out HNM.out _ _ _ rfl rfl HKY.out _ [] HVAL.out ?_); intro w4 ho4 hg4; have HO4 := Lib.hid ho4; have HB4 : Hid (Below w.heap.size w w4) := HB3.out.trans ⟨hg4.os, hg4.tape, hg4.output, hg4.size, fun q hq => hg4.block q (by have := HB3.out.size; omega) (fun e => by have := Option.some.inj e; omega)⟩; clear ho4 hg4))
      go_roundw
      case rel =>
        refine ⟨j + 1, by go_num, by omega, ⟨_, HO4.out, fun i l hl => ?_⟩, HB4.out⟩
        by_cases hij : i = j
        · subst hij
          rw [take_at HLJ.out, List.getElem?_append_right (by rw [List.length_take]; omega), List.length_take, Nat.min_eq_left (by have := (List.getElem?_eq_some_iff.1 HLJ.out).1; omega), Nat.sub_self] at hl
          simp at hl
          subst hl
          exact atKey_put_same HD3.out.isMap (by simp [WideAt.IsKeyLit, kyL]) _ _
        · have hij2 : i < j := by
            have := (List.getElem?_eq_some_iff.1 hl).1
            rw [List.length_take] at this; omega
          rw [List.getElem?_take, if_pos (by omega)] at hl
          have hl2 : (n.links.take j)[i]? = some l := by rw [List.getElem?_take, if_pos hij2]; exact hl
          obtain ⟨s1, s2, s3⟩ := HLI.out l (List.mem_of_getElem? hl)
          rw [atKey_put_other]
          · exact HAT.out i l hl2
          · intro e
            obtain ⟨e1, e2⟩ := kyL_inj s1 s2 r1 r2 e
            have hpw := List.pairwise_iff_getElem.1 HPW.out i j (List.getElem?_eq_some_iff.1 hl).1 (List.getElem?_eq_some_iff.1 HLJ.out).1 hij2
            rw [(List.getElem?_eq_some_iff.1 hl).2, (List.getElem?_eq_some_iff.1 HLJ.out).2] at hpw
            simp only [aftB, decide_eq_true_eq] at hpw
            omega
      case measure => simp [intOf]; omega
    · have hjm : m = j := by omega
      subst hjm
      have HML : Hid (n.links.take m = n.links) := List.take_of_length_le (by rw [← HLN.out]; exact Nat.le_refl _)
      go_wp2_with fail
      go_ret
      exact ⟨mg, rfl, hmw, by have := HM.out; rw [HML.out] at this; exact this, HB.out⟩
end Go.Proofs.Yteihffnmgacfpaa.Ne

namespace Go.Proofs.Yteihffnmgacfpaa.Ne
open Go.RowKit Go.V Go.Proofs Go.Sort

/-- Two stops. -/
structure Pr2 where
  a : Int
  b : Int
def pr2 : Cod Pr2 := ⟨2, fun p => [.int .i64 p.a, .int .i64 p.b], fun _ => rfl, by simp [Value.oneCell']⟩
theorem pr2_at {w : World} {a : Option Addr} {n cap : Nat} {l : List Pr2} (h : Sl pr2 w a n cap l) {i : Nat} (hi : i < n) :
   ∃ b off r, a = some ⟨b, off, none⟩ ∧ b < w.heap.size ∧ l[i]? = some r ∧ w.cell? ⟨b, off + i * 2, none⟩ = some (.int .i64 r.a) ∧ w.cell? ⟨b, off + i * 2 + 1, none⟩ = some (.int .i64 r.b) := by
  obtain ⟨b, off, rfl, hb, r, hr, hc⟩ := h.some hi
  exact ⟨b, off, r, rfl, hb, hr, hc 0 _ rfl, hc 1 _ rfl⟩

/-! ### Numbers by their places -/
def fl (f : Nat → Int) (k : Nat) : List Int := (List.range k).map f
theorem fl_len (f : Nat → Int) (k : Nat) : (fl f k).length = k := by unfold fl; rw [List.length_map, List.length_range]
theorem fl_at (f : Nat → Int) {k v : Nat} (hv : v < k) : (fl f k)[v]? = some (f v) := by
  unfold fl
  rw [List.getElem?_map, List.getElem?_range hv]; rfl
theorem fl_congr {f g : Nat → Int} {k : Nat} (h : ∀ v, v < k → f v = g v) : fl f k = fl g k := by
  unfold fl
  exact List.map_congr_left fun v hv => h v (List.mem_range.1 hv)
/-- One more at a place. -/
def ups (f : Nat → Int) (i : Nat) : Nat → Int := fun v => if v = i then f v + 1 else f v
theorem ups_same (f : Nat → Int) (i : Nat) : ups f i i = f i + 1 := if_pos rfl
theorem ups_other (f : Nat → Int) {i v : Nat} (h : v ≠ i) : ups f i v = f v := if_neg h
theorem fl_ups (f : Nat → Int) (k i : Nat) : (fl f k).set i (f i + 1) = fl (ups f i) k := by
  apply List.ext_getElem?
  intro v
  by_cases hv : v < k
  · rw [fl_at _ hv, List.getElem?_set]
    by_cases e : i = v
    · subst e; rw [if_pos rfl, fl_len, if_pos hv, ups_same]
    · rw [if_neg e, fl_at _ hv, ups_other _ (fun q => e q.symm)]
  · rw [List.getElem?_eq_none (by rw [List.length_set, fl_len]; omega), List.getElem?_eq_none (by rw [fl_len]; omega)]
theorem fl_zero (k : Nat) : fl (fun _ => 0) k = List.replicate k 0 := by
  unfold fl
  rw [List.map_const', List.length_range]

/-! ### A way's links -/
def pairHit (l : Lnk) (u v : Int) : Bool := decide (l.a = u ∧ l.b = v ∨ l.b = u ∧ l.a = v)
/-- How often a way's first pairs go along a link. -/
def hits (l : Lnk) (xs : List Int) : Nat → Int
  | 0 => 0
  | c + 1 => hits l xs c + (if pairHit l (xs.getD c 0) (xs.getD (c + 1) 0) = true then 1 else 0)
theorem hits_lim (l : Lnk) (xs : List Int) : ∀ c : Nat, 0 ≤ hits l xs c ∧ hits l xs c ≤ c
  | 0 => ⟨Int.le_refl _, Int.le_refl _⟩
  | c + 1 => by
    have := hits_lim l xs c
    show 0 ≤ hits l xs c + _ ∧ hits l xs c + _ ≤ _
    split <;> omega
def hitsAt (L : List Lnk) (xs : List Int) (c i : Nat) : Int := match L[i]? with | some l => hits l xs c | none => 0
theorem hitsAt_lim (L : List Lnk) (xs : List Int) (c i : Nat) : 0 ≤ hitsAt L xs c i ∧ hitsAt L xs c i ≤ c := by
  unfold hitsAt
  split
  · exact hits_lim _ xs c
  · omega
theorem hitsAt_some {L : List Lnk} {xs : List Int} {c i : Nat} {l : Lnk} (h : L[i]? = some l) : hitsAt L xs c i = hits l xs c := by unfold hitsAt; rw [h]
theorem hitsAt_zero (L : List Lnk) (xs : List Int) (i : Nat) : hitsAt L xs 0 i = 0 := by unfold hitsAt; split <;> rfl
/-- The one link between two stops. -/
theorem pair_at {L : List Lnk} {k : Nat} (hL : LinksOk L k) (hp : L.Pairwise fun a b => aftB a b = true) {u v : Int} (h : wtE L u v ≠ 0) :
    ∃ (e : Nat) (l : Lnk), L[e]? = some l ∧ l.a = min u v ∧ l.b = max u v ∧ pairHit l u v = true ∧ ∀ (i : Nat) (l' : Lnk), L[i]? = some l' → pairHit l' u v = true → i = e := by
  obtain ⟨l, h1, h2, -⟩ := wt_edge h
  obtain ⟨e, he⟩ := List.getElem?_of_mem h1
  have hl := hL l h1
  refine ⟨e, l, he, by omega, by omega, decide_eq_true (by omega), fun i l' hi hh => ?_⟩
  have hh := of_decide_eq_true hh
  have hl' := hL l' (List.mem_of_getElem? hi)
  apply Classical.byContradiction
  intro hne
  have hea := List.getElem?_eq_some_iff.1 he
  have hia := List.getElem?_eq_some_iff.1 hi
  rcases Nat.lt_or_gt_of_ne hne with q | q
  · have := List.pairwise_iff_getElem.1 hp i e hia.1 hea.1 q
    rw [hia.2, hea.2] at this
    simp only [aftB, decide_eq_true_eq] at this
    omega
  · have := List.pairwise_iff_getElem.1 hp e i hea.1 hia.1 q
    rw [hia.2, hea.2] at this
    simp only [aftB, decide_eq_true_eq] at this
    omega
/-- One pair further: the one link has one more. -/
theorem hitsAt_step {L : List Lnk} {xs : List Int} {c e : Nat} {l : Lnk} {u v : Int} (hu : xs.getD c 0 = u) (hv : xs.getD (c + 1) 0 = v) (he : L[e]? = some l) (h1 : pairHit l u v = true) (h2 : ∀ (i : Nat) (l' : Lnk), L[i]? = some l' → pairHit l' u v = true → i = e) (f : Nat → Int) :
    (fun i => f i + hitsAt L xs (c + 1) i) = ups (fun i => f i + hitsAt L xs c i) e := by
  funext i
  by_cases hi : i = e
  · subst hi
    rw [ups_same, hitsAt_some he, hitsAt_some he]
    show f i + (hits l xs c + (if pairHit l (xs.getD c 0) (xs.getD (c + 1) 0) = true then 1 else 0)) = _
    rw [hu, hv, if_pos h1]; omega
  · rw [ups_other _ hi]
    cases hl : L[i]? with
    | none => unfold hitsAt; rw [hl]
    | some l' =>
      rw [hitsAt_some hl, hitsAt_some hl]
      show f i + (hits l' xs c + (if pairHit l' (xs.getD c 0) (xs.getD (c + 1) 0) = true then 1 else 0)) = _
      rw [hu, hv, if_neg (fun q => hi (h2 i l' hl q))]; omega
theorem wRun_all {L : List Lnk} {xs : List Int} : ∀ (c i : Nat) (acc S : Int), wRun L xs c i acc = (S, true) → ∀ j, j < c → wtE L (xs.getD (i + j) 0) (xs.getD (i + j + 1) 0) ≠ 0
  | 0, _, _, _, _, j, hj => absurd hj (by omega)
  | c + 1, i, acc, S, h, j, hj => by
    by_cases hw : wtE L (xs.getD i 0) (xs.getD (i + 1) 0) = 0
    · rw [wRun_stop hw] at h; cases h
    · rw [wRun_step rfl hw] at h
      cases j with
      | zero => exact hw
      | succ j =>
        have := wRun_all c (i + 1) _ S h j (by omega)
        rw [show i + (j + 1) = i + 1 + j by omega]
        exact this
/-- Each pair of a best way has a link. -/
theorem wayL_pair {L : List Lnk} {k : Nat} (hL : LinksOk L k) (hp : L.Pairwise fun a b => aftB a b = true) {a : Int} (ha : 0 ≤ a ∧ a < k) {b : Int} (h0 : 0 ≤ far L k a b) {c : Nat} (hc : c + 1 < (wayL L k a b).length) : wtE L ((wayL L k a b).getD c 0) ((wayL L k a b).getD (c + 1) 0) ≠ 0 := by
  have h := (wayL_good hL hp ha h0).run
  have := wRun_all _ 0 0 _ h c (by omega)
  rw [Nat.zero_add] at this
  exact this

/-! ### Flows -/
structure Fw where
  L : Nat → Int
  on : Nat → Int
  off : Nat → Int
  lost : Int
def Fw.zero : Fw := ⟨fun _ => 0, fun _ => 0, fun _ => 0, 0⟩
/-- As lists. -/
def Fw.fl (F : Fw) (m k : Nat) : Fl := ⟨Ne.fl F.L m, Ne.fl F.on k, Ne.fl F.off k, F.lost⟩
def stepF (n : Net) (k : Nat) (F : Fw) (p : Pr2) : Fw := if wayErr n k p.a p.b = 0 then ⟨fun i => F.L i + hitsAt n.links (wayL n.links k p.a p.b) ((wayL n.links k p.a p.b).length - 1) i, ups F.on p.a.toNat, ups F.off p.b.toNat, F.lost⟩ else { F with lost := F.lost + 1 }
def cntF (n : Net) (k : Nat) (ps : List Pr2) (F : Fw) : Fw := ps.foldl (stepF n k) F
/-- All numbers are small. -/
structure Fw.Lim (F : Fw) (q : Nat) : Prop where
  l : ∀ i, 0 ≤ F.L i ∧ F.L i ≤ q * 30000000000
  n : ∀ i, 0 ≤ F.on i ∧ F.on i ≤ q
  f : ∀ i, 0 ≤ F.off i ∧ F.off i ≤ q
  x : 0 ≤ F.lost ∧ F.lost ≤ q
theorem ups_lim {f : Nat → Int} {q : Nat} (h : ∀ i, 0 ≤ f i ∧ f i ≤ q) (a : Nat) : ∀ i, 0 ≤ ups f a i ∧ ups f a i ≤ ((q + 1 : Nat) : Int) := by
  intro i
  have := h i
  unfold ups
  split <;> omega
theorem Fw.Lim.zero : Fw.zero.Lim 0 := ⟨fun _ => ⟨Int.le_refl _, by simp [Fw.zero]⟩, fun _ => ⟨Int.le_refl _, Int.le_refl _⟩, fun _ => ⟨Int.le_refl _, Int.le_refl _⟩, Int.le_refl _, Int.le_refl _⟩
theorem Fw.Lim.lost {F : Fw} {q : Nat} (h : F.Lim q) : ({ F with lost := F.lost + 1 } : Fw).Lim (q + 1) :=
  ⟨fun i => by have := h.l i; show 0 ≤ F.L i ∧ F.L i ≤ _; omega, fun i => by have := h.n i; show 0 ≤ F.on i ∧ F.on i ≤ _; omega, fun i => by have := h.f i; show 0 ≤ F.off i ∧ F.off i ≤ _; omega, by have := h.x; show 0 ≤ F.lost + 1 ∧ F.lost + 1 ≤ _; omega⟩
theorem Fw.Lim.go {n : Net} {k : Nat} {F : Fw} {q : Nat} {p : Pr2} (h : F.Lim q) (hl : wayErr n k p.a p.b = 0 → (wayL n.links k p.a p.b).length ≤ 30000000000) : (stepF n k F p).Lim (q + 1) := by
  unfold stepF
  split
  · next e =>
    have := hl e
    refine ⟨fun i => ?_, ups_lim h.n _, ups_lim h.f _, ?_⟩
    · have h1 := h.l i
      have h2 := hitsAt_lim n.links (wayL n.links k p.a p.b) ((wayL n.links k p.a p.b).length - 1) i
      show 0 ≤ F.L i + hitsAt _ _ _ i ∧ F.L i + hitsAt _ _ _ i ≤ _
      omega
    · have := h.x
      show 0 ≤ F.lost ∧ F.lost ≤ _
      omega
  · exact h.lost
theorem cntF_snoc {n : Net} {k : Nat} {ps : List Pr2} {F : Fw} {j : Nat} {p : Pr2} (h : ps[j]? = some p) : cntF n k (ps.take (j + 1)) F = stepF n k (cntF n k (ps.take j) F) p := by
  unfold cntF
  rw [take_at h, List.foldl_append]; rfl
end Go.Proofs.Yteihffnmgacfpaa.Ne
