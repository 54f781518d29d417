/- Costs: a step's cost, walked. -/
/- Costs: the square of a stop's point, walked, both sides. -/
/- Networks: viterbi: the lesser of two costs, walked. -/
import Derived.Test.YtlfbbahihenilaaGreatMg19
namespace Go.Proofs.YtlfbbahihenilaaGreat.Ne
open Go.RowKit Go.V Go.Proofs Go.Sort Go.Maps

/-! ### A step -/
/-- What it costs to come from a stop to another one. -/
def stepE (n : Net) (k : Nat) (x : Wgh) (a b : Int) : Int := if mayW x = true ∧ 0 ≤ tfarE n k a b then (if a = b then 0 else tfarE n k a b * x.factor + x.change) else -1
theorem mul_in {f x : Int} (hf : 0 ≤ f ∧ f ≤ 15099480000) (hx : 0 ≤ x ∧ x ≤ 1024) : 0 ≤ f * x ∧ f * x ≤ 15461867520000 := by
  have h1 : 0 ≤ f * x := Int.mul_nonneg hf.1 hx.1
  have h2 : f * x ≤ f * 1024 := Int.mul_le_mul_of_nonneg_left hx.2 hf.1
  omega
theorem stepE_in {n : Net} {k : Nat} (hok : checkE n = 0) (hk : k = n.stops.length) (h60 : k ≤ 60) (h120 : n.links.length ≤ 120) (x : Wgh) (a b : Int) : -1 ≤ stepE n k x a b ∧ stepE n k x a b ≤ 15461868568576 := by
  unfold stepE
  split
  · next h =>
    split
    · omega
    · have h1 := mayW_in h.1
      have h2 := mul_in ⟨h.2, tfar_few hok hk h60 h120 a b⟩ h1.1
      omega
  · omega

set_option maxHeartbeats 4000000 in
set_option maxRecDepth 100000 in
theorem cstep_gen (w : World) (base tg mg N : Nat) (n : Net) (hs hl : Hdr) (x : Wgh) (a b : Int) (h : TabIn w base tg mg N n hs hl) (hok : checkE n = 0) (h60 : hs.n ≤ 60) (h120 : hl.n ≤ 120) (hN : N ≤ 1000000) (hne : tg ≠ mg) :
    Calls Tryz.prog 57 #[.pointer (some ⟨tg, 0, none⟩), x.val, .int .i64 a, .int .i64 b] w fun e w' => e = .returned (.int .i64 (stepE n hs.n x a b)) ∧ TabIn w' base tg mg (N + 1) n hs hl ∧ ChgT w w' mg := by
  obtain ⟨xr, xm, xf, xc⟩ := x
  have HT := Lib.hid h
  have HOK := Lib.hid hok
  have hkn : hs.n = n.stops.length := h.netIn.s.hlen
  have hln : hl.n = n.links.length := h.netIn.l.hlen
  have HFW := Lib.hid (tfar_few hok hkn h60 (by omega) a b)
  have HX := Lib.hid (box_new w (Wgh.mk xr xm xf xc).box)
  have hmb := h.mg_lt
  obtain ⟨W, hW⟩ : ∃ W, w.alloc (Wgh.mk xr xm xf xc).box = W := ⟨_, rfl⟩
  have HB : Hid (Below w.heap.size w W) := by rw [← hW]; exact (Below.refl _ _).alloc (Nat.le_refl _) _
  rw [hW] at HX
  have HTW := Lib.hid (h.below HB.out)
  obtain ⟨d, hd⟩ : ∃ d, tfarE n hs.n a b = d := ⟨_, rfl⟩
  have HD := Lib.hid hd
  rw [hd] at HFW
  obtain ⟨bm, hbm⟩ : ∃ bm, mayW ⟨xr, xm, xf, xc⟩ = bm := ⟨_, rfl⟩
  have HBM := Lib.hid hbm
  clear h hok hkn hln hd hbm
  go_enter Tryz.func57, Tryz.ntmps57
  go_upto_region 2 with (go_at_call 88; refine (tfar_gen _ base tg mg N n hs hl a b HTW.out HOK.out hN hne).mono ?_; rintro e w2 ⟨rfl, ht2, hc2⟩; rw [HD.out]; have HT2 := Lib.hid ht2; have HX2 := Lib.hid (hc2.chg.box HX.out (by omega) (by simp)); have HC2 : Hid (ChgT w w2 mg) := (ChgT.of_below HB.out hmb).trans hc2; have hmb2 : mg < w2.heap.size := Nat.lt_of_lt_of_le hmb HC2.out.chg.size; clear ht2 hc2)
  obtain ⟨c0, c1, c2, c3⟩ := box4_cells HX2.out
  clear HX
  cases bm with
  | false =>
    have hE : stepE n hs.n ⟨xr, xm, xf, xc⟩ a b = -1 := by unfold stepE; rw [HBM.out, if_neg (by simp)]
    have HE := Lib.hid hE
    clear hE
    go_wp2_with (go_at_call 29; refine (cmay_any ⟨xr, xm, xf, xc⟩ _).mono ?_; rintro e w3 ⟨rfl, hb3⟩; rw [HBM.out]; have HT3 := Lib.hid (HT2.out.below hb3); have HC3 := Lib.hid (HC2.out.trans (ChgT.of_below hb3 hmb2)); clear hb3)
    go_ret
    exact ⟨by rw [HE.out]; rfl, HT3.out, HC3.out⟩
  | true =>
    by_cases hdn : d < 0
    · have hE : stepE n hs.n ⟨xr, xm, xf, xc⟩ a b = -1 := by unfold stepE; rw [HD.out, if_neg (by omega)]
      have HE := Lib.hid hE
      clear hE
      go_wp2_with (go_at_call 29; refine (cmay_any ⟨xr, xm, xf, xc⟩ _).mono ?_; rintro e w3 ⟨rfl, hb3⟩; rw [HBM.out]; have HT3 := Lib.hid (HT2.out.below hb3); have HC3 := Lib.hid (HC2.out.trans (ChgT.of_below hb3 hmb2)); clear hb3)
      go_ret
      exact ⟨by rw [HE.out]; rfl, HT3.out, HC3.out⟩
    · have dd : decide (d < 0) = false := decide_eq_false hdn
      by_cases hab : a = b
      · have hE : stepE n hs.n ⟨xr, xm, xf, xc⟩ a b = 0 := by unfold stepE; rw [HD.out, HBM.out, if_pos ⟨rfl, by omega⟩, if_pos hab]
        have HE := Lib.hid hE
        clear hE
        subst hab
        go_wp2_with (go_at_call 29; refine (cmay_any ⟨xr, xm, xf, xc⟩ _).mono ?_; rintro e w3 ⟨rfl, hb3⟩; rw [HBM.out]; have HT3 := Lib.hid (HT2.out.below hb3); have HC3 := Lib.hid (HC2.out.trans (ChgT.of_below hb3 hmb2)); clear hb3)
        go_ret
        exact ⟨by rw [HE.out]; rfl, HT3.out, HC3.out⟩
      · have hE : stepE n hs.n ⟨xr, xm, xf, xc⟩ a b = d * xf + xc := by unfold stepE; rw [HD.out, HBM.out, if_pos ⟨rfl, by omega⟩, if_neg hab]
        have HE := Lib.hid hE
        have hab' : (a == b) = false := by simpa using hab
        have hm1 := mayW_in HBM.out
        have hm2 := mul_in ⟨by omega, HFW.out⟩ hm1.1
        simp only [] at hm1 hm2
        have hw1 : IntKind.i64.wrap (d * xf) = d * xf := IntWalk.i64_in _ (by omega)
        have hw2 : IntKind.i64.wrap (d * xf + xc) = d * xf + xc := IntWalk.i64_in _ (by omega)
        clear hE
        go_wp2_with (go_at_call 29; refine (cmay_any ⟨xr, xm, xf, xc⟩ _).mono ?_; rintro e w3 ⟨rfl, hb3⟩; rw [HBM.out]; have HT3 := Lib.hid (HT2.out.below hb3); have HX3 := Lib.hid (box_below HX2.out hb3); obtain ⟨e0, e1, e2, e3⟩ := box4_cells HX3.out; have HC3 := Lib.hid (HC2.out.trans (ChgT.of_below hb3 hmb2)); clear hb3)
        go_ret
        exact ⟨by rw [HE.out]; rfl, HT3.out, HC3.out⟩
theorem cstep_any (w : World) (base tg mg N : Nat) (n : Net) (hs hl : Hdr) (x : Wgh) (a b : Int) (h : TabIn w base tg mg N n hs hl) (hok : checkE n = 0) (h60 : hs.n ≤ 60) (h120 : hl.n ≤ 120) (hN : N ≤ 1000000) (hne : tg ≠ mg) :
    Calls Tryz.prog 57 #[.pointer (some ⟨tg, 0, none⟩), x.val, .int .i64 a, .int .i64 b] w fun e w' => e = .returned (.int .i64 (stepE n hs.n x a b)) ∧ TabIn w' base tg mg (N + 1) n hs hl ∧ Chg w w' mg none :=
  (cstep_gen w base tg mg N n hs hl x a b h hok h60 h120 hN hne).mono fun _ _ ⟨h1, h2, h3⟩ => ⟨h1, h2, h3.chg⟩

set_option maxHeartbeats 4000000 in
set_option maxRecDepth 100000 in
theorem rstep_any (n : Net) (hs hl : Hdr) (x : Wgh) (a b : Int) (w : World) (h : NetIn w n hs hl) (hok : checkE n = 0) (h60 : hs.n ≤ 60) (h120 : hl.n ≤ 120) :
    Calls Tryz.prog 93 #[n.val hs hl, x.val, .int .i64 a, .int .i64 b] w fun e w' => e = .returned (.int .i64 (stepE n hs.n x a b)) ∧ Below w.heap.size w w' := by
  obtain ⟨xr, xm, xf, xc⟩ := x
  have HOK := Lib.hid hok
  have hkn : hs.n = n.stops.length := h.s.hlen
  have hln : hl.n = n.links.length := h.l.hlen
  have HFW := Lib.hid (tfar_few hok hkn h60 (by omega) a b)
  have HX0 := Lib.hid (box_new w (n.box hs hl))
  have HX := Lib.hid (box_new (w.alloc (n.box hs hl)) (Wgh.mk xr xm xf xc).box)
  have HX0' := Lib.hid (box_alloc (o := (Wgh.mk xr xm xf xc).box) HX0.out)
  obtain ⟨W, hW⟩ : ∃ W, (w.alloc (n.box hs hl)).alloc (Wgh.mk xr xm xf xc).box = W := ⟨_, rfl⟩
  have HB : Hid (Below w.heap.size w W) := by rw [← hW]; exact ((Below.refl _ _).alloc (Nat.le_refl _) _).alloc (by simp) _
  have hsz : (w.alloc (n.box hs hl)).heap.size = w.heap.size + 1 := by simp
  rw [hW, hsz] at HX
  rw [hW] at HX0'
  have HH := Lib.hid (h.below HB.out)
  obtain ⟨d, hd⟩ : ∃ d, tfarE n hs.n a b = d := ⟨_, rfl⟩
  have HD := Lib.hid hd
  rw [hd] at HFW
  obtain ⟨bm, hbm⟩ : ∃ bm, mayW ⟨xr, xm, xf, xc⟩ = bm := ⟨_, rfl⟩
  have HBM := Lib.hid hbm
  obtain ⟨n0, n1, n2, -, -, -⟩ := box3_cells HX0'.out
  clear h hok hkn hln hd hbm HX0
  go_enter Tryz.func93, Tryz.ntmps93
  go_upto_region 2 with (go_at_call 110; refine (rfar_any n hs hl a b _ HH.out HOK.out h60 h120).mono ?_; rintro e w2 ⟨rfl, hb2⟩; rw [HD.out]; have HX2 := Lib.hid (box_below HX.out hb2); have HB2 := Lib.hid (HB.out.trans (hb2.mono HB.out.size)); clear hb2)
  obtain ⟨c0, c1, c2, c3⟩ := box4_cells HX2.out
  clear HX n0 n1 n2 HX0'
  cases bm with
  | false =>
    have hE : stepE n hs.n ⟨xr, xm, xf, xc⟩ a b = -1 := by unfold stepE; rw [HBM.out, if_neg (by simp)]
    have HE := Lib.hid hE
    clear hE
    go_wp2_with (go_at_call 31; refine (rcmay_any ⟨xr, xm, xf, xc⟩ _).mono ?_; rintro e w3 ⟨rfl, hb3⟩; rw [HBM.out]; have HB3 := Lib.hid (HB2.out.trans (hb3.mono HB2.out.size)); clear hb3)
    go_ret
    exact ⟨by rw [HE.out]; rfl, HB3.out⟩
  | true =>
    by_cases hdn : d < 0
    · have hE : stepE n hs.n ⟨xr, xm, xf, xc⟩ a b = -1 := by unfold stepE; rw [HD.out, if_neg (by omega)]
      have HE := Lib.hid hE
      clear hE
      go_wp2_with (go_at_call 31; refine (rcmay_any ⟨xr, xm, xf, xc⟩ _).mono ?_; rintro e w3 ⟨rfl, hb3⟩; rw [HBM.out]; have HB3 := Lib.hid (HB2.out.trans (hb3.mono HB2.out.size)); clear hb3)
      go_ret
      exact ⟨by rw [HE.out]; rfl, HB3.out⟩
    · have dd : decide (d < 0) = false := decide_eq_false hdn
      by_cases hab : a = b
      · have hE : stepE n hs.n ⟨xr, xm, xf, xc⟩ a b = 0 := by unfold stepE; rw [HD.out, HBM.out, if_pos ⟨rfl, by omega⟩, if_pos hab]
        have HE := Lib.hid hE
        clear hE
        subst hab
        go_wp2_with (go_at_call 31; refine (rcmay_any ⟨xr, xm, xf, xc⟩ _).mono ?_; rintro e w3 ⟨rfl, hb3⟩; rw [HBM.out]; have HB3 := Lib.hid (HB2.out.trans (hb3.mono HB2.out.size)); clear hb3)
        go_ret
        exact ⟨by rw [HE.out]; rfl, HB3.out⟩
      · have hE : stepE n hs.n ⟨xr, xm, xf, xc⟩ a b = d * xf + xc := by unfold stepE; rw [HD.out, HBM.out, if_pos ⟨rfl, by omega⟩, if_neg hab]
        have HE := Lib.hid hE
        have hab' : (a == b) = false := by simpa using hab
        have hm1 := mayW_in HBM.out
        have hm2 := mul_in ⟨by omega, HFW.out⟩ hm1.1
        simp only [] at hm1 hm2
        have hw1 : IntKind.i64.wrap (d * xf) = d * xf := IntWalk.i64_in _ (by omega)
        have hw2 : IntKind.i64.wrap (d * xf + xc) = d * xf + xc := IntWalk.i64_in _ (by omega)
        clear hE
        go_wp2_with (go_at_call 31; refine (rcmay_any ⟨xr, xm, xf, xc⟩ _).mono ?_; rintro e w3 ⟨rfl, hb3⟩; rw [HBM.out]; have HX3 := Lib.hid (box_below HX2.out hb3); obtain ⟨e0, e1, e2, e3⟩ := box4_cells HX3.out; have HB3 := Lib.hid (HB2.out.trans (hb3.mono HB2.out.size)); clear hb3)
        go_ret
        exact ⟨by rw [HE.out]; rfl, HB3.out⟩
end Go.Proofs.YtlfbbahihenilaaGreat.Ne

namespace Go.V
open Go.RowKit

/-- What a slice reads as that may be empty at any address. -/
structure SlQ {α : Type} (c : Cod α) (w : World) (a : Option Addr) (n cap : Nat) (xs : List α) : Prop where
  hlen : n = xs.length
  hcap : n ≤ cap
  hmax : cap ≤ maxLen
  hat : 0 < n → Sl c w a n cap xs
theorem SlQ.below {α : Type} {c : Cod α} {w w' : World} {a : Option Addr} {n cap : Nat} {xs : List α} (h : SlQ c w a n cap xs) (hb : Below w.heap.size w w') : SlQ c w' a n cap xs := ⟨h.hlen, h.hcap, h.hmax, fun hn => (h.hat hn).below hb⟩
theorem Sl.q {α : Type} {c : Cod α} {w : World} {a : Option Addr} {n cap : Nat} {xs : List α} (h : Sl c w a n cap xs) : SlQ c w a n cap xs := ⟨h.hlen, h.hcap, h.hmax, fun _ => h⟩
end Go.V
namespace Go.Proofs.YtlfbbahihenilaaGreat.Ne
open Go.RowKit Go.V Go.Proofs Go.Sort Go.Maps

structure Pnt where
  stop : Int
  sq : Int
def pcod : Cod Pnt := ⟨2, fun p => [.int .i64 p.stop, .int .i64 p.sq], fun _ => rfl, by simp [Value.oneCell']⟩
abbrev Pnt.val (p : Pnt) : Value := .agg #[.int .i64 p.stop, .int .i64 p.sq]
theorem pnt_at {w : World} {a : Option Addr} {n cap : Nat} {l : List Pnt} (h : SlQ pcod w a n cap l) {i : Nat} (hi : i < n) :
   ∃ b off r, a = some ⟨b, off, none⟩ ∧ b < w.heap.size ∧ l[i]? = some r ∧ w.cell? ⟨b, off + i * 2, none⟩ = some (.int .i64 r.stop) ∧ w.cell? ⟨b, off + i * 2 + 1, none⟩ = some (.int .i64 r.sq) := by
  obtain ⟨b, off, rfl, hb, r, hr, hc⟩ := (h.hat (by omega)).some hi
  exact ⟨b, off, r, rfl, hb, hr, hc 0 _ rfl, hc 1 _ rfl⟩
/-- A stop's point's square. -/
def sqE : List Pnt → Int → Int × Bool
  | [], _ => (0, false)
  | p :: l, s => if p.stop = s then (p.sq, true) else sqE l s
theorem sqE_drop {l : List Pnt} {s : Int} {k : Nat} (h : ∀ j p, j < k → l[j]? = some p → p.stop ≠ s) : sqE l s = sqE (l.drop k) s := by
  induction k generalizing l with
  | zero => rfl
  | succ k ih =>
    cases l with
    | nil => rfl
    | cons p l =>
      have h0 := h 0 p (by omega) rfl
      show (if p.stop = s then (p.sq, true) else sqE l s) = sqE (l.drop k) s
      rw [if_neg h0]
      exact ih (fun j q hj hq => h (j + 1) q (by omega) (by simpa using hq))
theorem sqE_found {l : List Pnt} {s : Int} {k : Nat} {p : Pnt} (h : ∀ j p, j < k → l[j]? = some p → p.stop ≠ s) (hp : l[k]? = some p) (hs : p.stop = s) : sqE l s = (p.sq, true) := by
  rw [sqE_drop h, List.drop_eq_getElem?_toList_append, hp]
  simp [sqE, hs]
theorem sqE_none {l : List Pnt} {s : Int} (h : ∀ j p, j < l.length → l[j]? = some p → p.stop ≠ s) : sqE l s = (0, false) := by
  rw [sqE_drop h, List.drop_length]; rfl
theorem ne_next {l : List Pnt} {s : Int} {k : Nat} {p : Pnt} (h : ∀ j p, j < k → l[j]? = some p → p.stop ≠ s) (hp : l[k]? = some p) (hs : p.stop ≠ s) : ∀ j p, j < k + 1 → l[j]? = some p → p.stop ≠ s := by
  intro j q hj hq
  by_cases e : j = k
  · subst e; rw [hp] at hq; cases hq; exact hs
  · exact h j q (by omega) hq

set_option maxHeartbeats 400000 in
theorem csq1_any (p : Pnt) (s : Int) (g : Nat) (w : World) (hg : w.cell? ⟨g, 0, none⟩ = some (.int .i64 s)) : Calls Tryz.prog 87 #[p.val, .pointer (some ⟨g, 0, none⟩)] w fun e w' => e = .returned (.bool (decide (p.stop = s))) ∧ Below w.heap.size w w' := by
  obtain ⟨ps, pq⟩ := p
  have hgl := World.block_lt_of_cell? w _ hg
  have hgl : g < w.heap.size := hgl
  by_cases h : ps = s
  · go_enter Tryz.func87, Tryz.ntmps87
    go_wp2
    go_ret
    exact ⟨ret_bool (by simp), (Below.refl _ _).alloc (Nat.le_refl _) _⟩
  · have h' : (ps == s) = false := by simpa using h
    go_enter Tryz.func87, Tryz.ntmps87
    go_wp2
    go_ret
    exact ⟨ret_bool (by simp), (Below.refl _ _).alloc (Nat.le_refl _) _⟩

set_option maxHeartbeats 1000000 in
theorem pindex_any (a : Option Addr) (n cap : Nat) (l : List Pnt) (s : Int) (g : Nat) (w : World) (h : SlQ pcod w a n cap l) (hg : w.cell? ⟨g, 0, none⟩ = some (.int .i64 s)) :
    Calls Tryz.prog 86 #[.slice a n cap, .func (.func 87) #[] #[.pointer (some ⟨g, 0, none⟩)]] w fun e w' => Below w.heap.size w w' ∧ ((e = .returned (.int .i64 (-1)) ∧ sqE l s = (0, false)) ∨ ∃ (i : Nat) (p : Pnt), e = .returned (.int .i64 i) ∧ i < n ∧ l[i]? = some p ∧ sqE l s = (p.sq, true)) := by
  have hn : n ≤ 9223372036854775807 := by have := h.hcap; have := h.hmax; unfold maxLen at this; omega
  have hgl : g < w.heap.size := World.block_lt_of_cell? w _ hg
  have HG := Lib.hid hg
  have HH := Lib.hid h
  clear hg h
  go_enter Tryz.func86, Tryz.ntmps86
  go_wp2_with fail
  go_loopw [8] (fun i wr => ∃ k : Nat, i = .int .i64 k ∧ k ≤ n ∧ Hid (∀ j p, j < k → l[j]? = some p → p.stop ≠ s) ∧ Hid (Below w.heap.size w wr)) (fun i _ => n - (intOf i).toNat)
  case atStart => exact ⟨0, rfl, by omega, fun j p hj => absurd hj (by omega), Below.refl _ _⟩
  case round =>
    obtain ⟨k, rfl, hk, hall, hB⟩ := hrel
    by_cases hlt : k < n
    · obtain ⟨b, off, r, rfl, hbl, hr, c0, c1⟩ := pnt_at (HH.out.below hB.out) hlt
      have HR := Lib.hid hr
      have HGr : Hid (wr.cell? ⟨g, 0, none⟩ = some (.int .i64 s)) := ((bcell hB.out).1 g 0 hgl).trans HG.out
      obtain ⟨bb, hbb⟩ : ∃ bb, decide (r.stop = s) = bb := ⟨_, rfl⟩
      have HBB := Lib.hid hbb
      clear hr hbb
      have e0 : (Value.agg #[.int .i64 r.stop, .int .i64 r.sq]) = r.val := rfl
      cases bb with
      | false =>
        go_wp2_with (go_at_call 87; refine (csq1_any r s g _ HGr.out).mono ?_; rintro e w1 ⟨rfl, hb1⟩; rw [HBB.out]; have HB1 := Lib.hid (hB.out.trans (hb1.mono hB.out.size)); clear hb1)
        go_roundw
        case rel => exact ⟨k + 1, by go_num, by omega, ne_next hall.out HR.out (of_decide_eq_false HBB.out), HB1.out⟩
        case measure => simp [intOf]; omega
      | true =>
        go_wp2_with (go_at_call 87; refine (csq1_any r s g _ HGr.out).mono ?_; rintro e w1 ⟨rfl, hb1⟩; rw [HBB.out]; have HB1 := Lib.hid (hB.out.trans (hb1.mono hB.out.size)); clear hb1)
        go_ret
        exact ⟨HB1.out, .inr ⟨k, r, rfl, hlt, HR.out, sqE_found hall.out HR.out (of_decide_eq_true HBB.out)⟩⟩
    · have hk' : n = k := by omega
      subst hk'
      go_wp2_with fail
      go_ret
      exact ⟨hB.out, .inl ⟨rfl, sqE_none (by have e : n = l.length := HH.out.hlen; rw [← e]; exact hall.out)⟩⟩

set_option maxHeartbeats 1000000 in
theorem csquare_any (a : Option Addr) (n cap : Nat) (l : List Pnt) (s : Int) (w : World) (h : SlQ pcod w a n cap l) :
    Calls Tryz.prog 56 #[.slice a n cap, .int .i64 s] w fun e w' => e = .returned (.tuple #[.int .i64 (sqE l s).1, .bool (sqE l s).2]) ∧ Below w.heap.size w w' := by
  have hn : n ≤ 9223372036854775807 := by have := h.hcap; have := h.hmax; unfold maxLen at this; omega
  have HX := Lib.hid (box_new w (.cells #[.int .i64 s] 3))
  have HB0 : Hid (Below w.heap.size w (w.alloc (.cells #[.int .i64 s] 3))) := (Below.refl _ _).alloc (Nat.le_refl _) _
  have HH := Lib.hid h
  obtain ⟨W, hW⟩ : ∃ W, w.alloc (.cells #[.int .i64 s] 3) = W := ⟨_, rfl⟩
  rw [hW] at HX HB0
  have HC : Hid (W.cell? ⟨w.heap.size, 0, none⟩ = some (.int .i64 s)) := (box_cell HX.out 0).1
  clear h
  go_enter Tryz.func56, Tryz.ntmps56
  go_upto_region 2 with (go_at_call 86; go_loud (refine (pindex_any a n cap l s w.heap.size _ (HH.out.below HB0.out) HC.out).mono ?_); rintro e w1 ⟨hb1, hr⟩; have HB1 := Lib.hid (HB0.out.trans (hb1.mono HB0.out.size)); obtain ⟨i, rfl, hi⟩ : ∃ i : Int, e = .returned (.int .i64 i) ∧ ((i = -1 ∧ sqE l s = (0, false)) ∨ ∃ (j : Nat) (p : Pnt), i = j ∧ j < n ∧ l[j]? = some p ∧ sqE l s = (p.sq, true)) := (by
    rcases hr with ⟨rfl, h2⟩ | ⟨j, p, rfl, h2⟩
    · exact ⟨-1, rfl, .inl ⟨rfl, h2⟩⟩
    · exact ⟨j, rfl, .inr ⟨j, p, rfl, h2⟩⟩); have HI := Lib.hid hi; clear hb1 hr hi)
  rcases HI.out with ⟨rfl, h2⟩ | ⟨j, p, rfl, h2, h3, h4⟩
  · have HE := Lib.hid h2
    clear h2
    go_wp2_with fail
    go_ret2
    rw [HE.out]
    exact ⟨rfl, HB1.out⟩
  · obtain ⟨b, off, r, rfl, hbl, hr, c0, c1⟩ := pnt_at (HH.out.below HB1.out) h2
    rw [h3] at hr
    cases hr
    have dj : decide ((j : Int) < 0) = false := by simp
    have HE := Lib.hid h4
    clear h3 h4
    go_wp2_with fail
    go_ret2
    rw [HE.out]
    exact ⟨rfl, HB1.out⟩

set_option maxHeartbeats 1000000 in
theorem rsquare_any (a : Option Addr) (n cap : Nat) (l : List Pnt) (s : Int) (w : World) (h : SlQ pcod w a n cap l) :
    Calls Tryz.prog 92 #[.slice a n cap, .int .i64 s] w fun e w' => e = .returned (.tuple #[.int .i64 (sqE l s).1, .bool (sqE l s).2]) ∧ w = w' := by
  have hn : n ≤ 9223372036854775807 := by have := h.hcap; have := h.hmax; unfold maxLen at this; omega
  have HH := Lib.hid h
  clear h
  go_enter Tryz.func92, Tryz.ntmps92
  go_wp2_with fail
  go_loop [6] (fun i => ∃ k : Nat, i = .int .i64 k ∧ k ≤ n ∧ Hid (∀ j p, j < k → l[j]? = some p → p.stop ≠ s)) (fun i => n - (intOf i).toNat)
  case atStart => exact ⟨0, by go_num, by omega, fun j p hj => absurd hj (by omega)⟩
  case round =>
    obtain ⟨k, rfl, hk, hall⟩ := hrel
    by_cases hlt : k < n
    · obtain ⟨b, off, r, rfl, hbl, hr, c0, c1⟩ := pnt_at HH.out hlt
      have HR := Lib.hid hr
      clear hr
      by_cases hs : r.stop = s
      · have HE := Lib.hid (sqE_found hall.out HR.out hs)
        go_wp2_with fail
        go_ret2
        rw [HE.out]
        exact ⟨rfl, rfl⟩
      · have hs' : (r.stop == s) = false := by simpa using hs
        go_wp2_with fail
        go_round
        case rel => exact ⟨k + 1, by go_num, by omega, ne_next hall.out HR.out hs⟩
        case measure => simp [intOf]; omega
    · have hk' : n = k := by omega
      subst hk'
      have HE := Lib.hid (sqE_none (l := l) (s := s) (by have e : n = l.length := HH.out.hlen; rw [← e]; exact hall.out))
      go_wp2_with fail
      go_ret2
      rw [HE.out]
      exact ⟨rfl, rfl⟩
end Go.Proofs.YtlfbbahihenilaaGreat.Ne

namespace Go.Proofs.YtlfbbahihenilaaGreat.Ne
open Go.RowKit Go.V Go.Proofs Go.Sort

def lessE (a b : Int) : Int := if a < 0 ∨ 0 ≤ b ∧ b < a then b else a

set_option maxHeartbeats 1000000 in
theorem vless_any (a b : Int) (w : World) : Calls Tryz.prog 98 #[.int .i64 a, .int .i64 b] w fun e w' => e = .returned (.int .i64 (lessE a b)) ∧ Below w.heap.size w w' := by
  obtain ⟨r, hr⟩ : ∃ r, lessE a b = r := ⟨_, rfl⟩
  have HR := Lib.hid hr
  rw [hr]
  clear hr
  by_cases h1 : a < 0
  · have hz : b = r := by rw [← HR.out]; exact (if_pos (.inl h1)).symm
    subst hz
    go_enter Tryz.func98, Tryz.ntmps98
    go_wp2_with fail
    go_ret
    exact ⟨rfl, Below.refl _ _⟩
  · by_cases h2 : 0 ≤ b
    · by_cases h3 : b < a
      · have hz : b = r := by rw [← HR.out]; exact (if_pos (.inr ⟨h2, h3⟩)).symm
        subst hz
        go_enter Tryz.func98, Tryz.ntmps98
        go_wp2_with fail
        go_ret
        exact ⟨rfl, Below.refl _ _⟩
      · have hz : a = r := by rw [← HR.out]; exact (if_neg (by omega)).symm
        subst hz
        go_enter Tryz.func98, Tryz.ntmps98
        go_wp2_with fail
        go_ret
        exact ⟨rfl, Below.refl _ _⟩
    · have hz : a = r := by rw [← HR.out]; exact (if_neg (by omega)).symm
      subst hz
      go_enter Tryz.func98, Tryz.ntmps98
      go_wp2_with fail
      go_ret
      exact ⟨rfl, Below.refl _ _⟩

set_option maxHeartbeats 1000000 in
theorem vown_any (a : Option Addr) (n cap : Nat) (l : List Pnt) (i : Nat) (p : Pnt) (w : World) (h : SlQ pcod w a n cap l) (hi : i < n) (hp : l[i]? = some p) :
    Calls Tryz.prog 99 #[.slice a n cap, .int .i64 i] w fun e w' => e = .returned (.int .i64 (sqE l p.stop).1) ∧ Below w.heap.size w w' := by
  have HH := Lib.hid h
  obtain ⟨b, off, r, rfl, hbl, hr, c0, c1⟩ := pnt_at h hi
  rw [hp] at hr
  cases hr
  have hii : (i : Int) < (n : Int) := by omega
  clear h hp
  go_enter Tryz.func99, Tryz.ntmps99
  go_wp2_with (go_at_call 56; go_loud (refine (csquare_any (some ⟨b, off, none⟩) n cap l p.stop w HH.out).mono ?_); rintro e w1 ⟨rfl, hb1⟩; have HB1 := Lib.hid hb1; clear hb1)
  go_ret
  exact ⟨rfl, HB1.out⟩
end Go.Proofs.YtlfbbahihenilaaGreat.Ne
