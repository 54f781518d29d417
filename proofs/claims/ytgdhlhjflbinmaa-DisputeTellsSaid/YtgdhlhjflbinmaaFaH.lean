/- Fares: what a group costs. -/
/- Fares: a group's cost. -/
import Derived.Test.YtgdhlhjflbinmaaFaF
namespace Go.Proofs.Ytgdhlhjflbinmaa
open Go.RowKit Go.V Go.Proofs

def baseOf (t : Tar) (far : Int) : Int := if far < 0 then t.full else bandFind t.bands t.over far
def costOf (t : Tar) (s far : Int) : Int := baseOf t far * s / 1000 / t.unit * t.unit

/-- What a right tariff is like. -/
theorem tarOk_all {t : Tar} (h : tarOk t = true) : bandOk t.bands t.over = true ∧ (0 ≤ t.full ∧ t.full ≤ 16777216) ∧ sharesOk t.shares = true ∧ (1 ≤ t.unit ∧ t.unit ≤ 16777216) ∧ (0 ≤ t.window ∧ t.window ≤ 1099511627776) ∧ (1 ≤ t.chain ∧ t.chain ≤ 16) ∧ rungsOk t.rungs = true := by
  unfold tarOk at h
  simp only [Bool.and_eq_true] at h
  obtain ⟨⟨⟨⟨⟨⟨⟨h1, h2⟩, h3⟩, h4⟩, h5⟩, h6⟩, h7⟩, h8⟩ := h
  exact ⟨h2, of_decide_eq_true h3, h4, of_decide_eq_true h5, of_decide_eq_true h6, of_decide_eq_true h7, h8⟩
theorem baseOf_in {t : Tar} (h : tarOk t = true) (far : Int) : 0 ≤ baseOf t far ∧ baseOf t far ≤ 16777216 := by
  obtain ⟨h1, h2, -⟩ := tarOk_all h
  unfold baseOf
  split
  · exact h2
  · unfold bandOk at h1
    rw [Bool.and_eq_true] at h1
    obtain ⟨g1, -, g3, g4⟩ := bandGo_all _ _ _ h1.2
    refine bandFind_in t.bands t.over far (fun x hx => ?_) (by simp only at g3; exact g3) g4
    have := g1 x hx
    simp only at this; omega
theorem part_in {p s : Int} (hp : 0 ≤ p ∧ p ≤ 16777216) (hs : 0 ≤ s ∧ s ≤ 1000) : 0 ≤ p * s / 1000 ∧ p * s / 1000 ≤ p := by
  have h1 : 0 ≤ p * s := Int.mul_nonneg hp.1 hs.1
  have h2 : p * s ≤ p * 1000 := Int.mul_le_mul_of_nonneg_left hs.2 hp.1
  omega
theorem unit_in {p u : Int} (hp : 0 ≤ p) (hu : 1 ≤ u) : 0 ≤ p / u * u ∧ p / u * u ≤ p :=
  ⟨Int.mul_nonneg (Int.ediv_nonneg hp (by omega)) (by omega), Int.ediv_mul_le p (by omega)⟩
theorem costOf_in {t : Tar} (h : tarOk t = true) {s : Int} (hs : 0 ≤ s ∧ s ≤ 1000) (far : Int) : 0 ≤ costOf t s far ∧ costOf t s far ≤ 16777216 := by
  have h1 := baseOf_in h far
  have h2 := part_in h1 hs
  have h3 := unit_in h2.1 (tarOk_all h).2.2.2.1.1
  unfold costOf; omega

set_option maxHeartbeats 1000000 in
theorem cost1_any (t : Tar) (hb hs hr : Hdr) (g : Nat) (far : Int) (w : World) (hm : hb.n ≤ 1000000) (hok : tarOk t = true) (hf : -1 ≤ far ∧ far ≤ 4294967296) (h : TarIn w t hb hs hr) (hg : TarBox 26 w g t hb hs hr) :
    Calls Try.prog 52 #[.int .i64 far, .pointer (some ⟨g, 0, none⟩)] w fun e w' => e = .returned (.tuple #[.int .i64 (baseOf t far), .int .i64 0]) ∧ Below w.heap.size w w' := by
  obtain ⟨kk, k0, k1, k2, k3, k4, k5, k6, k7, k8⟩ := hg.cells
  have hbo := (tarOk_all hok).1
  have hB : Hid (TarIn w t hb hs hr) := h
  go_enter Try.func52, Try.ntmps52
  by_cases c : far < 0
  · go_wp2_with fail
    go_ret2
    exact ⟨by unfold baseOf; rw [if_pos c]; rfl, Below.refl _ _⟩
  · go_wp2_with (go_at_call 53; refine (bprice_any _ _ _ t.bands t.over far _ hm hbo ⟨by omega, hf.2⟩ hB.out.b).mono ?_; rintro e w1 ⟨rfl, hb1⟩)
    go_ret2
    exact ⟨by unfold baseOf; rw [if_neg (by omega)]; rfl, hb1⟩

set_option maxHeartbeats 1000000 in
theorem cost2_any (t : Tar) (hb hs hr : Hdr) (g gc c : Nat) (s p : Int) (w : World) (hm : hs.n ≤ 1000000) (hok : tarOk t = true) (hc : t.shares[c]? = some s) (hp : 0 ≤ p ∧ p ≤ 16777216) (h : TarIn w t hb hs hr) (hg : TarBox 26 w g t hb hs hr) (hgc : w.cell? ⟨gc, 0, none⟩ = some (.int .i64 c)) :
    Calls Try.prog 54 #[.int .i64 p, .pointer (some ⟨g, 0, none⟩), .pointer (some ⟨gc, 0, none⟩)] w fun e w' => e = .returned (.tuple #[.int .i64 (p * s / 1000), .int .i64 0]) ∧ Below w.heap.size w w' := by
  obtain ⟨kk, k0, k1, k2, k3, k4, k5, k6, k7, k8⟩ := hg.cells
  have hbo := (tarOk_all hok).2.2.1
  have hB : Hid (TarIn w t hb hs hr) := h
  have HC := Lib.hid hc
  clear hc
  go_enter Try.func54, Try.ntmps54
  go_wp2_with (go_at_call 55; refine (capply_any _ _ _ t.shares c s p _ hm hbo HC.out ⟨hp.1, by omega⟩ hB.out.s).mono ?_; rintro e w1 ⟨rfl, hb1⟩)
  go_ret2
  exact ⟨rfl, hb1⟩

set_option maxHeartbeats 1000000 in
theorem cost3_any (t : Tar) (hb hs hr : Hdr) (g : Nat) (p : Int) (w : World) (hok : tarOk t = true) (hp : 0 ≤ p ∧ p ≤ 16777216) (hg : TarBox 26 w g t hb hs hr) :
    Calls Try.prog 56 #[.int .i64 p, .pointer (some ⟨g, 0, none⟩)] w fun e w' => e = .returned (.tuple #[.int .i64 (p / t.unit * t.unit), .int .i64 0]) ∧ Below w.heap.size w w' := by
  obtain ⟨kk, k0, k1, k2, k3, k4, k5, k6, k7, k8⟩ := hg.cells
  have hu := (tarOk_all hok).2.2.2.1
  go_enter Try.func56, Try.ntmps56
  go_wp2_with (go_at_call 57; refine (round0_any p t.unit _ ⟨hp.1, by omega⟩ hu).mono ?_; rintro e w1 ⟨rfl, hb1⟩)
  go_ret2
  exact ⟨rfl, hb1⟩

set_option maxHeartbeats 2000000 in
theorem through_any (t : Tar) (hb hs hr : Hdr) (g gc b c : Nat) (s far : Int) (w : World) (hm : hb.n ≤ 1000000 ∧ hs.n ≤ 1000000) (hok : tarOk t = true) (hc : t.shares[c]? = some s) (hf : -1 ≤ far ∧ far ≤ 4294967296) (h : TarIn w t hb hs hr) (hg : TarBox 26 w g t hb hs hr) (hgc : w.cell? ⟨gc, 0, none⟩ = some (.int .i64 c))
    (f0 : w.cell? ⟨b, 0, none⟩ = some (.func (.func 52) #[] #[.pointer (some ⟨g, 0, none⟩)])) (f1 : w.cell? ⟨b, 1, none⟩ = some (.func (.func 54) #[] #[.pointer (some ⟨g, 0, none⟩), .pointer (some ⟨gc, 0, none⟩)])) (f2 : w.cell? ⟨b, 2, none⟩ = some (.func (.func 56) #[] #[.pointer (some ⟨g, 0, none⟩)])) :
    Calls Try.prog 58 #[.int .i64 far, .slice (some ⟨b, 0, none⟩) 3 3] w fun e w' => e = .returned (.tuple #[.int .i64 (costOf t s far), .int .i64 0]) ∧ Below w.heap.size w w' := by
  have hss := ((sharesOk_iff _).1 (tarOk_all hok).2.2.1).2.2.2 s (List.mem_of_getElem? hc)
  have q1 := baseOf_in hok far
  have q2 := part_in q1 hss
  have HC := Lib.hid hc
  have F : Hid (w.cell? ⟨b, 0, none⟩ = some (.func (.func 52) #[] #[.pointer (some ⟨g, 0, none⟩)]) ∧ w.cell? ⟨b, 1, none⟩ = some (.func (.func 54) #[] #[.pointer (some ⟨g, 0, none⟩), .pointer (some ⟨gc, 0, none⟩)]) ∧ w.cell? ⟨b, 2, none⟩ = some (.func (.func 56) #[] #[.pointer (some ⟨g, 0, none⟩)]) ∧ w.cell? ⟨gc, 0, none⟩ = some (.int .i64 c)) := ⟨f0, f1, f2, hgc⟩
  have hbb := World.block_lt_of_cell? w _ f0
  have hbc := World.block_lt_of_cell? w _ hgc
  clear hc f0 f1 f2 hgc hss
  go_enter Try.func58, Try.ntmps58
  go_wp2_with fail
  go_loopw [0, 12] (fun v i wr => ∃ k : Nat, i = .int .i64 k ∧ k ≤ 3 ∧ Hid (v = .int .i64 (if k = 0 then far else if k = 1 then baseOf t far else if k = 2 then baseOf t far * s / 1000 else costOf t s far)) ∧ Hid (Below w.heap.size w wr)) (fun _ i _ => 3 - (intOf i).toNat)
  case atStart => exact ⟨0, rfl, by omega, rfl, Below.refl _ _⟩
  case round =>
    obtain ⟨k, rfl, hk, hv, hB⟩ := hrel
    obtain ⟨hcc, -⟩ := bcellX hB.out
    have k0 : wr.cell? ⟨b, 0, none⟩ = _ := (hcc b 0 hbb).trans F.out.1
    have k1 : wr.cell? ⟨b, 1, none⟩ = _ := (hcc b 1 hbb).trans F.out.2.1
    have k2 : wr.cell? ⟨b, 2, none⟩ = _ := (hcc b 2 hbb).trans F.out.2.2.1
    have kc : wr.cell? ⟨gc, 0, none⟩ = _ := (hcc gc 0 hbc).trans F.out.2.2.2
    have KC := Lib.hid kc
    clear hcc kc
    have hv2 := hv.out
    have hks : k = 0 ∨ k = 1 ∨ k = 2 ∨ k = 3 := by omega
    rcases hks with rfl | rfl | rfl | rfl
    · change _ = Value.int .i64 far at hv2
      subst hv2
      go_wp2_with (go_at_call 52; refine (cost1_any t hb hs hr g far _ hm.1 hok hf (h.below hB.out) (hg.below hB.out)).mono ?_; rintro e w1 ⟨rfl, hb1⟩; have HB1 := Lib.hid (hB.out.trans (hb1.mono hB.out.size)); clear hb1)
      go_roundw
      case rel => exact ⟨1, by go_num, by omega, rfl, HB1.out⟩
      case measure => simp [intOf]
    · change _ = Value.int .i64 (baseOf t far) at hv2
      subst hv2
      go_wp2_with (go_at_call 54; refine (cost2_any t hb hs hr g gc c s (baseOf t far) _ hm.2 hok HC.out q1 (h.below hB.out) (hg.below hB.out) KC.out).mono ?_; rintro e w1 ⟨rfl, hb1⟩; have HB1 := Lib.hid (hB.out.trans (hb1.mono hB.out.size)); clear hb1)
      go_roundw
      case rel => exact ⟨2, by go_num, by omega, rfl, HB1.out⟩
      case measure => simp [intOf]
    · change _ = Value.int .i64 (baseOf t far * s / 1000) at hv2
      subst hv2
      go_wp2_with (go_at_call 56; refine (cost3_any t hb hs hr g (baseOf t far * s / 1000) _ hok ⟨q2.1, by omega⟩ (hg.below hB.out)).mono ?_; rintro e w1 ⟨rfl, hb1⟩; have HB1 := Lib.hid (hB.out.trans (hb1.mono hB.out.size)); clear hb1)
      go_roundw
      case rel => exact ⟨3, by go_num, by omega, rfl, HB1.out⟩
      case measure => simp [intOf]
    · change _ = Value.int .i64 (costOf t s far) at hv2
      subst hv2
      go_wp2_with fail
      go_ret2
      exact ⟨rfl, hB.out⟩
end Go.Proofs.Ytgdhlhjflbinmaa

namespace Go.Proofs.Ytgdhlhjflbinmaa
open Go.RowKit Go.V Go.Proofs

def Tar.box (t : Tar) (hb hs hr : Hdr) : Obj := .cells #[.int .i64 t.ver, .slice hb.a hb.n hb.cap, .int .i64 t.over, .int .i64 t.full, .slice hs.a hs.n hs.cap, .int .i64 t.unit, .int .i64 t.window, .int .i64 t.chain, .slice hr.a hr.n hr.cap] 26

set_option maxHeartbeats 2000000 in
theorem cost_any (t : Tar) (hb hs hr : Hdr) (c : Nat) (s far : Int) (w : World) (hm : hb.n ≤ 1000000 ∧ hs.n ≤ 1000000) (hok : tarOk t = true) (hc : t.shares[c]? = some s) (hf : -1 ≤ far ∧ far ≤ 4294967296) (h : TarIn w t hb hs hr) :
    Calls Try.prog 37 #[t.val hb hs hr, .int .i64 c, .int .i64 far] w fun e w' => e = .returned (.tuple #[.int .i64 (costOf t s far), .int .i64 0]) ∧ Below w.heap.size w w' := by
  have HC := Lib.hid hc
  clear hc
  unfold Tar.val
  go_enter Try.func37, Try.ntmps37
  go_wp2_with (go_at_call 58; refine (through_any t hb hs hr w.heap.size (w.heap.size + 1) (w.heap.size + 1 + 1) c s far _ hm hok HC.out hf (h.below ?b1) ?tb ?gc ?f0 ?f1 ?f2).mono ?k)
  case b1 => exact (((Below.refl _ _).alloc (Nat.le_refl _) _).alloc (by simp) _).alloc (by simp; omega) _
  case tb => exact box_alloc (box_alloc (box_new w _))
  case gc => simp [go_sem]
  case f0 => simp [go_sem]
  case f1 => simp [go_sem]
  case f2 => simp [go_sem]
  case k =>
    rintro e w1 ⟨rfl, hb1⟩
    go_wp2_with fail
    go_ret2
    exact ⟨rfl, ((((Below.refl _ _).alloc (Nat.le_refl _) _).alloc (by simp) _).alloc (by simp; omega) _).trans (hb1.mono (by simp; omega))⟩
end Go.Proofs.Ytgdhlhjflbinmaa
