/- Networks: a table's distance of two stops, walked. -/
import Derived.Test.YthhpgahnhpgmeaaNeU
namespace Go.Proofs.Ythhpgahnhpgmeaa.Ne
open Go.RowKit Go.V Go.Proofs Go.Sort Go.Maps

/-- What a table tells of two stops. -/
def tfarE (n : Net) (k : Nat) (a b : Int) : Int := if 0 ≤ a ∧ a < k ∧ 0 ≤ b ∧ b < k then far n.links k a b else -1

set_option maxHeartbeats 4000000 in
set_option maxRecDepth 100000 in
theorem tfar_gen (w : World) (base tg mg N : Nat) (n : Net) (hs hl : Hdr) (a b : Int) (h : TabIn w base tg mg N n hs hl) (hok : checkE n = 0) (hN : N ≤ 1000000) (hne : tg ≠ mg) :
    Calls Try.prog 82 #[.pointer (some ⟨tg, 0, none⟩), .int .i64 a, .int .i64 b] w fun e w' => e = .returned (.int .i64 (tfarE n hs.n a b)) ∧ TabIn w' base tg mg (N + 1) n hs hl ∧ ChgT w w' mg := by
  have HT := Lib.hid h
  have HOK := Lib.hid hok
  have hkn : hs.n = n.stops.length := h.netIn.s.hlen
  have HLO : Hid (LinksOk n.links hs.n) := by show LinksOk _ _; rw [hkn]; exact (check_ok hok).2.2.2.2.1
  clear h hok hkn
  by_cases hin : 0 ≤ a ∧ a < hs.n ∧ 0 ≤ b ∧ b < hs.n
  · obtain ⟨h1, h2, h3, h4⟩ := hin
    have he : tfarE n hs.n a b = far n.links hs.n a b := by unfold tfarE; rw [if_pos ⟨h1, h2, h3, h4⟩]
    have HE := Lib.hid he
    clear he
    obtain ⟨p, rfl⟩ : ∃ p : Nat, a = p := ⟨a.toNat, by omega⟩
    obtain ⟨q, rfl⟩ : ∃ q : Nat, b = q := ⟨b.toNat, by omega⟩
    have hp : p < hs.n := by omega
    have hq : q < hs.n := by omega
    have b1 : decide ((p : Int) < 0) = false := by simp
    have b2 : decide ((q : Int) < 0) = false := by simp
    have b3 : decide ((hs.n : Int) ≤ (p : Int)) = false := decide_eq_false (by omega)
    have b4 : decide ((hs.n : Int) ≤ (q : Int)) = false := decide_eq_false (by omega)
    go_enter Try.func82, Try.ntmps82
    go_wp2_with (first
      | (go_at_call 100; refine (tlen_any _ base tg mg N n hs hl HT.out).mono ?_; rintro e w1 ⟨rfl, rfl⟩)
      | (go_at_call 101; refine (trow_gen _ base tg mg N n hs hl p HT.out HOK.out hp hN hne).mono ?_; rintro e w2 ⟨o, cap, rfl, hsl, ht2, hc2⟩; have HT2 := Lib.hid ht2; have HC2 := Lib.hid hc2; obtain ⟨bb, off, r, e1, hbl, hr, c0⟩ := int_at hsl hq; cases e1; rw [Nat.zero_add] at c0; have HR := Lib.hid hr; clear hsl ht2 hc2 hr))
    go_ret
    have hr2 := bf_at (L := n.links) (k := hs.n) (a := (p : Int)) HLO.out (by omega) hq
    have e2 := hr2.symm.trans HR.out
    refine ⟨?_, HT2.out, HC2.out⟩
    rw [HE.out, Option.some.inj e2]; rfl
  · have he : tfarE n hs.n a b = -1 := by unfold tfarE; rw [if_neg hin]
    have HE := Lib.hid he
    clear he
    have fin : ∀ w' : World, w = w' → TabIn w' base tg mg (N + 1) n hs hl ∧ ChgT w w' mg := fun w' e => by subst e; exact ⟨HT.out.mono, ChgT.refl _ _⟩
    have HFI := Lib.hid fin
    clear fin
    go_enter Try.func82, Try.ntmps82
    by_cases g1 : a < 0
    · go_wp2_with (go_at_call 100; refine (tlen_any _ base tg mg N n hs hl HT.out).mono ?_; rintro e w1 ⟨rfl, rfl⟩)
      go_ret
      exact ⟨by rw [HE.out]; rfl, HFI.out _ rfl⟩
    · have b1 : decide (a < 0) = false := decide_eq_false g1
      by_cases g2 : b < 0
      · go_wp2_with (go_at_call 100; refine (tlen_any _ base tg mg N n hs hl HT.out).mono ?_; rintro e w1 ⟨rfl, rfl⟩)
        go_ret
        exact ⟨by rw [HE.out]; rfl, HFI.out _ rfl⟩
      · have b2 : decide (b < 0) = false := decide_eq_false g2
        by_cases g3 : (hs.n : Int) ≤ a
        · go_wp2_with (go_at_call 100; refine (tlen_any _ base tg mg N n hs hl HT.out).mono ?_; rintro e w1 ⟨rfl, rfl⟩)
          go_ret
          exact ⟨by rw [HE.out]; rfl, HFI.out _ rfl⟩
        · have b3 : decide ((hs.n : Int) ≤ a) = false := decide_eq_false g3
          have g4 : (hs.n : Int) ≤ b := by omega
          go_wp2_with (go_at_call 100; refine (tlen_any _ base tg mg N n hs hl HT.out).mono ?_; rintro e w1 ⟨rfl, rfl⟩)
          go_ret
          exact ⟨by rw [HE.out]; rfl, HFI.out _ rfl⟩
theorem tfar_any (w : World) (base tg mg N : Nat) (n : Net) (hs hl : Hdr) (a b : Int) (h : TabIn w base tg mg N n hs hl) (hok : checkE n = 0) (hN : N ≤ 1000000) (hne : tg ≠ mg) :
    Calls Try.prog 82 #[.pointer (some ⟨tg, 0, none⟩), .int .i64 a, .int .i64 b] w fun e w' => e = .returned (.int .i64 (tfarE n hs.n a b)) ∧ TabIn w' base tg mg (N + 1) n hs hl ∧ Chg w w' mg none :=
  (tfar_gen w base tg mg N n hs hl a b h hok hN hne).mono fun _ _ ⟨h1, h2, h3⟩ => ⟨h1, h2, h3.chg⟩
end Go.Proofs.Ythhpgahnhpgmeaa.Ne
