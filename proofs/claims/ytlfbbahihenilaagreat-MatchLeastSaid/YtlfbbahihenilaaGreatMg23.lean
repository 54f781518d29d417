/- Networks: what a law on a network, a weighing and a play has boxed. -/
/- Networks: viterbi: which sequence comes ahead; the example: walked. -/
/- Networks: viterbi: no sequence costs less than the best one, or comes ahead of it: the law walked. -/
import Derived.Test.YtlfbbahihenilaaGreatMg22
import Derived.Test.YtlfbbahihenilaaGreatMhNxF
namespace Go.Proofs.YtlfbbahihenilaaGreat.Ne
open Go.RowKit Go.V Go.Proofs Go.Sort Go.Maps
end Go.Proofs.YtlfbbahihenilaaGreat.Ne

namespace Go.Proofs.YtlfbbahihenilaaGreat.Ne
open Go.RowKit Go.V Go.Proofs Go.Sort Go.Maps

theorem ahead_cons (x y : Int) (xs ys : List Int) : aheadE (x :: xs) (y :: ys) = if x = y then aheadE xs ys else decide (x < y) := rfl
theorem ahead_nil1 (ys : List Int) : aheadE [] ys = false := by cases ys <;> rfl
theorem ahead_nil2 (xs : List Int) : aheadE xs [] = false := by cases xs <;> rfl
set_option maxHeartbeats 1000000 in
theorem rahead_any (a1 : Option Addr) (n1 cap1 : Nat) (xs : List Int) (a2 : Option Addr) (n2 cap2 : Nat) (ys : List Int) (w : World) (h1 : SlQ icod w a1 n1 cap1 xs) (h2 : SlQ icod w a2 n2 cap2 ys) (hm1 : n1 ≤ 1000000) (hm2 : n2 ≤ 1000000) :
    Calls Tryz.prog 64 #[.slice a1 n1 cap1, .slice a2 n2 cap2] w fun e w' => e = .returned (.bool (aheadE xs ys)) ∧ Below w.heap.size w w' := by
  have hN := Lib.hid h1.hlen
  have hM := Lib.hid h2.hlen
  have H1 := Lib.hid h1
  have H2 := Lib.hid h2
  clear h1 h2
  obtain ⟨r, hr⟩ : ∃ r, aheadE xs ys = r := ⟨_, rfl⟩
  have HR := Lib.hid hr
  rw [hr]
  clear hr
  go_enter Tryz.func64, Tryz.ntmps64
  go_wp2_with fail
  go_loopw [5] (fun i wr => ∃ (k : Nat), i = .int .i64 k ∧ k ≤ n1 ∧ k ≤ n2 ∧ Hid (aheadE (xs.drop k) (ys.drop k) = r) ∧ Hid (Below w.heap.size w wr)) (fun i _ => n1 - (intOf i).toNat)
  case atStart => exact ⟨0, by go_num, by omega, by omega, by rw [List.drop_zero, List.drop_zero]; exact HR.out, Below.refl _ _⟩
  case round =>
    obtain ⟨k, rfl, hk1, hk2, HE, HB⟩ := hrel
    by_cases hl1 : k < n1
    · by_cases hl2 : k < n2
      · obtain ⟨b, off, p, rfl, hbl, hp, c0⟩ := int_atq (H1.out.below HB.out) hl1
        obtain ⟨b', off', q, rfl, hbl', hq, c0'⟩ := int_atq (H2.out.below HB.out) hl2
        have hi1 : (k : Int) < (n1 : Int) := by omega
        have hi2 : (k : Int) < (n2 : Int) := by omega
        have he := HE.out
        rw [drop_at hp, drop_at hq, ahead_cons] at he
        clear hp hq
        by_cases heq : p = q
        · subst heq
          rw [if_pos rfl] at he
          have HE2 := Lib.hid he
          clear he
          go_wp2_with fail
          go_quiet (fail)
          go_wp2_with fail
          go_roundw
          case rel => exact ⟨k + 1, by go_num, by omega, by omega, HE2.out, below_drewN HB.out _⟩
          case measure => simp [intOf]; omega
        · rw [if_neg heq] at he
          have hqb : (p != q) = true := by simpa using heq
          have HE2 := Lib.hid he
          clear he heq
          go_wp2_with fail
          go_quiet (fail)
          go_wp2_with fail
          go_quiet (fail)
          go_wp2_with fail
          go_ret
          exact ⟨ret_bool HE2.out, below_drewN (below_drewN HB.out _) _⟩
      · have he := HE.out
        rw [List.drop_of_length_le (l := ys) (by have := hM.out; omega), ahead_nil2] at he
        have HE2 := Lib.hid he
        have hd2 : decide ((k : Int) < (n2 : Int)) = false := decide_eq_false (by omega)
        clear he
        go_wp2_with fail
        go_ret
        exact ⟨ret_bool HE2.out, HB.out⟩
    · have he := HE.out
      rw [List.drop_of_length_le (l := xs) (by have := hN.out; omega), ahead_nil1] at he
      have HE2 := Lib.hid he
      have hd2 : decide ((k : Int) < (n1 : Int)) = false := decide_eq_false (by omega)
      clear he
      go_wp2_with fail
      go_ret
      exact ⟨ret_bool HE2.out, HB.out⟩

def exV : Net := ⟨1, [⟨0, 0⟩, ⟨0, 0⟩, ⟨0, 0⟩], []⟩
theorem exV_ok : checkE exV = 0 := by decide
def exG : List (List Pnt) := [[⟨2, 7⟩, ⟨1, 4⟩, ⟨0, 4⟩]]
theorem exV_may : vmayE ⟨0, 3, 0, 0⟩ exG = 0 := by decide
theorem exV_go (st : Int → Int → Int) : goE st exG none = some [0] ∧ (pickE st none exG).1 = 4 := ⟨rfl, rfl⟩

end Go.Proofs.YtlfbbahihenilaaGreat.Ne

namespace Go.Proofs.YtlfbbahihenilaaGreat.Ne
open Go.RowKit Go.V Go.Proofs Go.Sort Go.Maps

theorem best_law (st : Int → Int → Int) (gs : List (List Pnt)) (hrow : ∀ r ∈ gs, okRow r) (hne : gs ≠ []) :
    (goE st gs none = none → ∀ ss, tcE st none gs ss < 0) ∧
    (∀ l, goE st gs none = some l → l.length = gs.length ∧ tcE st none gs l = (pickE st none gs).1 ∧ 0 ≤ (pickE st none gs).1 ∧ ∀ ss, 0 ≤ tcE st none gs ss → (pickE st none gs).1 ≤ tcE st none gs ss ∧ ((pickE st none gs).1 = tcE st none gs ss → aheadE ss l = false)) := by
  cases gs with
  | nil => exact absurd rfl hne
  | cons g gs =>
    by_cases h0 : 0 ≤ (pickE st none (g :: gs)).1
    · obtain ⟨l, h1, h2, h3, h4⟩ := go_ok st gs g none hrow h0
      refine ⟨(fun h => by rw [h1] at h; cases h), fun l' h => ?_⟩
      rw [h1] at h
      cases h
      exact ⟨h2, h3, h0, h4⟩
    · have hn : goE st (g :: gs) none = none := by rw [goE_cons, if_pos (by omega)]
      refine ⟨fun _ ss => ?_, (fun l h => by rw [hn] at h; cases h)⟩
      apply Int.not_le.1
      intro hs
      cases ss with
      | nil => unfold tcE at hs; omega
      | cons s ss =>
        obtain ⟨m1, m2, m3⟩ := lf_low st gs g s ss none hrow hs
        have hpt : 0 ≤ ptE g s := by
          rw [tcE_cons] at hs
          split at hs <;> omega
        obtain ⟨-, k2, -⟩ := pickE_ok st none g gs
        exact h0 (k2 s (ptE_mem hpt) m2 m1).1
theorem best_seq {n : Net} {k : Nat} {x : Wgh} {gs : List (List Pnt)} (hv : vmayE x gs = 0) :
    (goE (stepE n k x) gs none = none → ∀ ss, seqE n k x gs ss = -1) ∧
    (∀ l, goE (stepE n k x) gs none = some l → l.length = gs.length ∧ seqE n k x gs l = (pickE (stepE n k x) none gs).1 ∧ 0 ≤ (pickE (stepE n k x) none gs).1 ∧
      ∀ ss, seqE n k x gs ss < 0 ∨ (pickE (stepE n k x) none gs).1 < seqE n k x gs ss ∨ (pickE (stepE n k x) none gs).1 = seqE n k x gs ss ∧ aheadE ss l = false) := by
  obtain ⟨o1, o2, o3, o4⟩ := vmay_ok hv
  obtain ⟨b1, b2⟩ := best_law (stepE n k x) gs (fun r hr => (o3 r hr).1) o4
  refine ⟨fun h ss => ?_, fun l h => ?_⟩
  · rw [seq_tc n k x gs ss o1 o2, if_pos (b1 h ss)]
  · obtain ⟨c1, c2, c3, c4⟩ := b2 l h
    refine ⟨c1, by rw [seq_tc n k x gs l o1 o2, if_neg (by omega), c2], c3, fun ss => ?_⟩
    rw [seq_tc n k x gs ss o1 o2]
    by_cases hs : tcE (stepE n k x) none gs ss < 0
    · rw [if_pos hs]; exact .inl (by omega)
    · rw [if_neg hs]
      obtain ⟨d1, d2⟩ := c4 ss (by omega)
      by_cases he : (pickE (stepE n k x) none gs).1 = tcE (stepE n k x) none gs ss
      · exact .inr (.inr ⟨he, d2 he⟩)
      · exact .inr (.inl (by omega))
theorem vmay_31 {x : Wgh} {gs : List (List Pnt)} (h : vmayE x gs = 31) : gs.length = 0 := by
  unfold vmayE at h
  repeat' split at h
  all_goals first | omega | (next q => exact q) | assumption

end Go.Proofs.YtlfbbahihenilaaGreat.Ne
