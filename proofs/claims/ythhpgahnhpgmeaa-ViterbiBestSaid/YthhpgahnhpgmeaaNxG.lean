/- Networks: viterbi: which sequence comes ahead; the example: walked. -/
import Derived.Test.YthhpgahnhpgmeaaNxF
import Derived.Test.YthhpgahnhpgmeaaL22
namespace Go.Proofs.Ythhpgahnhpgmeaa.Ne
open Go.RowKit Go.V Go.Proofs Go.Sort Go.Maps

theorem ahead_cons (x y : Int) (xs ys : List Int) : aheadE (x :: xs) (y :: ys) = if x = y then aheadE xs ys else decide (x < y) := rfl
theorem ahead_nil1 (ys : List Int) : aheadE [] ys = false := by cases ys <;> rfl
theorem ahead_nil2 (xs : List Int) : aheadE xs [] = false := by cases xs <;> rfl
set_option maxHeartbeats 1000000 in
theorem rahead_any (a1 : Option Addr) (n1 cap1 : Nat) (xs : List Int) (a2 : Option Addr) (n2 cap2 : Nat) (ys : List Int) (w : World) (h1 : SlQ icod w a1 n1 cap1 xs) (h2 : SlQ icod w a2 n2 cap2 ys) (hm1 : n1 ≤ 1000000) (hm2 : n2 ≤ 1000000) :
    Calls Try.prog 55 #[.slice a1 n1 cap1, .slice a2 n2 cap2] w fun e w' => e = .returned (.bool (aheadE xs ys)) ∧ Below w.heap.size w w' := by
  have hN := Lib.hid h1.hlen
  have hM := Lib.hid h2.hlen
  have H1 := Lib.hid h1
  have H2 := Lib.hid h2
  clear h1 h2
  obtain ⟨r, hr⟩ : ∃ r, aheadE xs ys = r := ⟨_, rfl⟩
  have HR := Lib.hid hr
  rw [hr]
  clear hr
  go_enter Try.func55, Try.ntmps55
  go_wp2_with fail
  go_loopw [5] (fun i wr => ∃ (k : Nat), i = .int .i64 k ∧ k ≤ n1 ∧ k ≤ n2 ∧ Hid (aheadE (xs.drop k) (ys.drop k) = r) ∧ Hid (Below w.heap.size w wr)) (fun i _ => n1 - (intOf i).toNat)
  case atStart => exact ⟨0, by go_num, by omega, by omega, by rw [List.drop_zero, List.drop_zero]; exact HR.out, Below.refl _ _⟩
  case round =>
    obtain ⟨k, rfl, hk1, hk2, HE, HB⟩ := hrel
    by_cases hl1 : k < n1
    · by_cases hl2 : k < n2
      · obtain ⟨b, off, p, rfl, hbl, hp, c0⟩ := int_atq (H1.out.below HB.out) hl1
        obtain ⟨b', off', q, rfl, hbl', hq, c0'⟩ := int_atq (H2.out.below HB.out) hl2
        have hi1 : (k : Int) < (n1 : Int) := by omega
        have hi2 : (k : Int) < (n2 : Int) := by omega
        have he := HE.out
        rw [drop_at hp, drop_at hq, ahead_cons] at he
        clear hp hq
        by_cases heq : p = q
        · subst heq
          rw [if_pos rfl] at he
          have HE2 := Lib.hid he
          clear he
          go_wp2_with fail
          go_quiet (fail)
          go_wp2_with fail
          go_roundw
          case rel => exact ⟨k + 1, by go_num, by omega, by omega, HE2.out, below_drewN HB.out _⟩
          case measure => simp [intOf]; omega
        · rw [if_neg heq] at he
          have hqb : (p != q) = true := by simpa using heq
          have HE2 := Lib.hid he
          clear he heq
          go_wp2_with fail
          go_quiet (fail)
          go_wp2_with fail
          go_quiet (fail)
          go_wp2_with fail
          go_ret
          exact ⟨ret_bool HE2.out, below_drewN (below_drewN HB.out _) _⟩
      · have he := HE.out
        rw [List.drop_of_length_le (l := ys) (by have := hM.out; omega), ahead_nil2] at he
        have HE2 := Lib.hid he
        have hd2 : decide ((k : Int) < (n2 : Int)) = false := decide_eq_false (by omega)
        clear he
        go_wp2_with fail
        go_ret
        exact ⟨ret_bool HE2.out, HB.out⟩
    · have he := HE.out
      rw [List.drop_of_length_le (l := xs) (by have := hN.out; omega), ahead_nil1] at he
      have HE2 := Lib.hid he
      have hd2 : decide ((k : Int) < (n1 : Int)) = false := decide_eq_false (by omega)
      clear he
      go_wp2_with fail
      go_ret
      exact ⟨ret_bool HE2.out, HB.out⟩

def exV : Net := ⟨1, [⟨0, 0⟩, ⟨0, 0⟩, ⟨0, 0⟩], []⟩
theorem exV_ok : checkE exV = 0 := by decide
def exG : List (List Pnt) := [[⟨2, 7⟩, ⟨1, 4⟩, ⟨0, 4⟩]]
theorem exV_may : vmayE ⟨0, 3, 0, 0⟩ exG = 0 := by decide
theorem exV_go (st : Int → Int → Int) : goE st exG none = some [0] ∧ (pickE st none exG).1 = 4 := ⟨rfl, rfl⟩

set_option maxHeartbeats 4000000 in
set_option maxRecDepth 100000 in
theorem awake23_any (w : World) : Calls Try.prog 16 #[] w fun e w' => e = .returned (.bool true) ∧ Below w.heap.size w w' := by
  have hmk : ∀ w, (Instr.makeSlice 43 (.int .i64 3) (.int .i64 3)).run Try.prog w = .ok (.slice (some ⟨w.heap.size, 0, none⟩) 3 3) (w.alloc (.cells #[.int .i64 0, .int .i64 0, .int .i64 0, .int .i64 0, .int .i64 0, .int .i64 0] 105)) := fun w => by
    have h := make_stops 3 (by omega) w
    have e : madeCells #[.int .i64 0, .int .i64 0] (3 * 2) = #[.int .i64 0, .int .i64 0, .int .i64 0, .int .i64 0, .int .i64 0, .int .i64 0] := by kernel_rfl
    rw [e] at h
    exact h
  have HN : Hid (NetIn (w.alloc (.cells #[.int .i64 0, .int .i64 0, .int .i64 0, .int .i64 0, .int .i64 0, .int .i64 0] 105)) exV ⟨some ⟨w.heap.size, 0, none⟩, 3, 3⟩ ⟨none, 0, 0⟩) :=
    ⟨sl_new (c := Stp.cod) w _ _ exV.stops 3 rfl (by unfold maxLen; omega) rfl, ⟨rfl, Nat.le_refl _, Nat.zero_le _, (fun _ => ⟨rfl, rfl⟩), (fun d hd => nomatch hd)⟩⟩
  have HB0 : Hid (Below w.heap.size w (w.alloc (.cells #[.int .i64 0, .int .i64 0, .int .i64 0, .int .i64 0, .int .i64 0, .int .i64 0] 105))) := (Below.refl _ _).alloc (Nat.le_refl _) _
  go_enter Try.func16, Try.ntmps16
  go_upto_region 2 with (go_at_call 20; go_loud (refine (tnew_any exV ⟨some ⟨w.heap.size, 0, none⟩, 3, 3⟩ ⟨none, 0, 0⟩ _ ⟨by show 3 ≤ 1000000; omega, by show 0 ≤ 1000000; omega⟩ HN.out).mono ?_); rintro e w1 ⟨hb, -, hf⟩; obtain ⟨tg, rfl, mg, ht, hne⟩ := hf exV_ok; have HB1 := Lib.hid (HB0.out.trans (hb.mono HB0.out.size)); have HT := Lib.hid ht; have HNE := Lib.hid hne; clear hb hf ht hne)
  have HP : Hid (PtsIn ((w1.alloc (.cells #[.int .i64 2, .int .i64 7, .int .i64 1, .int .i64 4, .int .i64 0, .int .i64 4] 101)).alloc (.cells #[.slice (some ⟨w1.heap.size, 0, none⟩) 3 3] 102)) (some ⟨w1.heap.size + 1, 0, none⟩) 1 1 exG) := by
    refine ⟨[⟨some ⟨w1.heap.size, 0, none⟩, 3, 3⟩], ?_, rfl, fun i h g hh hg => ?_⟩
    · have := sl_new (c := hcod) (w1.alloc (.cells #[.int .i64 2, .int .i64 7, .int .i64 1, .int .i64 4, .int .i64 0, .int .i64 4] 101)) #[.slice (some ⟨w1.heap.size, 0, none⟩) 3 3] 102 [⟨some ⟨w1.heap.size, 0, none⟩, 3, 3⟩] 1 rfl (by unfold maxLen; omega) rfl
      rw [World.size_alloc] at this
      exact this.q
    · have hi : i = 0 := by have := (List.getElem?_eq_some_iff.1 hh).1; simp at this; omega
      subst hi
      cases hh
      cases hg
      exact ((sl_new (c := pcod) w1 #[.int .i64 2, .int .i64 7, .int .i64 1, .int .i64 4, .int .i64 0, .int .i64 4] 101 [⟨2, 7⟩, ⟨1, 4⟩, ⟨0, 4⟩] 3 rfl (by unfold maxLen; omega) rfl).below ((Below.refl _ _).alloc (Nat.le_refl _) _)).q
  have HB2 : Hid (Below w1.heap.size w1 ((w1.alloc (.cells #[.int .i64 2, .int .i64 7, .int .i64 1, .int .i64 4, .int .i64 0, .int .i64 4] 101)).alloc (.cells #[.slice (some ⟨w1.heap.size, 0, none⟩) 3 3] 102))) := ((Below.refl _ _).alloc (Nat.le_refl _) _).alloc (by simp) _
  have HT2 := Lib.hid (HT.out.below HB2.out)
  have HMG : Hid (mg < w1.heap.size ∧ w.heap.size ≤ mg) := ⟨HT.out.mg_lt, by have := HT.out.bm; simp at this; omega⟩
  go_upto_region 3 with (go_at_call 21; go_loud (refine (vbest_any _ _ tg mg 0 exV ⟨some ⟨w.heap.size, 0, none⟩, 3, 3⟩ ⟨none, 0, 0⟩ ⟨0, 3, 0, 0⟩ ⟨some ⟨w1.heap.size + 1, 0, none⟩, 1, 1⟩ exG HT2.out exV_ok (by show 3 ≤ 60; omega) (by show 0 ≤ 120; omega) HP.out (by show 1 ≤ 40; omega) (by omega) HNE.out).mono ?_); rintro e w3 ⟨-, hc, -, hy⟩; obtain ⟨v, rfl, ho⟩ := (hy exV_may).2 _ (exV_go _).1; rw [(exV_go _).2]; have HO := Lib.hid ho; have HC := Lib.hid hc; clear hc hy ho)
  obtain ⟨a, c, hv, hsl, -⟩ := HO.out.slice
  subst hv
  obtain ⟨b, off, r, rfl, hbl, hr, c0⟩ := int_at hsl (show 0 < ([0] : List Int).length by simp)
  have hr0 : r = 0 := by simpa using hr.symm
  subst hr0
  have HB3 : Hid (Below w.heap.size w w3) := (HB1.out.trans (HB2.out.mono HB1.out.size)).trans (HC.out.below HMG.out.2 (by simp) (by have := HB1.out.size; have := HB2.out.size; omega))
  clear hsl hr
  have c0 : w3.cell? ⟨b, off, none⟩ = some (.int .i64 0) := c0
  go_wp2_with fail
  go_ret
  exact ⟨rfl, HB3.out⟩
end Go.Proofs.Ythhpgahnhpgmeaa.Ne
