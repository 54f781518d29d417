/- Shares: which amounts may be shared out, by the document: walked. -/
import Derived.Test.YtjejpaladjfegaaApD
namespace Go.Proofs.Ytjejpaladjfegaa.Ap
open Go.RowKit Go.V Go.Proofs Go.Sort Go.Shelf
open Go.Proofs.Ytjejpaladjfegaa.Ne (icod int_at box_new box_cell)
open Go.Proofs.Ytjejpaladjfegaa.Ir

set_option maxHeartbeats 1000000 in
theorem rmay_any (amount : Int) (a : Option Addr) (n cap : Nat) (ws : List Int) (w : World) (hn : n ≤ 200) (h : Sl icod w a n cap ws) :
    Calls Try.prog 49 #[.int .i64 amount, .slice a n cap] w fun e w' => e = .returned (.bool (shMay amount ws)) ∧ w = w' := by
  have HLEN := Lib.hid h.hlen
  have HH := Lib.hid h
  clear h
  obtain ⟨mb, hmb⟩ : ∃ mb, shMay amount ws = mb := ⟨_, rfl⟩
  have HMB := Lib.hid hmb
  rw [hmb]
  clear hmb
  go_enter Try.func49, Try.ntmps49
  go_wp2_with fail
  go_loop [5, 6] (fun s i => ∃ k : Nat, i = .int .i64 k ∧ k ≤ n ∧ k ≤ 64 ∧ ∃ s1 : Int, s = .int .i64 s1 ∧ Hid (s1 = (ws.take k).sum ∧ (ws.take k).all wtB = true)) (fun _ i => n - (intOf i).toNat)
  case atStart => exact ⟨0, rfl, by omega, by omega, 0, rfl, rfl, rfl⟩
  case round =>
    obtain ⟨k, rfl, hk, hk6, s1, rfl, HS⟩ := hrel
    have hs2 := sum_in HS.out.2
    rw [← HS.out.1, List.length_take] at hs2
    have hs3 : 0 ≤ s1 ∧ s1 ≤ 274877906944 := by omega
    clear hs2
    by_cases hlt : k < n
    · by_cases h64 : (64 : Int) ≤ (k : Int)
      · have hz : mb = false := by rw [← HMB.out]; exact may_no (.inl (by have := HLEN.out; omega))
        subst hz
        go_wp2_with fail
        go_ret
        exact ⟨rfl, rfl⟩
      · obtain ⟨b, off, x, rfl, hbl, hx, hcx⟩ := int_at HH.out hlt
        have HX := Lib.hid hx
        have hki : (k : Int) < (n : Int) := by omega
        clear hx
        by_cases hx0 : x < 0
        · have hz : mb = false := by rw [← HMB.out]; exact may_no (.inr (.inl (all_bad HX.out (decide_eq_false (by omega)))))
          subst hz
          go_wp2_with fail
          go_ret
          exact ⟨rfl, rfl⟩
        · by_cases hx1 : 4294967296 < x
          · have hz : mb = false := by rw [← HMB.out]; exact may_no (.inr (.inl (all_bad HX.out (decide_eq_false (by omega)))))
            subst hz
            go_wp2_with fail
            go_ret
            exact ⟨rfl, rfl⟩
          · have HB : Hid (wtB x = true) := decide_eq_true (by omega)
            go_wp2_with fail
            go_round
            case rel => exact ⟨k + 1, by go_num, by omega, by omega, _, rfl, by rw [sum_snoc HX.out, ← HS.out.1], all_take HX.out HB.out HS.out.2⟩
            case measure => simp [intOf] <;> omega
    · have hkn : k = n := by omega
      subst hkn
      have HS2 : Hid (s1 = ws.sum ∧ ws.all wtB = true) := by
        have := HS.out
        rwa [List.take_of_length_le (by have := HLEN.out; omega)] at this
      clear HS
      by_cases ha0 : 0 ≤ amount
      · by_cases ha1 : amount ≤ 34359738368
        · by_cases h0 : 0 < s1
          · have hz : mb = true := by rw [← HMB.out]; exact may_yes (by have := HLEN.out; omega) HS2.out.2 ⟨ha0, ha1⟩ (by have := HS2.out.1; omega)
            subst hz
            go_wp2_with fail
            go_ret
            exact ⟨rfl, rfl⟩
          · have hz : mb = false := by rw [← HMB.out]; exact may_no (.inr (.inr (.inr (by have := HS2.out.1; omega))))
            subst hz
            have hd : decide (0 < s1) = false := decide_eq_false h0
            go_wp2_with fail
            go_ret
            exact ⟨rfl, rfl⟩
        · have hz : mb = false := by rw [← HMB.out]; exact may_no (.inr (.inr (.inl (by omega))))
          subst hz
          have hd : decide (amount ≤ 34359738368) = false := decide_eq_false ha1
          go_wp2_with fail
          go_ret
          exact ⟨rfl, rfl⟩
      · have hz : mb = false := by rw [← HMB.out]; exact may_no (.inr (.inr (.inl (by omega))))
        subst hz
        have hd : decide (0 ≤ amount) = false := decide_eq_false ha0
        go_wp2_with fail
        go_ret
        exact ⟨rfl, rfl⟩
end Go.Proofs.Ytjejpaladjfegaa.Ap
