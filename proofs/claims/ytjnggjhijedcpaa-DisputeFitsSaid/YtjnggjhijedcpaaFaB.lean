/- Fares: which shares are right; the references' words for bands, shares and rungs. -/
import Derived.Test.YtjnggjhijedcpaaFaA
namespace Go.Proofs.Ytjnggjhijedcpaa
open Go.RowKit Go.V Go.Proofs

theorem sharesOk_iff (l : List Int) : sharesOk l = true ↔ 1 ≤ l.length ∧ l.length ≤ 16 ∧ l[0]? = some 1000 ∧ ∀ s ∈ l, 0 ≤ s ∧ s ≤ 1000 := by
  unfold sharesOk; rw [decide_eq_true_iff]

set_option maxHeartbeats 1000000 in
theorem sharesR_any (a : Option Addr) (n cap : Nat) (l : List Int) (w : World) (hm : n ≤ 1000000) (h : Sl icod w a n cap l) :
    Calls Try.prog 70 #[.slice a n cap] w fun e w' => e = .returned (.bool (sharesOk l)) ∧ Below w.heap.size w w' := by
  have hN := Lib.hid h.hlen
  by_cases c0 : n = 0
  · subst c0
    have e : sharesOk l = false := by unfold sharesOk; exact decide_eq_false (fun h => by have := h.1; have := hN.out; omega)
    have HE := Lib.hid e
    clear e
    go_enter Try.func70, Try.ntmps70
    go_wp2_with fail
    go_ret
    exact ⟨ret_bool HE.out.symm, Below.refl _ _⟩
  have c0' : ((n : Int) == 0) = false := by simp; omega
  by_cases c1 : 16 < n
  · have e : sharesOk l = false := by unfold sharesOk; exact decide_eq_false (fun h => by have := h.2.1; have := hN.out; omega)
    have HE := Lib.hid e
    clear e c0
    go_enter Try.func70, Try.ntmps70
    go_wp2_with fail
    go_ret
    exact ⟨ret_bool HE.out.symm, Below.refl _ _⟩
  obtain ⟨b, off, x0, rfl, hbl, hx0, c00⟩ := int_at h (show 0 < n by omega)
  replace c00 : w.cell? ⟨b, off, none⟩ = some (.int .i64 x0) := c00
  have HX0 := Lib.hid hx0
  clear hx0
  have b0 : (0 : Int) < (n : Int) := by omega
  by_cases c2 : x0 = 1000
  case neg =>
    have e : sharesOk l = false := by unfold sharesOk; exact decide_eq_false (fun h => by have := h.2.2.1; rw [HX0.out] at this; exact c2 (Option.some.inj this))
    have HE := Lib.hid e
    have c2' : (x0 != 1000) = true := by simp [c2]
    clear e c0 c2
    go_enter Try.func70, Try.ntmps70
    go_wp2_with fail
    go_ret
    exact ⟨ret_bool HE.out.symm, Below.refl _ _⟩
  case pos =>
  subst c2
  have c0h := Lib.hid c0
  clear c0
  go_enter Try.func70, Try.ntmps70
  go_wp2_with fail
  go_loop [21] (fun i => ∃ k : Nat, i = .int .i64 k ∧ k ≤ n ∧ Hid (∀ s ∈ l.take k, 0 ≤ s ∧ s ≤ 1000)) (fun i => n - (intOf i).toNat)
  case atStart => exact ⟨0, rfl, by omega, fun s hs => by simp at hs⟩
  case round =>
    obtain ⟨k, rfl, hk, hall⟩ := hrel
    by_cases hlt : k < n
    · obtain ⟨b', off', x, e', -, hx, d0⟩ := int_at h hlt
      cases e'
      have HX := Lib.hid hx
      clear hx
      have b1 : (k : Int) < (n : Int) := by omega
      by_cases c : 0 ≤ x ∧ x ≤ 1000
      · have HC := Lib.hid c
        obtain ⟨p1, p2⟩ := c
        go_wp2_with fail
        go_round
        case rel => exact ⟨k + 1, by go_num, by omega, fun s hs => by
          rw [take_at HX.out] at hs
          rcases List.mem_append.1 hs with q | q
          · exact hall.out s q
          · simp at q; subst q; exact HC.out⟩
        case measure => simp [intOf]; omega
      · have e : sharesOk l = false := by unfold sharesOk; exact decide_eq_false (fun h => c (h.2.2.2 x (List.mem_of_getElem? HX.out)))
        have HE := Lib.hid e
        have hcs : x < 0 ∨ (¬ x < 0 ∧ 1000 < x) := by omega
        clear e c
        rcases hcs with h1 | ⟨h1, h2⟩
        all_goals
          go_wp2_with fail
          go_ret
          exact ⟨ret_bool HE.out.symm, Below.refl _ _⟩
    · have hk' : k = n := by omega
      subst hk'
      have e : sharesOk l = true := by
        unfold sharesOk
        refine decide_eq_true ⟨by have := hN.out; have := c0h.out; omega, by have := hN.out; omega, HX0.out, fun s hs => hall.out s ?_⟩
        rw [List.take_of_length_le (by rw [hN.out]; exact Nat.le_refl _)]; exact hs
      have HE := Lib.hid e
      clear e
      go_wp2_with fail
      go_ret
      exact ⟨ret_bool HE.out.symm, Below.refl _ _⟩

set_option maxHeartbeats 1000000 in
theorem rsharesR_any (a : Option Addr) (n cap : Nat) (l : List Int) (w : World) (hm : n ≤ 1000000) (h : Sl icod w a n cap l) :
    Calls Try.prog 74 #[.slice a n cap] w fun e w' => e = .returned (.bool (sharesOk l)) ∧ Below w.heap.size w w' := by
  have hN := Lib.hid h.hlen
  go_enter Try.func74, Try.ntmps74
  go_wp2_with fail
  go_loop [3] (fun i => ∃ k : Nat, i = .int .i64 k ∧ k ≤ n ∧ Hid (∀ s ∈ l.take k, 0 ≤ s ∧ s ≤ 1000)) (fun i => n - (intOf i).toNat)
  case atStart => exact ⟨0, rfl, by omega, fun s hs => by simp at hs⟩
  case round =>
    obtain ⟨k, rfl, hk, hall⟩ := hrel
    by_cases hlt : k < n
    · obtain ⟨b, off, x, rfl, hbl, hx, d0⟩ := int_at h hlt
      have HX := Lib.hid hx
      clear hx
      have b1 : (k : Int) < (n : Int) := by omega
      by_cases c : 0 ≤ x ∧ x ≤ 1000
      · have HC := Lib.hid c
        obtain ⟨p1, p2⟩ := c
        go_wp2_with fail
        go_round
        case rel => exact ⟨k + 1, by go_num, by omega, fun s hs => by
          rw [take_at HX.out] at hs
          rcases List.mem_append.1 hs with q | q
          · exact hall.out s q
          · simp at q; subst q; exact HC.out⟩
        case measure => simp [intOf]; omega
      · have e : sharesOk l = false := by unfold sharesOk; exact decide_eq_false (fun h => c (h.2.2.2 x (List.mem_of_getElem? HX.out)))
        have HE := Lib.hid e
        have hcs : x < 0 ∨ (¬ x < 0 ∧ 1000 < x) := by omega
        clear e c
        rcases hcs with h1 | ⟨h1, h2⟩
        all_goals
          go_wp2_with fail
          go_ret
          exact ⟨ret_bool HE.out.symm, Below.refl _ _⟩
    · have hk' : k = n := by omega
      subst hk'
      have hall2 : ∀ s ∈ l, 0 ≤ s ∧ s ≤ 1000 := fun s hs => hall.out s (by rw [List.take_of_length_le (by rw [hN.out]; exact Nat.le_refl _)]; exact hs)
      have HALL := Lib.hid hall2
      clear hall2
      by_cases c0 : 1 ≤ k
      · obtain ⟨b, off, x0, rfl, hbl, hx0, c00⟩ := int_at h (show 0 < k by omega)
        replace c00 : w.cell? ⟨b, off, none⟩ = some (.int .i64 x0) := c00
        have b0 : (0 : Int) < (k : Int) := by omega
        have HX0 := Lib.hid hx0
        clear hx0
        have hfin : sharesOk l = (decide (k ≤ 16) && (x0 == 1000)) := by
          rw [Bool.eq_iff_iff, sharesOk_iff]
          simp only [Bool.and_eq_true, decide_eq_true_eq, beq_iff_eq]
          have := hN.out
          rw [HX0.out]
          constructor
          · exact fun h => ⟨by omega, Option.some.inj h.2.2.1⟩
          · exact fun h => ⟨by omega, by omega, by rw [h.2], HALL.out⟩
        have HFIN := Lib.hid hfin
        clear hfin
        by_cases c1 : k ≤ 16
        · go_wp2_with fail
          go_ret
          exact ⟨ret_bool (by rw [HFIN.out]; simp [c1]), Below.refl _ _⟩
        · go_wp2_with fail
          go_ret
          exact ⟨ret_bool (by rw [HFIN.out]; simp; omega), Below.refl _ _⟩
      · have e : sharesOk l = false := by unfold sharesOk; exact decide_eq_false (fun h => by have := h.1; have := hN.out; omega)
        have HE := Lib.hid e
        have : k = 0 := by omega
        subst this
        clear e
        go_wp2_with fail
        go_ret
        exact ⟨ret_bool HE.out.symm, Below.refl _ _⟩
end Go.Proofs.Ytjnggjhijedcpaa
