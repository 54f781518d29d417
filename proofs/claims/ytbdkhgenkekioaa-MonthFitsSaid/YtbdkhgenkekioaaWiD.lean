/- Numbers as bytes: the document's Take, and Same. -/
import Derived.Test.YtbdkhgenkekioaaWiC
namespace Go.Proofs.Ytbdkhgenkekioaa.Wi
open Go.RowKit Go.V Go.Proofs

set_option maxHeartbeats 4000000 in
theorem rtake_any (a : Option Addr) (n cap : Nat) (l : List Int) (w : World) (h : Sl bcod w a n cap l) (hl : Byt l) (hn : n ≤ 1000000000) :
    Calls Try.prog 130 #[.slice a n cap] w fun e w' => e = .returned (.tuple #[.int .u64 ((takeV l).1 : Int), .int .i64 ((takeV l).2.1 : Int), .int .i64 (takeV l).2.2]) ∧ Below w.heap.size w w' := by
  have hln : n = l.length := h.hlen
  have HS := Lib.hid h
  have HLB := Lib.hid hl
  have HLN := Lib.hid hln
  clear h hl hln
  go_enter Try.func130, Try.ntmps130
  go_wp2_with fail
  go_loopw [5, 6, 7] (fun vm vs vi wr => ∃ (m i : Nat) (s : Int), vm = .int .u64 ((m : Nat) : Int) ∧ vs = .int .u64 s ∧ vi = .int .i64 ((i : Nat) : Int) ∧ i ≤ 9 ∧ i ≤ n ∧ Hid (s = ((128 ^ i : Nat) : Int)) ∧ Hid (m < 128 ^ i) ∧ Hid (Below w.heap.size w wr) ∧ Hid (takeGo (l.drop i) i m = takeV l)) (fun _ _ vi _ => n - (intOf vi).toNat)
  case atStart => exact ⟨0, 0, 1, rfl, rfl, rfl, by omega, by omega, rfl, by show _ < _; decide, Below.refl _ _, rfl⟩
  case round =>
    obtain ⟨m, i, s, rfl, rfl, rfl, hi9, hin, HSC, HM, HB, HE⟩ := hrel
    by_cases hlt : i < n
    · have hii : (i : Int) < (n : Int) := by omega
      obtain ⟨b, off, r, rfl, hbl, hr, hc⟩ := byte_at (HS.out.below HB.out) hlt
      have hrb := HLB.out r (List.mem_of_getElem? hr)
      have HT := Lib.hid ((takeGo_at (m := m) hr).symm.trans HE.out)
      clear hr
      obtain ⟨c, hcr⟩ : ∃ c : Nat, r = c := ⟨r.toNat, by omega⟩
      subst hcr
      have hc256 : (c : Int) < 256 := by omega
      by_cases h9 : i = 9 ∧ 1 < (c : Int)
      · have hd1 : ((i : Int) == 9) = true := by rw [beq_iff_eq]; omega
        have hd2 : decide (1 < (c : Int)) = true := decide_eq_true h9.2
        have HR : Hid (takeV l = (0, 0, 11)) := by
          show _ = _
          rw [← HT.out, if_pos h9]
        clear h9
        go_wp2_with fail
        go_ret3
        exact ⟨by rw [HR.out]; rfl, HB.out⟩
      · have h91 : i = 9 → c ≤ 1 := fun e => by
          by_cases q : c ≤ 1
          · exact q
          · exact absurd ⟨e, by omega⟩ h9
        have HTT : Hid (takeV l = if 127 < (c : Int) then takeGo (List.drop (i + 1) l) (i + 1) (m + c % 128 * 128 ^ i) else if (c : Int) = 0 ∧ 0 < i then (0, 0, 11) else (m + c % 128 * 128 ^ i, i + 1, 0)) := by
          show _ = _
          rw [← HT.out, if_neg h9]; rfl
        obtain ⟨g1, g2⟩ := dig_b (c := c) HM.out hi9 h91
        have HXL := dig_lt (c := c) HM.out
        obtain ⟨y, hy⟩ : ∃ y : Int, (c : Int) % 128 = y := ⟨_, rfl⟩
        obtain ⟨p, hp⟩ : ∃ p : Int, y * s = p := ⟨_, rfl⟩
        have hpn : p = ((c % 128 * 128 ^ i : Nat) : Int) := by
          rw [← hp, ← hy, HSC.out]; push_cast; rfl
        obtain ⟨x, hx⟩ : ∃ x : Nat, m + c % 128 * 128 ^ i = x := ⟨_, rfl⟩
        have hxi : (m : Int) + p = ((x : Nat) : Int) := by omega
        have hp2 : 0 ≤ p ∧ p < 18446744073709551616 := by omega
        have hx2 : (x : Int) < 18446744073709551616 := by
          have h1 : (128 : Nat) ^ i ≤ 128 ^ 9 := Nat.pow_le_pow_right (by decide) hi9
          have h2 : (128 : Nat) ^ 9 + 128 ^ 9 ≤ 18446744073709551616 := by decide
          have h3 := HM.out
          by_cases e : i = 9
          · have := h91 e
            have h4 : c % 128 * 128 ^ i ≤ 1 * 128 ^ i := Nat.mul_le_mul_right _ (by omega)
            omega
          · have h3 : (128 : Nat) ^ (i + 1) ≤ 128 ^ 9 := Nat.pow_le_pow_right (by decide) (by omega)
            omega
        rw [hx] at HTT HXL
        replace HXL := Lib.hid HXL
        have HX := Lib.hid hx
        have HPN := Lib.hid hpn
        clear hpn hx h9 g1 g2
        by_cases hbig : 127 < c
        · have hd1 : ((i : Int) == 9) = false := by rw [beq_eq_false_iff_ne]; omega
          have hd3 : decide ((c : Int) < 128) = false := decide_eq_false (by omega)
          have hi8 : i < 9 := by
            rcases Nat.lt_or_ge i 9 with q | q
            · exact q
            · have := h91 (by omega); omega
          obtain ⟨q, hq⟩ : ∃ q : Int, s * 128 = q := ⟨_, rfl⟩
          have HQN : Hid (q = ((128 ^ (i + 1) : Nat) : Int)) := by
            show _ = _
            rw [← hq, HSC.out, Nat.pow_succ]; push_cast; rfl
          have hq2 : 0 ≤ q ∧ q < 18446744073709551616 := by
            have h1 : (128 : Nat) ^ (i + 1) ≤ 128 ^ 9 := Nat.pow_le_pow_right (by decide) (by omega)
            have h2 : (128 : Nat) ^ 9 + 128 ^ 9 ≤ 18446744073709551616 := by decide
            have h3 := HQN.out
            obtain ⟨z, hz⟩ : ∃ z : Nat, 128 ^ (i + 1) = z := ⟨_, rfl⟩
            rw [hz] at h1 h3
            omega
          have HR : Hid (takeGo (List.drop (i + 1) l) (i + 1) x = takeV l) := by
            show _ = _
            rw [HTT.out, if_pos (by omega)]
          clear h91
          go_wp2_with fail
          go_roundw
          case rel => exact ⟨x, i + 1, q, by rfl, rfl, by go_num, by omega, by omega, HQN.out, HXL.out, HB.out, HR.out⟩
          case measure => simp [intOf]; omega
        · have hd3 : decide ((c : Int) < 128) = true := decide_eq_true (by omega)
          by_cases hz0 : c = 0 ∧ 0 < i
          · have hd4 : ((c : Int) == 0) = true := by rw [beq_iff_eq]; omega
            obtain ⟨j, hj⟩ : ∃ j, i = j + 1 := ⟨i - 1, by omega⟩
            subst hj
            have HR : Hid (takeV l = (0, 0, 11)) := by
              show _ = _
              rw [HTT.out, if_neg (by omega), if_pos (by omega)]
            have hd2 : decide ((1 : Int) < (c : Int)) = false := decide_eq_false (by omega)
            have ec : c = 0 := by omega
            subst ec
            have ey : y = 0 := by rw [← hy]; rfl
            subst ey
            have ep : p = 0 := by rw [← hp]; exact Int.zero_mul _
            subst ep
            have ex : x = m := by have := HX.out; omega
            subst ex
            replace hc : wr.cell? ⟨b, off + (j + 1), none⟩ = some (.int .u8 0) := hc
            clear hy hp hxi hd4 hd3 hbig hrb hp2 hc256 h91 hz0 hd2 hin hi9 hx2
            by_cases h9i : j = 8
            · have hj8 : j = 8 := by omega
              subst hj8
              clear h9i
              go_wp2_with fail
              go_ret3
              exact ⟨by rw [HR.out]; rfl, HB.out⟩
            · have hd1 : (((j + 1 : Nat) : Int) == 9) = false := by rw [beq_eq_false_iff_ne]; omega
              go_wp2_with fail
              go_ret3
              exact ⟨by rw [HR.out]; rfl, HB.out⟩
          · have HR : Hid (takeV l = (x, i + 1, 0)) := by
              show _ = _
              rw [HTT.out, if_neg (by omega), if_neg (by omega)]
            by_cases hc0 : c = 0
            · have hd4 : ((c : Int) == 0) = true := by rw [beq_iff_eq]; omega
              have hi0 : i = 0 := by omega
              subst hi0
              have ec : c = 0 := by omega
              subst ec
              have ey : y = 0 := by rw [← hy]; rfl
              subst ey
              have ep : p = 0 := by rw [← hp]; exact Int.zero_mul _
              subst ep
              have ex : x = m := by have := HX.out; omega
              subst ex
              replace hc : wr.cell? ⟨b, off, none⟩ = some (.int .u8 0) := hc
              clear hy hp hxi hd4 hd3 hbig hrb hp2 hc256 h91 hc0 hz0
              go_wp2_with fail
              go_ret3
              exact ⟨by rw [HR.out]; rfl, HB.out⟩
            · have hd4 : ((c : Int) == 0) = false := by rw [beq_eq_false_iff_ne]; omega
              by_cases h9i : i = 9
              · have hd1 : ((i : Int) == 9) = true := by rw [beq_iff_eq]; omega
                have hd2 : decide ((1 : Int) < (c : Int)) = false := decide_eq_false (by have := h91 h9i; omega)
                clear h91 h9i
                go_wp2_with fail
                go_ret3
                exact ⟨by rw [HR.out]; rfl, HB.out⟩
              · have hd1 : ((i : Int) == 9) = false := by rw [beq_eq_false_iff_ne]; omega
                clear h91
                go_wp2_with fail
                go_ret3
                exact ⟨by rw [HR.out]; rfl, HB.out⟩
    · have hii : ¬ (i : Int) < (n : Int) := by omega
      have HR : Hid (takeV l = (0, 0, 10)) := by
        show _ = _
        rw [← HE.out]; exact takeGo_end (by have := HLN.out; omega)
      go_wp2_with fail
      go_ret3
      exact ⟨by rw [HR.out]; rfl, HB.out⟩
end Go.Proofs.Ytbdkhgenkekioaa.Wi
