/- Fares: the reference's word for what is to be paid. -/
import Derived.Test.YtgdhlhjflbinmaaFaF
namespace Go.Proofs.Ytgdhlhjflbinmaa
open Go.RowKit Go.V Go.Proofs

theorem rung_two {l : List Pair} {fr : Pair} (h : rungGo fr l = true) : ∀ (k : Nat) (x y : Pair), l[k]? = some x → l[k + 1]? = some y → x.a < y.a := by
  induction l generalizing fr with
  | nil => intro k x y hx; simp at hx
  | cons r l ih =>
    unfold rungGo at h
    rw [Bool.and_eq_true] at h
    intro k x y hx hy
    cases k with
    | zero =>
      simp at hx hy; subst hx
      cases l with
      | nil => simp at hy
      | cons q l =>
        simp at hy; subst hy
        have h2 := h.2
        unfold rungGo at h2
        rw [Bool.and_eq_true] at h2
        exact (of_decide_eq_true h2.1).1
    | succ k => exact ih h.2 k x y (by simpa using hx) (by simpa using hy)
theorem mul_thousand {p b : Int} (hp : 0 < p) (hp2 : p ≤ 281474976710656) (hb : 0 ≤ b) (hb2 : b ≤ 1000) : 0 ≤ p * b ∧ p * b ≤ 281474976710656000 ∧ (p * b).tdiv 1000 = p * b / 1000 ∧ 0 ≤ p * b / 1000 ∧ p * b / 1000 ≤ 281474976710656 := by
  have h1 : 0 ≤ p * b := Int.mul_nonneg (by omega) hb
  have h2 : p * b ≤ 281474976710656 * 1000 := Int.mul_le_mul hp2 hb2 hb (by decide)
  exact ⟨h1, h2, Int.tdiv_eq_ediv_of_nonneg h1, by omega, by omega⟩

set_option maxHeartbeats 2000000 in
theorem rpay_any (a : Option Addr) (n cap : Nat) (l : List Pair) (sum : Int) (w : World) (hok : rungsOk l = true) (hsum : 0 ≤ sum ∧ sum ≤ 281474976710656) (h : Sl Pair.cod w a n cap l) :
    Calls Try.prog 45 #[.slice a n cap, .int .i64 sum] w fun e w' => e = .returned (.int .i64 (payR l sum)) ∧ Below w.heap.size w w' := by
  have hN := Lib.hid h.hlen
  have mixed : Try.prog.follows .mixedOrders = true := by kernel_rfl
  have hok2 : l.length ≤ 16 ∧ rungGo ⟨-1, 1000⟩ l = true := by
    unfold rungsOk at hok
    simp only [Bool.and_eq_true] at hok
    exact ⟨of_decide_eq_true hok.1.1, hok.1.2⟩
  have hn : n ≤ 16 := by have := hN.out; omega
  have HG := Lib.hid hok2.2
  clear hok2
  by_cases h0 : n = 0
  · subst h0
    have hl : l = [] := List.eq_nil_of_length_eq_zero hN.out.symm
    have HL := Lib.hid hl
    clear hl
    go_enter Try.func45, Try.ntmps45
    go_wp2_with fail
    go_ret
    exact ⟨ret_int (by rw [HL.out]; rfl), Below.refl _ _⟩
  obtain ⟨b, off, x0, rfl, hbl, hx0, c00, c01⟩ := pair_at h (show 0 < n by omega)
  replace c00 : w.cell? ⟨b, off, none⟩ = some (.int .i64 x0.a) := by simpa using c00
  have hz : ((n : Int) == 0) = false := by simp; omega
  have b0 : (0 : Int) < (n : Int) := by omega
  have hpay : payR l sum = if sum ≤ x0.a then sum else payRGo sum l x0.a := by
    cases l with
    | nil => simp at hx0
    | cons q l => simp at hx0; subst hx0; rfl
  have HP := Lib.hid hpay
  have hx0a := rungGo_all l _ HG.out x0 (List.mem_of_getElem? hx0)
  simp only at hx0a
  obtain ⟨y1, y2, -, -⟩ := hx0a
  clear hpay hx0 h0
  by_cases hle : sum ≤ x0.a
  · go_enter Try.func45, Try.ntmps45
    go_wp2_with fail
    go_ret
    exact ⟨ret_int (by rw [HP.out, if_pos hle]), Below.refl _ _⟩
  have HLE := Lib.hid hle
  go_enter Try.func45, Try.ntmps45
  go_wp2_with fail
  go_loopw [5, 6] (fun v i wr => ∃ (k : Nat) (all : Int), i = .int .i64 k ∧ v = .int .i64 all ∧ k ≤ n ∧ Hid (payRGo sum l x0.a = payRGo sum (l.drop k) all) ∧ 0 ≤ all ∧ all ≤ (k + 1) * 281474976710656 ∧ Hid (Below w.heap.size w wr)) (fun _ i _ => n - (intOf i).toNat)
  case atStart => exact ⟨0, x0.a, rfl, rfl, by omega, rfl, by omega, by omega, Below.refl _ _⟩
  case round =>
    obtain ⟨k, all, rfl, rfl, hk, he, ha0, ha1, hb⟩ := hrel
    by_cases hlt : k < n
    · obtain ⟨b', off', x, e', -, hx, d0, d1⟩ := pair_at (h.below hb.out) hlt
      cases e'
      have hxa := rungGo_all l _ HG.out x (List.mem_of_getElem? hx)
      simp only at hxa
      obtain ⟨z1, z2, z3, z4⟩ := hxa
      have b1 : (k : Int) < (n : Int) := by omega
      have he2 : payRGo sum l x0.a = payRGo sum (l.drop (k + 1)) (if 0 < partOf sum x (l.drop (k + 1)) then all + partOf sum x (l.drop (k + 1)) * x.b / 1000 else all) := by rw [he.out, drop_at hx]; rfl
      by_cases hk1 : k + 1 < n
      · obtain ⟨b'', off'', y, e', -, hy, g0, g1⟩ := pair_at (h.below hb.out) hk1
        cases e'
        have hxy := rung_two HG.out k x y hx hy
        have hya := rungGo_all l _ HG.out y (List.mem_of_getElem? hy)
        simp only at hya
        obtain ⟨t1, t2, t3, t4⟩ := hya
        have b2 : (k : Int) + 1 < (n : Int) := by omega
        have hpart : partOf sum x (l.drop (k + 1)) = if y.a < sum then y.a - x.a else sum - x.a := by rw [drop_at hy]; rfl
        rw [hpart] at he2
        have g0' : wr.cell? ⟨b, off + (k + 1) * 2, none⟩ = some (.int .i64 y.a) := g0
        by_cases hc : y.a < sum
        · rw [if_pos hc] at he2
          rw [if_pos (by omega)] at he2
          obtain ⟨d, hd⟩ : ∃ d, y.a - x.a = d := ⟨_, rfl⟩
          rw [hd] at he2
          obtain ⟨m1, m2, m3, m4, m5⟩ := mul_thousand (p := d) (b := x.b) (by omega) (by omega) z4 (by omega)
          obtain ⟨M, hM⟩ : ∃ M, d * x.b = M := ⟨_, rfl⟩
          rw [hM] at he2 m1 m2 m3 m4 m5
          obtain ⟨T, hT⟩ : ∃ T, M / 1000 = T := ⟨_, rfl⟩
          rw [hT] at he2 m3 m4 m5
          have d1p : 0 < d := by omega
          have wd : IntKind.i64.wrap d = d := by rw [IntKind.wrap_i64]; omega
          have HE2 := Lib.hid he2
          clear he2 hx hy hpart g1
          go_wp2_with fail
          go_quiet (fail)
          go_wp2_with fail
          go_roundw
          case rel => exact ⟨k + 1, all + T, by go_num, by first | rfl | go_num, by omega, HE2.out, by omega, by omega, below_drewN hb.out _⟩
          case measure => simp [intOf]; omega
        · rw [if_neg hc] at he2
          obtain ⟨d, hd⟩ : ∃ d, sum - x.a = d := ⟨_, rfl⟩
          rw [hd] at he2
          by_cases hdp : 0 < d
          · rw [if_pos hdp] at he2
            obtain ⟨m1, m2, m3, m4, m5⟩ := mul_thousand (p := d) (b := x.b) (by omega) (by omega) z4 (by omega)
            obtain ⟨M, hM⟩ : ∃ M, d * x.b = M := ⟨_, rfl⟩
            rw [hM] at he2 m1 m2 m3 m4 m5
            obtain ⟨T, hT⟩ : ∃ T, M / 1000 = T := ⟨_, rfl⟩
            rw [hT] at he2 m3 m4 m5
            have HE2 := Lib.hid he2
            clear he2 hx hy hpart g1
            go_wp2_with fail
            go_roundw
            case rel => exact ⟨k + 1, all + T, by go_num, by first | rfl | go_num, by omega, HE2.out, by omega, by omega, hb.out⟩
            case measure => simp [intOf]; omega
          · rw [if_neg hdp] at he2
            have HE2 := Lib.hid he2
            clear he2 hx hy hpart g1
            go_wp2_with fail
            go_roundw
            case rel => exact ⟨k + 1, all, by go_num, rfl, by omega, HE2.out, by omega, by omega, hb.out⟩
            case measure => simp [intOf]; omega
      · have b2 : ¬ (k : Int) + 1 < (n : Int) := by omega
        have hpart : partOf sum x (l.drop (k + 1)) = sum - x.a := by rw [List.drop_eq_nil_of_le (by rw [← hN.out]; omega)]; rfl
        rw [hpart] at he2
        obtain ⟨d, hd⟩ : ∃ d, sum - x.a = d := ⟨_, rfl⟩
        rw [hd] at he2
        by_cases hdp : 0 < d
        · rw [if_pos hdp] at he2
          obtain ⟨m1, m2, m3, m4, m5⟩ := mul_thousand (p := d) (b := x.b) (by omega) (by omega) z4 (by omega)
          obtain ⟨M, hM⟩ : ∃ M, d * x.b = M := ⟨_, rfl⟩
          rw [hM] at he2 m1 m2 m3 m4 m5
          obtain ⟨T, hT⟩ : ∃ T, M / 1000 = T := ⟨_, rfl⟩
          rw [hT] at he2 m3 m4 m5
          have HE2 := Lib.hid he2
          clear he2 hx hpart
          go_wp2_with fail
          go_roundw
          case rel => exact ⟨k + 1, all + T, by go_num, by first | rfl | go_num, by omega, HE2.out, by omega, by omega, hb.out⟩
          case measure => simp [intOf]; omega
        · rw [if_neg hdp] at he2
          have HE2 := Lib.hid he2
          clear he2 hx hpart
          go_wp2_with fail
          go_roundw
          case rel => exact ⟨k + 1, all, by go_num, rfl, by omega, HE2.out, by omega, by omega, hb.out⟩
          case measure => simp [intOf]; omega
    · have hk' : k = n := by omega
      subst hk'
      go_wp2_with fail
      go_ret
      exact ⟨ret_int (by rw [HP.out, if_neg (by have := HLE.out; omega), he.out, List.drop_eq_nil_of_le (by rw [hN.out]; exact Nat.le_refl _)]; rfl), hb.out⟩
end Go.Proofs.Ytgdhlhjflbinmaa
