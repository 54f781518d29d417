/- Fares: prices, shares, roundings. -/
import Derived.Test.YtgdhlhjflbinmaaFaC
import Derived.StillTailTactics
namespace Go.Proofs.Ytgdhlhjflbinmaa
open Go.RowKit Go.V Go.Proofs

set_option maxHeartbeats 1000000 in
theorem bprice_any (a : Option Addr) (n cap : Nat) (l : List Pair) (over far : Int) (w : World) (hm : n ≤ 1000000) (hok : bandOk l over = true) (hf : 0 ≤ far ∧ far ≤ 4294967296) (h : Sl Pair.cod w a n cap l) :
    Calls Try.prog 53 #[.slice a n cap, .int .i64 over, .int .i64 far] w fun e w' => e = .returned (.tuple #[.int .i64 (bandFind l over far), .int .i64 0]) ∧ Below w.heap.size w w' := by
  have hN := Lib.hid h.hlen
  have hs : l.Pairwise (fun x y => x.a < y.a) := by
    unfold bandOk at hok
    rw [Bool.and_eq_true] at hok
    exact (bandGo_all l _ over hok.2).2.1
  have hw : wB far 0 4294967296 = true := decide_eq_true hf
  go_enter Try.func53, Try.ntmps53
  go_upto_region 4 with (first
    | (go_at_call 48; refine (bandR_any a n cap l over _ hm h).mono ?_; rintro e w1 ⟨rfl, hb1⟩; rw [hok]; have HB1 := Lib.hid hb1; have hs1 := hb1.size; clear hb1)
    | (go_at_call 65; refine (bwithin_any _ _ _ _).mono ?_; rintro e w' ⟨rfl, rfl⟩; rw [hw])
    | (go_at_call 70; refine (first_any a n cap l far _ hm hs (h.below HB1.out)).mono ?_; rintro e w2 ⟨⟨i, rfl, hi, h1, h2⟩, rfl⟩; have H1 := Lib.hid h1; have H2 := Lib.hid h2; clear h1 h2))
  have hfin := bandFind_at l over far i H1.out H2.out
  have HF := Lib.hid hfin
  clear hfin
  by_cases hin : i < n
  · obtain ⟨b, off, x, rfl, hbl, hx, c0, c1⟩ := pair_at (h.below HB1.out) hin
    have HX := Lib.hid hx
    clear hx
    have b1 : (i : Int) < (n : Int) := by omega
    go_wp2_with fail
    go_ret2
    exact ⟨by rw [HF.out, HX.out]; rfl, HB1.out⟩
  · have b1 : ¬ (i : Int) < (n : Int) := by omega
    go_wp2_with fail
    go_ret2
    refine ⟨?_, HB1.out⟩
    rw [HF.out, List.getElem?_eq_none (by have := hN.out; omega)]; rfl

set_option maxHeartbeats 1000000 in
theorem rbprice_any (a : Option Addr) (n cap : Nat) (l : List Pair) (over far : Int) (w : World) (hm : n ≤ 1000000) (h : Sl Pair.cod w a n cap l) :
    Calls Try.prog 42 #[.slice a n cap, .int .i64 over, .int .i64 far] w fun e w' => e = .returned (.int .i64 (bandFind l over far)) ∧ w = w' := by
  have hN := Lib.hid h.hlen
  go_enter Try.func42, Try.ntmps42
  go_wp2_with fail
  go_loop [7] (fun i => ∃ k : Nat, i = .int .i64 k ∧ k ≤ n ∧ Hid (bandFind l over far = bandFind (l.drop k) over far)) (fun i => n - (intOf i).toNat)
  case atStart => exact ⟨0, rfl, by omega, rfl⟩
  case round =>
    obtain ⟨k, rfl, hk, he⟩ := hrel
    by_cases hlt : k < n
    · obtain ⟨b, off, x, rfl, hbl, hx, c0, c1⟩ := pair_at h hlt
      have HX := Lib.hid hx
      clear hx
      have b1 : (k : Int) < (n : Int) := by omega
      have hfin : bandFind l over far = if far ≤ x.a then x.b else bandFind (l.drop (k + 1)) over far := by rw [he.out, drop_at HX.out]; rfl
      have HF := Lib.hid hfin
      clear hfin
      by_cases c : far ≤ x.a
      · go_wp2_with fail
        go_ret
        exact ⟨ret_int (by rw [HF.out, if_pos c]), rfl⟩
      · have C := Lib.hid c
        go_wp2_with fail
        go_round
        case rel => exact ⟨k + 1, by go_num, by omega, by show _ = _; rw [HF.out]; exact if_neg (by have := C.out; omega)⟩
        case measure => simp [intOf]; omega
    · have hk' : k = n := by omega
      subst hk'
      go_wp2_with fail
      go_ret
      exact ⟨ret_int (by rw [he.out, List.drop_eq_nil_of_le (by rw [hN.out]; exact Nat.le_refl _)]; rfl), rfl⟩

set_option maxHeartbeats 400000 in
theorem cis_any (a : Option Addr) (n cap : Nat) (c : Nat) (w : World) (hc : c < n) :
    Calls Try.prog 71 #[.slice a n cap, .int .i64 c] w fun e w' => e = .returned (.bool true) ∧ w = w' := by
  have b1 : (c : Int) < (n : Int) := by omega
  go_enter Try.func71, Try.ntmps71
  go_wp2
  go_ret
  exact ⟨rfl, rfl⟩

set_option maxHeartbeats 1000000 in
theorem capply_any (a : Option Addr) (n cap : Nat) (l : List Int) (c : Nat) (s p : Int) (w : World) (hm : n ≤ 1000000) (hok : sharesOk l = true) (hc : l[c]? = some s) (hp : 0 ≤ p ∧ p ≤ 281474976710656) (h : Sl icod w a n cap l) :
    Calls Try.prog 55 #[.slice a n cap, .int .i64 c, .int .i64 p] w fun e w' => e = .returned (.tuple #[.int .i64 (p * s / 1000), .int .i64 0]) ∧ Below w.heap.size w w' := by
  have hcn : c < n := by rw [h.hlen]; exact (List.getElem?_eq_some_iff.1 hc).1
  have hss := ((sharesOk_iff l).1 hok).2.2.2 s (List.mem_of_getElem? hc)
  obtain ⟨b, off, s', rfl, hbl, hx, c0⟩ := int_at h hcn
  rw [hc] at hx
  cases hx
  have b1 : (c : Int) < (n : Int) := by omega
  have h1 : 0 ≤ p * s := Int.mul_nonneg hp.1 hss.1
  have h2 : p * s ≤ 281474976710656 * 1000 := Int.mul_le_mul hp.2 hss.2 hss.1 (by decide)
  obtain ⟨m, hmm⟩ : ∃ m, p * s = m := ⟨_, rfl⟩
  rw [hmm] at h1 h2
  have hpn : ¬ p < 0 := by omega
  have hpn2 : ¬ 281474976710656 < p := by omega
  have e1 : m.tdiv 1000 = m / 1000 := Int.tdiv_eq_ediv_of_nonneg h1
  have HM := Lib.hid hmm
  have H := Lib.hid h
  clear hss hc
  go_enter Try.func55, Try.ntmps55
  go_wp2_with (first
    | (go_at_call 49; refine (sharesR_any _ n cap l _ hm h).mono ?_; rintro e w1 ⟨rfl, hb1⟩; rw [hok]; have c0 : w1.cell? ⟨b, off + c, none⟩ = some (.int .i64 s) := (by rw [(bcellX hb1).1 _ _ hbl]; exact c0); have HB1 := Lib.hid hb1; have hs1 := hb1.size; clear hb1)
    | (go_at_call 71; refine (cis_any _ n cap c _ hcn).mono ?_; rintro e w' ⟨rfl, rfl⟩))
  go_ret2
  exact ⟨by simp [HM.out], HB1.out⟩

set_option maxHeartbeats 1000000 in
theorem rcapply_any (a : Option Addr) (n cap : Nat) (l : List Int) (c : Nat) (s p : Int) (w : World) (hok : sharesOk l = true) (hc : l[c]? = some s) (hp : 0 ≤ p ∧ p ≤ 281474976710656) (h : Sl icod w a n cap l) :
    Calls Try.prog 44 #[.slice a n cap, .int .i64 c, .int .i64 p] w fun e w' => e = .returned (.int .i64 (p * s / 1000)) ∧ Below w.heap.size w w' := by
  have mixed : Try.prog.follows .mixedOrders = true := by kernel_rfl
  have hcn : c < n := by rw [h.hlen]; exact (List.getElem?_eq_some_iff.1 hc).1
  have hss := ((sharesOk_iff l).1 hok).2.2.2 s (List.mem_of_getElem? hc)
  obtain ⟨b, off, s', rfl, hbl, hx, c0⟩ := int_at h hcn
  rw [hc] at hx
  cases hx
  have b1 : (c : Int) < (n : Int) := by omega
  have hsp := share_split p s
  obtain ⟨D, hD⟩ : ∃ D, p / 1000 = D := ⟨_, rfl⟩
  obtain ⟨R, hR⟩ : ∃ R, p % 1000 = R := ⟨_, rfl⟩
  have d1 : 0 ≤ D ∧ D ≤ 281474976711 := by omega
  have r1 : 0 ≤ R ∧ R < 1000 := by omega
  have hD2 : p.tdiv 1000 = D := by rw [Int.tdiv_eq_ediv_of_nonneg hp.1, hD]
  have hR2 : p.tmod 1000 = R := by rw [Int.tmod_eq_emod_of_nonneg hp.1, hR]
  have m1 : 0 ≤ D * s := Int.mul_nonneg d1.1 hss.1
  have m2 : D * s ≤ 281474976711 * 1000 := Int.mul_le_mul d1.2 hss.2 hss.1 (by decide)
  have q1 : 0 ≤ R * s := Int.mul_nonneg r1.1 hss.1
  have q2 : R * s ≤ 1000 * 1000 := Int.mul_le_mul (by omega) hss.2 hss.1 (by decide)
  rw [hD, hR] at hsp
  obtain ⟨M, hM⟩ : ∃ M, D * s = M := ⟨_, rfl⟩
  obtain ⟨Q, hQ⟩ : ∃ Q, R * s = Q := ⟨_, rfl⟩
  rw [hM] at m1 m2 hsp
  rw [hQ] at q1 q2 hsp
  obtain ⟨T, hT⟩ : ∃ T, Q / 1000 = T := ⟨_, rfl⟩
  have t1 : 0 ≤ T ∧ T ≤ 1000 := by omega
  have hT2 : Q.tdiv 1000 = T := by rw [Int.tdiv_eq_ediv_of_nonneg q1, hT]
  rw [hT] at hsp
  have w1 : IntKind.i64.wrap D = D := by rw [IntKind.wrap_i64]; omega
  have w2 : IntKind.i64.wrap M = M := by rw [IntKind.wrap_i64]; omega
  have w3 : IntKind.i64.wrap R = R := by rw [IntKind.wrap_i64]; omega
  have w4 : IntKind.i64.wrap Q = Q := by rw [IntKind.wrap_i64]; omega
  have w5 : IntKind.i64.wrap T = T := by rw [IntKind.wrap_i64]; omega
  have w6 : IntKind.i64.wrap (M + T) = M + T := by rw [IntKind.wrap_i64]; omega
  have HSP := Lib.hid hsp
  clear hsp hss
  go_enter Try.func44, Try.ntmps44
  go_wp2_with fail
  go_quiet (fail)
  go_wp2_with fail
  go_ret
  exact ⟨ret_int (by rw [← HSP.out]), below_drewN (Below.refl _ _) _⟩

set_option maxHeartbeats 1000000 in
theorem round0_any (n unit : Int) (w : World) (hn : 0 ≤ n ∧ n ≤ 281474976710656) (hu : 1 ≤ unit ∧ unit ≤ 16777216) :
    Calls Try.prog 57 #[.int .i64 0, .int .i64 n, .int .i64 unit] w fun e w' => e = .returned (.tuple #[.int .i64 (n / unit * unit), .int .i64 0]) ∧ Below w.heap.size w w' := by
  have mixed : Try.prog.follows .mixedOrders = true := by kernel_rfl
  have hw1 : wB n 0 281474976710656 = true := decide_eq_true hn
  have hw2 : wB unit 1 16777216 = true := decide_eq_true hu
  obtain ⟨q, hq⟩ : ∃ q, n / unit = q := ⟨_, rfl⟩
  obtain ⟨r, hr⟩ : ∃ r, n % unit = r := ⟨_, rfl⟩
  have k1 : 0 ≤ q := by rw [← hq]; exact Int.ediv_nonneg hn.1 (by omega)
  have k2 : q * unit ≤ n := by rw [← hq]; exact Int.ediv_mul_le n (by omega)
  have k3 : 0 ≤ q * unit := Int.mul_nonneg k1 (by omega)
  have k4 : 0 ≤ r ∧ r < unit := by rw [← hr]; exact ⟨Int.emod_nonneg n (by omega), Int.emod_lt_of_pos n (by omega)⟩
  have k5 : q ≤ n := by rw [← hq]; exact Int.ediv_le_self unit hn.1
  have hq2 : n.tdiv unit = q := by rw [Int.tdiv_eq_ediv_of_nonneg hn.1, hq]
  have hr2 : n.tmod unit = r := by rw [Int.tmod_eq_emod_of_nonneg hn.1, hr]
  have w1 : IntKind.i64.wrap q = q := by rw [IntKind.wrap_i64]; omega
  have w2 : IntKind.i64.wrap r = r := by rw [IntKind.wrap_i64]; omega
  obtain ⟨m, hm⟩ : ∃ m, q * unit = m := ⟨_, rfl⟩
  rw [hm] at k2 k3
  have w3 : IntKind.i64.wrap m = m := by rw [IntKind.wrap_i64]; omega
  have u0 : ¬ unit = 0 := by omega
  have u1 : (unit == 0) = false := by simp; omega
  go_enter Try.func57, Try.ntmps57
  go_wp2_with (go_at_call 46; refine (rwithin_any _ _ _ _).mono ?_; rintro e w' ⟨rfl, rfl⟩; first | rw [hw1] | rw [hw2])
  go_quiet (fail)
  go_wp2_with fail
  go_ret2
  exact ⟨by simp; rw [hq, hm], below_drewN (Below.refl _ _) _⟩

set_option maxHeartbeats 1000000 in
theorem rround0_any (n unit : Int) (w : World) (hn : 0 ≤ n ∧ n ≤ 281474976710656) (hu : 1 ≤ unit ∧ unit ≤ 16777216) :
    Calls Try.prog 43 #[.int .i64 0, .int .i64 n, .int .i64 unit] w fun e w' => e = .returned (.int .i64 (n / unit * unit)) ∧ w = w' := by
  obtain ⟨r, hr⟩ : ∃ r, n % unit = r := ⟨_, rfl⟩
  have k4 : 0 ≤ r ∧ r < unit := by rw [← hr]; exact ⟨Int.emod_nonneg n (by omega), Int.emod_lt_of_pos n (by omega)⟩
  have hr2 : n.tmod unit = r := by rw [Int.tmod_eq_emod_of_nonneg hn.1, hr]
  have k5 : r ≤ n := by
    have e1 := Int.mul_ediv_add_emod n unit
    have e2 : 0 ≤ unit * (n / unit) := Int.mul_nonneg (by omega) (Int.ediv_nonneg hn.1 (by omega))
    omega
  have u0 : ¬ unit = 0 := by omega
  have u1 : (unit == 0) = false := by simp; omega
  have hfin : n / unit * unit = n - r := by rw [← hr]; have := Int.mul_ediv_add_emod n unit; rw [Int.mul_comm] at this; omega
  have HF := Lib.hid hfin
  clear hfin
  go_enter Try.func43, Try.ntmps43
  by_cases c : 0 < r
  all_goals
    go_wp2_with fail
    go_ret
    exact ⟨ret_int HF.out.symm, rfl⟩
end Go.Proofs.Ytgdhlhjflbinmaa
