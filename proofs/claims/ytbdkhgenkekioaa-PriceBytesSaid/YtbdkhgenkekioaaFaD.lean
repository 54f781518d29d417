/- Fares: prices, shares, roundings. -/
import Derived.Test.YtbdkhgenkekioaaFaC
import Derived.StillTailTactics
namespace Go.Proofs.Ytbdkhgenkekioaa
open Go.RowKit Go.V Go.Proofs

set_option maxHeartbeats 1000000 in
theorem bprice_any (a : Option Addr) (n cap : Nat) (l : List Pair) (over far : Int) (w : World) (hm : n ≤ 1000000) (hok : bandOk l over = true) (hf : 0 ≤ far ∧ far ≤ 4294967296) (h : Sl Pair.cod w a n cap l) :
    Calls Try.prog 132 #[.slice a n cap, .int .i64 over, .int .i64 far] w fun e w' => e = .returned (.tuple #[.int .i64 (bandFind l over far), .int .i64 0]) ∧ Below w.heap.size w w' := by
  have hN := Lib.hid h.hlen
  have hs : l.Pairwise (fun x y => x.a < y.a) := by
    unfold bandOk at hok
    rw [Bool.and_eq_true] at hok
    exact (bandGo_all l _ over hok.2).2.1
  have hw : wB far 0 4294967296 = true := decide_eq_true hf
  go_enter Try.func132, Try.ntmps132
  go_upto_region 4 with (first
    | (go_at_call 116; refine (bandR_any a n cap l over _ hm h).mono ?_; rintro e w1 ⟨rfl, hb1⟩; rw [hok]; have HB1 := Lib.hid hb1; have hs1 := hb1.size; clear hb1)
    | (go_at_call 139; refine (bwithin_any _ _ _ _).mono ?_; rintro e w' ⟨rfl, rfl⟩; rw [hw])
    | (go_at_call 145; refine (first_any a n cap l far _ hm hs (h.below HB1.out)).mono ?_; rintro e w2 ⟨⟨i, rfl, hi, h1, h2⟩, rfl⟩; have H1 := Lib.hid h1; have H2 := Lib.hid h2; clear h1 h2))
  have hfin := bandFind_at l over far i H1.out H2.out
  have HF := Lib.hid hfin
  clear hfin
  by_cases hin : i < n
  · obtain ⟨b, off, x, rfl, hbl, hx, c0, c1⟩ := pair_at (h.below HB1.out) hin
    have HX := Lib.hid hx
    clear hx
    have b1 : (i : Int) < (n : Int) := by omega
    go_wp2_with fail
    go_ret2
    exact ⟨by rw [HF.out, HX.out]; rfl, HB1.out⟩
  · have b1 : ¬ (i : Int) < (n : Int) := by omega
    go_wp2_with fail
    go_ret2
    refine ⟨?_, HB1.out⟩
    rw [HF.out, List.getElem?_eq_none (by have := hN.out; omega)]; rfl


set_option maxHeartbeats 400000 in
theorem cis_any (a : Option Addr) (n cap : Nat) (c : Nat) (w : World) (hc : c < n) :
    Calls Try.prog 146 #[.slice a n cap, .int .i64 c] w fun e w' => e = .returned (.bool true) ∧ w = w' := by
  have b1 : (c : Int) < (n : Int) := by omega
  go_enter Try.func146, Try.ntmps146
  go_wp2
  go_ret
  exact ⟨rfl, rfl⟩

set_option maxHeartbeats 1000000 in
theorem capply_any (a : Option Addr) (n cap : Nat) (l : List Int) (c : Nat) (s p : Int) (w : World) (hm : n ≤ 1000000) (hok : sharesOk l = true) (hc : l[c]? = some s) (hp : 0 ≤ p ∧ p ≤ 281474976710656) (h : Sl icod w a n cap l) :
    Calls Try.prog 134 #[.slice a n cap, .int .i64 c, .int .i64 p] w fun e w' => e = .returned (.tuple #[.int .i64 (p * s / 1000), .int .i64 0]) ∧ Below w.heap.size w w' := by
  have hcn : c < n := by rw [h.hlen]; exact (List.getElem?_eq_some_iff.1 hc).1
  have hss := ((sharesOk_iff l).1 hok).2.2.2 s (List.mem_of_getElem? hc)
  obtain ⟨b, off, s', rfl, hbl, hx, c0⟩ := int_at h hcn
  rw [hc] at hx
  cases hx
  have b1 : (c : Int) < (n : Int) := by omega
  have h1 : 0 ≤ p * s := Int.mul_nonneg hp.1 hss.1
  have h2 : p * s ≤ 281474976710656 * 1000 := Int.mul_le_mul hp.2 hss.2 hss.1 (by decide)
  obtain ⟨m, hmm⟩ : ∃ m, p * s = m := ⟨_, rfl⟩
  rw [hmm] at h1 h2
  have hpn : ¬ p < 0 := by omega
  have hpn2 : ¬ 281474976710656 < p := by omega
  have e1 : m.tdiv 1000 = m / 1000 := Int.tdiv_eq_ediv_of_nonneg h1
  have HM := Lib.hid hmm
  have H := Lib.hid h
  clear hss hc
  go_enter Try.func134, Try.ntmps134
  go_wp2_with (first
    | (go_at_call 117; refine (sharesR_any _ n cap l _ hm h).mono ?_; rintro e w1 ⟨rfl, hb1⟩; rw [hok]; have c0 : w1.cell? ⟨b, off + c, none⟩ = some (.int .i64 s) := (by rw [(bcellX hb1).1 _ _ hbl]; exact c0); have HB1 := Lib.hid hb1; have hs1 := hb1.size; clear hb1)
    | (go_at_call 146; refine (cis_any _ n cap c _ hcn).mono ?_; rintro e w' ⟨rfl, rfl⟩))
  go_ret2
  exact ⟨by simp [HM.out], HB1.out⟩


set_option maxHeartbeats 1000000 in
theorem round0_any (n unit : Int) (w : World) (hn : 0 ≤ n ∧ n ≤ 281474976710656) (hu : 1 ≤ unit ∧ unit ≤ 16777216) :
    Calls Try.prog 136 #[.int .i64 0, .int .i64 n, .int .i64 unit] w fun e w' => e = .returned (.tuple #[.int .i64 (n / unit * unit), .int .i64 0]) ∧ Below w.heap.size w w' := by
  have mixed : Try.prog.follows .mixedOrders = true := by kernel_rfl
  have hw1 : wB n 0 281474976710656 = true := decide_eq_true hn
  have hw2 : wB unit 1 16777216 = true := decide_eq_true hu
  obtain ⟨q, hq⟩ : ∃ q, n / unit = q := ⟨_, rfl⟩
  obtain ⟨r, hr⟩ : ∃ r, n % unit = r := ⟨_, rfl⟩
  have k1 : 0 ≤ q := by rw [← hq]; exact Int.ediv_nonneg hn.1 (by omega)
  have k2 : q * unit ≤ n := by rw [← hq]; exact Int.ediv_mul_le n (by omega)
  have k3 : 0 ≤ q * unit := Int.mul_nonneg k1 (by omega)
  have k4 : 0 ≤ r ∧ r < unit := by rw [← hr]; exact ⟨Int.emod_nonneg n (by omega), Int.emod_lt_of_pos n (by omega)⟩
  have k5 : q ≤ n := by rw [← hq]; exact Int.ediv_le_self unit hn.1
  have hq2 : n.tdiv unit = q := by rw [Int.tdiv_eq_ediv_of_nonneg hn.1, hq]
  have hr2 : n.tmod unit = r := by rw [Int.tmod_eq_emod_of_nonneg hn.1, hr]
  have w1 : IntKind.i64.wrap q = q := by rw [IntKind.wrap_i64]; omega
  have w2 : IntKind.i64.wrap r = r := by rw [IntKind.wrap_i64]; omega
  obtain ⟨m, hm⟩ : ∃ m, q * unit = m := ⟨_, rfl⟩
  rw [hm] at k2 k3
  have w3 : IntKind.i64.wrap m = m := by rw [IntKind.wrap_i64]; omega
  have u0 : ¬ unit = 0 := by omega
  have u1 : (unit == 0) = false := by simp; omega
  go_enter Try.func136, Try.ntmps136
  go_wp2_with (go_at_call 147; refine (rwithin_any _ _ _ _).mono ?_; rintro e w' ⟨rfl, rfl⟩; first | rw [hw1] | rw [hw2])
  go_quiet (fail)
  go_wp2_with fail
  go_ret2
  exact ⟨by simp; rw [hq, hm], below_drewN (Below.refl _ _) _⟩

end Go.Proofs.Ytbdkhgenkekioaa
