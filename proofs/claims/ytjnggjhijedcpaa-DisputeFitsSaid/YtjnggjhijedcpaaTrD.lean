/- The transfer layer: the small functions, and the references'. -/
import Derived.Test.YtjnggjhijedcpaaTrC
namespace Go.Proofs.Ytjnggjhijedcpaa
open Go.RowKit Go.V Go.Sort Go.Shelf Go.Proofs

theorem ride_at {w : World} {a : Option Addr} {n cap : Nat} {l : List Ride} (h : Sl Ride.cod w a n cap l) {i : Nat} (hi : i < n) :
   ∃ b off r, a = some ⟨b, off, none⟩ ∧ b < w.heap.size ∧ l[i]? = some r ∧ w.cell? ⟨b, off + i * 4, none⟩ = some (.int .i64 r.t) ∧ w.cell? ⟨b, off + i * 4 + 1, none⟩ = some (.int .i64 r.s) ∧ w.cell? ⟨b, off + i * 4 + 2, none⟩ = some (.int .i64 r.e) ∧ w.cell? ⟨b, off + i * 4 + 3, none⟩ = some (.int .i64 r.f) := by
  obtain ⟨b, off, rfl, hb, r, hr, hc⟩ := h.some hi
  exact ⟨b, off, r, rfl, hb, hr, hc 0 _ rfl, hc 1 _ rfl, hc 2 _ rfl, hc 3 _ rfl⟩

set_option maxHeartbeats 400000 in
theorem ahead_any (x y : Ride) (w : World) :
    Calls Try.prog 80 #[x.val, y.val] w fun e w' => e = .returned (.bool (ltR x y)) ∧ Below w.heap.size w w' := by
  go_enter Try.func80, Try.ntmps80
  go_wp2
  all_goals
    go_ret
    exact ⟨ret_bool (by rw [Bool.eq_iff_iff, ltR_iff]; simp [*]; try omega), ((Below.refl _ _).alloc (Nat.le_refl _) _).alloc (by simp) _⟩

def withinB (n lo hi : Int) : Bool := decide (lo ≤ n ∧ n ≤ hi)

set_option maxHeartbeats 400000 in
theorem within_any (n lo hi : Int) (w : World) :
    Calls Try.prog 121 #[.int .i64 n, .int .i64 lo, .int .i64 hi] w fun e w' => e = .returned (.bool (withinB n lo hi)) ∧ w = w' := by
  go_enter Try.func121, Try.ntmps121
  go_wp2
  all_goals
    go_ret
    exact ⟨ret_bool (by unfold withinB; rw [Bool.eq_iff_iff]; simp [*]; try omega), rfl⟩

def oneB (r : Ride) : Bool := withinB r.t 1 2147483648 && withinB r.e 0 1099511627776 && withinB r.s 0 r.e && withinB r.f (-1) 4294967296

set_option maxHeartbeats 400000 in
theorem one_any (r : Ride) (w : World) :
    Calls Try.prog 139 #[r.val] w fun e w' => e = .returned (.bool (oneB r)) ∧ Below w.heap.size w w' := by
  go_enter Try.func139, Try.ntmps139
  go_wp2_with (go_at_call 121; refine (within_any _ _ _ _).mono ?_; rintro e w' ⟨rfl, rfl⟩)
  all_goals
    go_ret
    exact ⟨ret_bool (by simp [oneB, *]), (Below.refl _ _).alloc (Nat.le_refl _) _⟩

def farS : List Ride → Int → Int
  | [], n => if n > 4294967296 then 4294967296 else n
  | r :: l, n => if r.f = -1 then -1 else farS l (n + r.f)

set_option maxHeartbeats 400000 in
theorem rfar_any (a : Option Addr) (n cap : Nat) (l : List Ride) (w : World) (hm : n ≤ 10000)
   (hc : Sl Ride.cod w a n cap l) (hf : ∀ r ∈ l, -1 ≤ r.f ∧ r.f ≤ 4294967296) :
    Calls Try.prog 64 #[.slice a n cap] w fun e w' => e = .returned (.int .i64 (farS l 0)) ∧ w = w' := by
  have hN := Lib.hid hc.hlen
  go_enter Try.func64, Try.ntmps64
  go_wp2
  go_loop [3, 4] (fun a i => ∃ (k : Nat) (s : Int), k ≤ n ∧ i = .int .i64 k ∧ a = .int .i64 s ∧ 0 ≤ s ∧ s ≤ k * 4294967296 ∧ Hid (farS l 0 = farS (l.drop k) s))
     (fun _ i => n - (intOf i).toNat)
  case atStart => exact ⟨0, 0, by omega, rfl, rfl, by omega, by omega, rfl⟩
  case round =>
    obtain ⟨k, s, hk, rfl, rfl, h0, h1, he⟩ := hrel
    by_cases hlt : k < n
    · obtain ⟨b, off, r, rfl, hb, hr, -, -, -, c3⟩ := ride_at hc hlt
      have hf' := hf r (List.mem_of_getElem? hr)
      have HR := Lib.hid hr; clear hr hf
      by_cases h9 : r.f = -1
      · have h9' : (r.f == -1) = true := by simpa using h9
        have H9 := Lib.hid h9; clear h9
        go_wp2
        go_ret
        exact ⟨ret_int (by rw [he.out, drop_at HR.out]; simp [farS, H9.out]), rfl⟩
      · have h9' : (r.f == -1) = false := by simpa using h9
        have h99 : 0 ≤ r.f := by omega
        have H9 := Lib.hid h9; clear h9
        go_wp2
        go_round
        case rel => exact ⟨k + 1, s + r.f, by omega, by go_num, rfl, by omega, by omega, by show _ = _; rw [he.out, drop_at HR.out]; simp [farS, H9.out]⟩
        case measure => simp [intOf]; omega
    · have hk' : k = l.length := by have := hN.out; omega
      have HK := Lib.hid hk'; clear hk'
      by_cases h9 : 4294967296 < s
      all_goals
        go_wp2
        go_ret
        exact ⟨ret_int (by rw [he.out, HK.out]; simp [farS]; omega), rfl⟩

def farT : List Ride → Int → Int
  | [], n => n
  | r :: l, n => if r.f < 0 then -1 else farT l (min (n + r.f) 4294967296)

set_option maxHeartbeats 400000 in
theorem far_any (a : Option Addr) (n cap : Nat) (l : List Ride) (w : World) (hm : n ≤ 10000)
   (hc : Sl Ride.cod w a n cap l) (hf : ∀ r ∈ l, -1 ≤ r.f ∧ r.f ≤ 4294967296) :
    Calls Try.prog 60 #[.slice a n cap] w fun e w' => e = .returned (.int .i64 (farT l 0)) ∧ Below w.heap.size w w' := by
  have hN := Lib.hid hc.hlen
  go_enter Try.func60, Try.ntmps60
  go_wp2
  go_loopw [3, 8] (fun a i wr => ∃ (k : Nat) (s : Int), k ≤ n ∧ i = .int .i64 k ∧ a = .int .i64 s ∧ 0 ≤ s ∧ s ≤ 4294967296 ∧ Hid (farT l 0 = farT (l.drop k) s) ∧ Below w.heap.size w wr)
     (fun _ i _ => n - (intOf i).toNat)
  case atStart => exact ⟨0, 0, by omega, rfl, rfl, by omega, by omega, rfl, Below.refl _ _⟩
  case round =>
    obtain ⟨k, s, hk, rfl, rfl, h0, h1, he, hb⟩ := hrel
    by_cases hlt : k < n
    · obtain ⟨b, off, r, rfl, -, hr, c0, c1, c2, c3⟩ := ride_at (hc.below hb) hlt
      have hf' := hf r (List.mem_of_getElem? hr)
      have HR := Lib.hid hr; clear hr hf
      have HB := Lib.hid hb
      have hbs := hb.size
      clear hb
      by_cases h9 : r.f < 0
      · have H9 := Lib.hid h9
        go_wp2
        go_ret
        exact ⟨ret_int (by rw [he.out, drop_at HR.out]; simp [farT, H9.out]), HB.out.alloc hbs _⟩
      · have H9 := Lib.hid h9
        go_wp2
        go_roundw
        case rel => exact ⟨k + 1, min (s + r.f) 4294967296, by omega, by go_num, by first | rfl | (congr 1; omega), by omega, by omega, by show _ = _; rw [he.out, drop_at HR.out]; simp [farT, H9.out], HB.out.alloc hbs _⟩
        case measure => simp [intOf]; omega
    · have hk' : k = l.length := by have := hN.out; omega
      have HK := Lib.hid hk'; clear hk'
      go_wp2
      go_ret
      exact ⟨ret_int (by rw [he.out, HK.out]; simp [farT]), hb⟩
end Go.Proofs.Ytjnggjhijedcpaa
