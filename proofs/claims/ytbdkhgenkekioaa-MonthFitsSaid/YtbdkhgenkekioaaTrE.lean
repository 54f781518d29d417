/- The transfer layer: the small functions, and the references'. -/
/- The transfer layer: lists held against one another; the reference's Right. -/
import Derived.Test.YtbdkhgenkekioaaTrC
namespace Go.Proofs.Ytbdkhgenkekioaa
open Go.RowKit Go.V Go.Sort Go.Shelf Go.Proofs

theorem ride_at {w : World} {a : Option Addr} {n cap : Nat} {l : List Ride} (h : Sl Ride.cod w a n cap l) {i : Nat} (hi : i < n) :
   ∃ b off r, a = some ⟨b, off, none⟩ ∧ b < w.heap.size ∧ l[i]? = some r ∧ w.cell? ⟨b, off + i * 4, none⟩ = some (.int .i64 r.t) ∧ w.cell? ⟨b, off + i * 4 + 1, none⟩ = some (.int .i64 r.s) ∧ w.cell? ⟨b, off + i * 4 + 2, none⟩ = some (.int .i64 r.e) ∧ w.cell? ⟨b, off + i * 4 + 3, none⟩ = some (.int .i64 r.f) := by
  obtain ⟨b, off, rfl, hb, r, hr, hc⟩ := h.some hi
  exact ⟨b, off, r, rfl, hb, hr, hc 0 _ rfl, hc 1 _ rfl, hc 2 _ rfl, hc 3 _ rfl⟩

set_option maxHeartbeats 400000 in
theorem ahead_any (x y : Ride) (w : World) :
    Calls Try.prog 39 #[x.val, y.val] w fun e w' => e = .returned (.bool (ltR x y)) ∧ Below w.heap.size w w' := by
  go_enter Try.func39, Try.ntmps39
  go_wp2
  all_goals
    go_ret
    exact ⟨ret_bool (by rw [Bool.eq_iff_iff, ltR_iff]; simp [*]; try omega), ((Below.refl _ _).alloc (Nat.le_refl _) _).alloc (by simp) _⟩

def withinB (n lo hi : Int) : Bool := decide (lo ≤ n ∧ n ≤ hi)

set_option maxHeartbeats 400000 in
theorem within_any (n lo hi : Int) (w : World) :
    Calls Try.prog 127 #[.int .i64 n, .int .i64 lo, .int .i64 hi] w fun e w' => e = .returned (.bool (withinB n lo hi)) ∧ w = w' := by
  go_enter Try.func127, Try.ntmps127
  go_wp2
  all_goals
    go_ret
    exact ⟨ret_bool (by unfold withinB; rw [Bool.eq_iff_iff]; simp [*]; try omega), rfl⟩

def oneB (r : Ride) : Bool := withinB r.t 1 2147483648 && withinB r.e 0 1099511627776 && withinB r.s 0 r.e && withinB r.f (-1) 4294967296

set_option maxHeartbeats 400000 in
theorem one_any (r : Ride) (w : World) :
    Calls Try.prog 90 #[r.val] w fun e w' => e = .returned (.bool (oneB r)) ∧ Below w.heap.size w w' := by
  go_enter Try.func90, Try.ntmps90
  go_wp2_with (go_at_call 127; refine (within_any _ _ _ _).mono ?_; rintro e w' ⟨rfl, rfl⟩)
  all_goals
    go_ret
    exact ⟨ret_bool (by simp [oneB, *]), (Below.refl _ _).alloc (Nat.le_refl _) _⟩

def farS : List Ride → Int → Int
  | [], n => if n > 4294967296 then 4294967296 else n
  | r :: l, n => if r.f = -1 then -1 else farS l (n + r.f)


def farT : List Ride → Int → Int
  | [], n => n
  | r :: l, n => if r.f < 0 then -1 else farT l (min (n + r.f) 4294967296)

set_option maxHeartbeats 400000 in
theorem far_any (a : Option Addr) (n cap : Nat) (l : List Ride) (w : World) (hm : n ≤ 10000)
   (hc : Sl Ride.cod w a n cap l) (hf : ∀ r ∈ l, -1 ≤ r.f ∧ r.f ≤ 4294967296) :
    Calls Try.prog 113 #[.slice a n cap] w fun e w' => e = .returned (.int .i64 (farT l 0)) ∧ Below w.heap.size w w' := by
  have hN := Lib.hid hc.hlen
  go_enter Try.func113, Try.ntmps113
  go_wp2
  go_loopw [3, 8] (fun a i wr => ∃ (k : Nat) (s : Int), k ≤ n ∧ i = .int .i64 k ∧ a = .int .i64 s ∧ 0 ≤ s ∧ s ≤ 4294967296 ∧ Hid (farT l 0 = farT (l.drop k) s) ∧ Below w.heap.size w wr)
     (fun _ i _ => n - (intOf i).toNat)
  case atStart => exact ⟨0, 0, by omega, rfl, rfl, by omega, by omega, rfl, Below.refl _ _⟩
  case round =>
    obtain ⟨k, s, hk, rfl, rfl, h0, h1, he, hb⟩ := hrel
    by_cases hlt : k < n
    · obtain ⟨b, off, r, rfl, -, hr, c0, c1, c2, c3⟩ := ride_at (hc.below hb) hlt
      have hf' := hf r (List.mem_of_getElem? hr)
      have HR := Lib.hid hr; clear hr hf
      have HB := Lib.hid hb
      have hbs := hb.size
      clear hb
      by_cases h9 : r.f < 0
      · have H9 := Lib.hid h9
        go_wp2
        go_ret
        exact ⟨ret_int (by rw [he.out, drop_at HR.out]; simp [farT, H9.out]), HB.out.alloc hbs _⟩
      · have H9 := Lib.hid h9
        go_wp2
        go_roundw
        case rel => exact ⟨k + 1, min (s + r.f) 4294967296, by omega, by go_num, by first | rfl | (congr 1; omega), by omega, by omega, by show _ = _; rw [he.out, drop_at HR.out]; simp [farT, H9.out], HB.out.alloc hbs _⟩
        case measure => simp [intOf]; omega
    · have hk' : k = l.length := by have := hN.out; omega
      have HK := Lib.hid hk'; clear hk'
      go_wp2
      go_ret
      exact ⟨ret_int (by rw [he.out, HK.out]; simp [farT]), hb⟩
end Go.Proofs.Ytbdkhgenkekioaa

namespace Go.Proofs.Ytbdkhgenkekioaa
open Go.RowKit Go.V Go.Sort Go.Shelf Go.Proofs

theorem below_drewN {B : Nat} {a w : World} (h : Below B a w) (n : Nat) : Below B a (w.drewN n) := ⟨h.os, h.tape, h.output, h.size, h.block⟩

theorem ride_eq (r s : Ride) : r = s ↔ r.t = s.t ∧ r.s = s.s ∧ r.e = s.e ∧ r.f = s.f := by
  constructor
  · rintro rfl; simp
  · obtain ⟨a, b, c, d⟩ := r; obtain ⟨a', b', c', d'⟩ := s
    rintro ⟨h1, h2, h3, h4⟩
    simp at h1 h2 h3 h4; subst h1 h2 h3 h4; rfl

theorem eqIn_ride (r s : Ride) (w : World) : (Op.equalIn 10000 24 r.val s.val).run Try.prog w = .ok (decide (r = s)) w := by
  by_cases h1 : r.t = s.t
  · by_cases h2 : r.s = s.s
    · by_cases h3 : r.e = s.e
      · by_cases h4 : r.f = s.f
        · rw [decide_eq_true ((ride_eq r s).2 ⟨h1, h2, h3, h4⟩)]
          simp [go_sem, h1, h2, h3, h4]
        · rw [decide_eq_false (fun h => h4 ((ride_eq r s).1 h).2.2.2)]
          simp [go_sem, h1, h2, h3, h4]
      · rw [decide_eq_false (fun h => h3 ((ride_eq r s).1 h).2.2.1)]
        simp [go_sem, h1, h2, h3]
    · rw [decide_eq_false (fun h => h2 ((ride_eq r s).1 h).2.1)]
      simp [go_sem, h1, h2]
  · rw [decide_eq_false (fun h => h1 ((ride_eq r s).1 h).1)]
    simp [go_sem, h1]
theorem neq_ride (r s : Ride) (w : World) : (binOp .neq 24 r.val s.val).run Try.prog w = .ok (.bool (!decide (r = s))) w := by
  rw [run_neq_struct, eqIn_ride]; rfl

set_option maxHeartbeats 400000 in
theorem same_any (a1 : Option Addr) (n1 cap1 : Nat) (xs : List Ride) (a2 : Option Addr) (n2 cap2 : Nat) (ys : List Ride) (w : World) (hm : n1 ≤ 1000000)
    (h1 : Sl Ride.cod w a1 n1 cap1 xs) (h2 : Sl Ride.cod w a2 n2 cap2 ys) :
    Calls Try.prog 45 #[.slice a1 n1 cap1, .slice a2 n2 cap2] w fun e w' => e = .returned (.bool (decide (xs = ys))) ∧ Below w.heap.size w w' := by
  have hN := Lib.hid h1.hlen
  have hM := Lib.hid h2.hlen
  by_cases hlen : n1 = n2
  · subst hlen
    go_enter Try.func45, Try.ntmps45
    go_wp2
    go_loopw [5] (fun i wr => ∃ (k : Nat), k ≤ n1 ∧ i = .int .i64 k ∧ Hid (xs.take k = ys.take k) ∧ Below w.heap.size w wr) (fun i _ => n1 - (intOf i).toNat)
    case atStart => exact ⟨0, by omega, rfl, by show _ = _; rw [List.take_zero, List.take_zero], Below.refl _ _⟩
    case round =>
      obtain ⟨k, hk, rfl, he, hb⟩ := hrel
      by_cases hlt : k < n1
      · obtain ⟨b, off, r, rfl, -, hr, c0, c1, c2, c3⟩ := ride_at (h1.below hb) hlt
        obtain ⟨b', off', r', rfl, -, hr', c0', c1', c2', c3'⟩ := ride_at (h2.below hb) hlt
        have HR := Lib.hid hr
        have HR' := Lib.hid hr'
        have HB := Lib.hid hb
        have hltz : (k : Int) < n1 := by omega
        clear hr hr' hb
        by_cases heq : r = r'
        · subst heq
          go_wp2_with fail
          go_quiet (fail)
          go_wp2_with fail
          go_roundw
          case rel => exact ⟨k + 1, by omega, by go_num, by show _ = _; rw [take_at HR.out, take_at HR'.out, he.out], below_drewN HB.out _⟩
          case measure => simp [intOf]; omega
        · have hq1 := fun w => eqIn_ride r r' w
          have hq2 := fun w => neq_ride r r' w
          rw [decide_eq_false heq] at hq1 hq2
          have HE := Lib.hid heq
          clear heq
          go_wp2_with fail
          go_quiet (fail)
          go_wp2_with fail
          go_ret
          exact ⟨ret_bool (by
            symm; rw [decide_eq_false_iff_not]
            intro h; apply HE.out
            have a1 := HR.out; have a2 := HR'.out
            rw [h, a2] at a1; exact (Option.some.inj a1).symm), below_drewN HB.out _⟩
      · have hk' : k = n1 := by omega
        have HK := Lib.hid hk'; clear hk'
        go_wp2
        go_ret
        exact ⟨ret_bool (by
          have e := he.out
          rw [HK.out, List.take_of_length_le (by rw [← hN.out]; omega), List.take_of_length_le (by rw [← hM.out]; omega)] at e
          simp [e]), hb⟩
  · have hl : (((n1 : Int)) != (n2 : Int)) = true := by simp; omega
    have HL := Lib.hid hlen
    clear hlen
    go_enter Try.func45, Try.ntmps45
    go_wp2
    go_ret
    exact ⟨ret_bool (by
      have := HL.out
      symm; rw [decide_eq_false_iff_not]
      intro h; apply this; rw [hN.out, hM.out, h]), Below.refl _ _⟩
end Go.Proofs.Ytbdkhgenkekioaa
