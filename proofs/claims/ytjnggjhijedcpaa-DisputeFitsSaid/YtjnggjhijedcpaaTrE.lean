/- The transfer layer: lists held against one another; the reference's Right. -/
import Derived.Test.YtjnggjhijedcpaaTrD
namespace Go.Proofs.Ytjnggjhijedcpaa
open Go.RowKit Go.V Go.Sort Go.Shelf Go.Proofs

theorem below_drewN {B : Nat} {a w : World} (h : Below B a w) (n : Nat) : Below B a (w.drewN n) := ⟨h.os, h.tape, h.output, h.size, h.block⟩

theorem ride_eq (r s : Ride) : r = s ↔ r.t = s.t ∧ r.s = s.s ∧ r.e = s.e ∧ r.f = s.f := by
  constructor
  · rintro rfl; simp
  · obtain ⟨a, b, c, d⟩ := r; obtain ⟨a', b', c', d'⟩ := s
    rintro ⟨h1, h2, h3, h4⟩
    simp at h1 h2 h3 h4; subst h1 h2 h3 h4; rfl

theorem eqIn_ride (r s : Ride) (w : World) : (Op.equalIn 10000 42 r.val s.val).run Try.prog w = .ok (decide (r = s)) w := by
  by_cases h1 : r.t = s.t
  · by_cases h2 : r.s = s.s
    · by_cases h3 : r.e = s.e
      · by_cases h4 : r.f = s.f
        · rw [decide_eq_true ((ride_eq r s).2 ⟨h1, h2, h3, h4⟩)]
          simp [go_sem, h1, h2, h3, h4]
        · rw [decide_eq_false (fun h => h4 ((ride_eq r s).1 h).2.2.2)]
          simp [go_sem, h1, h2, h3, h4]
      · rw [decide_eq_false (fun h => h3 ((ride_eq r s).1 h).2.2.1)]
        simp [go_sem, h1, h2, h3]
    · rw [decide_eq_false (fun h => h2 ((ride_eq r s).1 h).2.1)]
      simp [go_sem, h1, h2]
  · rw [decide_eq_false (fun h => h1 ((ride_eq r s).1 h).1)]
    simp [go_sem, h1]
theorem neq_ride (r s : Ride) (w : World) : (binOp .neq 42 r.val s.val).run Try.prog w = .ok (.bool (!decide (r = s))) w := by
  rw [run_neq_struct, eqIn_ride]; rfl

set_option maxHeartbeats 400000 in
theorem same_any (a1 : Option Addr) (n1 cap1 : Nat) (xs : List Ride) (a2 : Option Addr) (n2 cap2 : Nat) (ys : List Ride) (w : World) (hm : n1 ≤ 1000000)
    (h1 : Sl Ride.cod w a1 n1 cap1 xs) (h2 : Sl Ride.cod w a2 n2 cap2 ys) :
    Calls Try.prog 42 #[.slice a1 n1 cap1, .slice a2 n2 cap2] w fun e w' => e = .returned (.bool (decide (xs = ys))) ∧ Below w.heap.size w w' := by
  have hN := Lib.hid h1.hlen
  have hM := Lib.hid h2.hlen
  by_cases hlen : n1 = n2
  · subst hlen
    go_enter Try.func42, Try.ntmps42
    go_wp2
    go_loopw [5] (fun i wr => ∃ (k : Nat), k ≤ n1 ∧ i = .int .i64 k ∧ Hid (xs.take k = ys.take k) ∧ Below w.heap.size w wr) (fun i _ => n1 - (intOf i).toNat)
    case atStart => exact ⟨0, by omega, rfl, by show _ = _; rw [List.take_zero, List.take_zero], Below.refl _ _⟩
    case round =>
      obtain ⟨k, hk, rfl, he, hb⟩ := hrel
      by_cases hlt : k < n1
      · obtain ⟨b, off, r, rfl, -, hr, c0, c1, c2, c3⟩ := ride_at (h1.below hb) hlt
        obtain ⟨b', off', r', rfl, -, hr', c0', c1', c2', c3'⟩ := ride_at (h2.below hb) hlt
        have HR := Lib.hid hr
        have HR' := Lib.hid hr'
        have HB := Lib.hid hb
        have hltz : (k : Int) < n1 := by omega
        clear hr hr' hb
        by_cases heq : r = r'
        · subst heq
          go_wp2_with fail
          go_quiet (fail)
          go_wp2_with fail
          go_roundw
          case rel => exact ⟨k + 1, by omega, by go_num, by show _ = _; rw [take_at HR.out, take_at HR'.out, he.out], below_drewN HB.out _⟩
          case measure => simp [intOf]; omega
        · have hq1 := fun w => eqIn_ride r r' w
          have hq2 := fun w => neq_ride r r' w
          rw [decide_eq_false heq] at hq1 hq2
          have HE := Lib.hid heq
          clear heq
          go_wp2_with fail
          go_quiet (fail)
          go_wp2_with fail
          go_ret
          exact ⟨ret_bool (by
            symm; rw [decide_eq_false_iff_not]
            intro h; apply HE.out
            have a1 := HR.out; have a2 := HR'.out
            rw [h, a2] at a1; exact (Option.some.inj a1).symm), below_drewN HB.out _⟩
      · have hk' : k = n1 := by omega
        have HK := Lib.hid hk'; clear hk'
        go_wp2
        go_ret
        exact ⟨ret_bool (by
          have e := he.out
          rw [HK.out, List.take_of_length_le (by rw [← hN.out]; omega), List.take_of_length_le (by rw [← hM.out]; omega)] at e
          simp [e]), hb⟩
  · have hl : (((n1 : Int)) != (n2 : Int)) = true := by simp; omega
    have HL := Lib.hid hlen
    clear hlen
    go_enter Try.func42, Try.ntmps42
    go_wp2
    go_ret
    exact ⟨ret_bool (by
      have := HL.out
      symm; rw [decide_eq_false_iff_not]
      intro h; apply this; rw [hN.out, hM.out, h]), Below.refl _ _⟩
end Go.Proofs.Ytjnggjhijedcpaa
