/- Fares: the law on months' bills, walked. -/
import Derived.Test.YtjnggjhijedcpaaFaN
import Derived.Test.YtjnggjhijedcpaaFaP
import Derived.Deep.DeepFit
namespace Go.Proofs.Ytjnggjhijedcpaa
open Go.RowKit Go.V Go.Proofs

theorem groupsR_len (l : List Ride) (window chain : Int) : (groupsR l window chain).length ≤ l.length ∧ ∀ g ∈ groupsR l window chain, g.length ≤ l.length := by
  unfold groupsR
  by_cases h : GroupsP l window chain
  · rw [if_pos h]
    have h1 := groups_le h.2.1.1 h.2.2.1 (window := window) (isort ltR l)
    have h2 := groups_flat window chain (isort ltR l)
    have h3 := (isort_perm (lt := ltR) l).length_eq
    refine ⟨by omega, fun g hg => ?_⟩
    have h4 : g.length ≤ (groupsOf window chain (isort ltR l)).flatten.length := (List.sublist_flatten_of_mem hg).length_le
    rw [h2, h3] at h4; exact h4
  · rw [if_neg h]; simp
theorem billG_len (t : Tar) (c : Int) (l : List Ride) : (billG t c l).length ≤ l.length ∧ ∀ g ∈ billG t c l, g.trips.length ≤ l.length := by
  unfold billG grpsOf
  obtain ⟨h1, h2⟩ := groupsR_len l t.window t.chain
  split
  · refine ⟨by rw [List.length_map]; exact h1, fun g hg => ?_⟩
    obtain ⟨x, hx, rfl⟩ := List.mem_map.1 hg
    show (x.map Ride.t).length ≤ _
    rw [List.length_map]; exact h2 x hx
  · simp

set_option maxHeartbeats 8000000 in
set_option maxRecDepth 100000 in
theorem pmonths_any (t : Tar) (hb hs hr : Hdr) (c : Int) (a : Option Addr) (n cap : Nat) (xs : List Ride) (w : World) (hok : ∀ r ∈ xs, Ride.ok r) (h : TarIn w t hb hs hr) (hx : Sl Ride.cod w a n cap xs) :
    Calls Try.prog 3 #[t.val hb hs hr, .int .i64 c, .slice a n cap] w fun e w' => e = .returned (.bool true) ∧ Below w.heap.size w w' := by
  have mixed : Try.prog.follows .mixedOrders = true := by kernel_rfl
  have hN := Lib.hid hx.hlen
  have hnm : n ≤ 9223372036854775807 := by have := hx.hcap; have := hx.hmax; unfold maxLen at this; omega
  have hbm : hb.n ≤ 9223372036854775807 ∧ hs.n ≤ 9223372036854775807 ∧ hr.n ≤ 9223372036854775807 := by
    have h1 := h.b.hcap; have h2 := h.b.hmax; have h3 := h.s.hcap; have h4 := h.s.hmax; have h5 := h.r.hcap; have h6 := h.r.hmax
    unfold maxLen at h2 h4 h6; omega
  have TB0 : Hid (TarBox 26 (w.alloc (t.box hb hs hr)) w.heap.size t hb hs hr) := box_new _ _
  have B0 : Hid (Below w.heap.size w (w.alloc (t.box hb hs hr))) := (Below.refl _ _).alloc (Nat.le_refl _) _
  unfold Tar.box at TB0 B0
  obtain ⟨fb, hfb⟩ : ∃ fb, (decide (hb.n ≤ 100) && decide (hs.n ≤ 50) && decide (hr.n ≤ 50)) = fb := ⟨_, rfl⟩
  have HFB := Lib.hid hfb
  unfold Tar.val
  go_enter Try.func3, Try.ntmps3
  cases fb with
  | false =>
    clear hfb
    go_wp2_with (first
      | (go_at_call 11; refine (awake_any _).mono ?_; rintro e w1 ⟨rfl, hb1⟩; have HB1 := Lib.hid (B0.out.trans (hb1.mono B0.out.size)); have TB1 := Lib.hid (TB0.out.below hb1); obtain ⟨kk, k0, k1, k2, k3, k4, k5, k6, k7, k8⟩ := TB1.out.cells; clear hb1)
      | (go_at_call 12; refine (few_any t hb hs hr _ hbm).mono ?_; rintro e w2 ⟨rfl, hb2⟩; rw [HFB.out]; have HB2 := Lib.hid (HB1.out.trans (hb2.mono HB1.out.size)); clear hb2))
    go_ret
    exact ⟨rfl, HB2.out⟩
  | true =>
    have hfew : hb.n ≤ 1000000 ∧ hs.n ≤ 1000000 ∧ hr.n ≤ 1000000 := by
      simp only [Bool.and_eq_true, decide_eq_true_eq] at hfb; omega
    clear hfb
    by_cases hbig : 100 < n
    · go_wp2_with (first
        | (go_at_call 11; refine (awake_any _).mono ?_; rintro e w1 ⟨rfl, hb1⟩; have HB1 := Lib.hid (B0.out.trans (hb1.mono B0.out.size)); have TB1 := Lib.hid (TB0.out.below hb1); obtain ⟨kk, k0, k1, k2, k3, k4, k5, k6, k7, k8⟩ := TB1.out.cells; clear hb1)
        | (go_at_call 12; refine (few_any t hb hs hr _ hbm).mono ?_; rintro e w2 ⟨rfl, hb2⟩; rw [HFB.out]; have HB2 := Lib.hid (HB1.out.trans (hb2.mono HB1.out.size)); clear hb2))
      go_ret
      exact ⟨rfl, HB2.out⟩
    obtain ⟨gl1, gl2⟩ := billG_len t c xs
    obtain ⟨gs, hgs⟩ : ∃ gs, billG t c xs = gs := ⟨_, rfl⟩
    obtain ⟨S, hS⟩ : ∃ S, billS t c xs = S := ⟨_, rfl⟩
    obtain ⟨P, hP⟩ : ∃ P, billP t c xs = P := ⟨_, rfl⟩
    obtain ⟨E, hE⟩ : ∃ E, monthE t c xs = E := ⟨_, rfl⟩
    have hEE : (E == E) = true := by simp
    rw [hgs] at gl1 gl2
    have hgn : gs.length ≤ 1000000 := by have := hN.out; omega
    have hgt : ∀ g ∈ gs, g.trips.length ≤ 1000000 := fun g hg => by have := gl2 g hg; have := hN.out; omega
    have HGT := Lib.hid hgt
    have HQ : Hid (billG t c xs = gs ∧ billS t c xs = S ∧ billP t c xs = P ∧ monthE t c xs = E) := ⟨hgs, hS, hP, hE⟩
    clear gl1 gl2 hgs hS hP hE hgt
    go_upto_region 7 with (first
        | (go_at_call 11; refine (awake_any _).mono ?_; rintro e w1 ⟨rfl, hb1⟩; have HB1 := Lib.hid (B0.out.trans (hb1.mono B0.out.size)); have TB1 := Lib.hid (TB0.out.below hb1); obtain ⟨kk, k0, k1, k2, k3, k4, k5, k6, k7, k8⟩ := TB1.out.cells; clear hb1)
        | (go_at_call 12; refine (few_any t hb hs hr _ hbm).mono ?_; rintro e w2 ⟨rfl, hb2⟩; rw [HFB.out]; have HB2 := Lib.hid (HB1.out.trans (hb2.mono HB1.out.size)); have TB2 := Lib.hid (TB1.out.below hb2); obtain ⟨kk, k0, k1, k2, k3, k4, k5, k6, k7, k8⟩ := TB2.out.cells; clear hb2)
        | (go_at_call 13; refine (month_any t hb hs hr c a n cap xs _ hfew (by omega) hok (h.below HB2.out) (hx.below HB2.out)).mono ?_; rintro e w3 ⟨v, rfl, hbl, hb3⟩; rw [HQ.out.2.2.2]; rw [HQ.out.1, HQ.out.2.1, HQ.out.2.2.1] at hbl; obtain ⟨a1, c1, g1, rfl, hin1⟩ := hbl.billIn; have HI1 := Lib.hid hin1; have HB3 := Lib.hid (HB2.out.trans (hb3.mono HB2.out.size)); have hs3 := HB3.out.size; have TB3 := Lib.hid (TB2.out.below hb3); obtain ⟨kk, k0, k1, k2, k3, k4, k5, k6, k7, k8⟩ := TB3.out.cells; clear hb3 hbl hin1)
        | (go_at_call 14; refine (rmonth_any t hb hs hr c a n cap xs _ hfew (by omega) ((h.below HB3.out).below ((Below.refl _ _).alloc (Nat.le_refl _) _)) ((hx.below HB3.out).below ((Below.refl _ _).alloc (Nat.le_refl _) _))).mono ?_; rintro e w4 ⟨v, rfl, hbl, hb4⟩; rw [HQ.out.2.2.2]; rw [HQ.out.1, HQ.out.2.1, HQ.out.2.2.1] at hbl; obtain ⟨a2, c2, g2, rfl, hin2⟩ := hbl.billIn; have HI2 := Lib.hid hin2; have HI3 : Hid (BillIn w4 a1 gs.length c1 g1 gs) := (HI1.out.below ((Below.refl _ _).alloc (Nat.le_refl _) _)).below hb4; have HB4 : Hid (Below w.heap.size w w4) := (HB3.out.alloc hs3 _).trans (hb4.mono (by simp; omega)); have hs4 := HB4.out.size; have TB4 : Hid (TarBox 26 w4 w.heap.size t hb hs hr) := (TB3.out.below ((Below.refl _ _).alloc (Nat.le_refl _) _)).below hb4; have X4 : Hid (w4.heap[w3.heap.size]? = some (.cells #[.slice a1 gs.length c1, .int .i64 S, .int .i64 P] 32 (0, 0))) := box_below (box_new w3 _) hb4; clear hb4 hbl hin2 k0 k1 k2 k3 k4 k5 k6 k7 k8 kk))
    have Y1 : Hid ((w4.alloc (.cells #[.slice a2 gs.length c2, .int .i64 S, .int .i64 P] 32)).heap[w3.heap.size]? = some (.cells #[.slice a1 gs.length c1, .int .i64 S, .int .i64 P] 32 (0, 0))) := box_alloc X4.out
    have Y2 : Hid ((w4.alloc (.cells #[.slice a2 gs.length c2, .int .i64 S, .int .i64 P] 32)).heap[w4.heap.size]? = some (.cells #[.slice a2 gs.length c2, .int .i64 S, .int .i64 P] 32 (0, 0))) := box_new _ _
    have Y3 : Hid (TarBox 26 (w4.alloc (.cells #[.slice a2 gs.length c2, .int .i64 S, .int .i64 P] 32)) w.heap.size t hb hs hr) := TB4.out.below ((Below.refl _ _).alloc (Nat.le_refl _) _)
    have Y4 : Hid (Below w.heap.size w (w4.alloc (.cells #[.slice a2 gs.length c2, .int .i64 S, .int .i64 P] 32))) := HB4.out.alloc hs4 _
    have Y5 : Hid (BillIn (w4.alloc (.cells #[.slice a2 gs.length c2, .int .i64 S, .int .i64 P] 32)) a1 gs.length c1 g1 gs) := HI3.out.below ((Below.refl _ _).alloc (Nat.le_refl _) _)
    have Y6 : Hid (BillIn (w4.alloc (.cells #[.slice a2 gs.length c2, .int .i64 S, .int .i64 P] 32)) a2 gs.length c2 g2 gs) := HI2.out.below ((Below.refl _ _).alloc (Nat.le_refl _) _)
    obtain ⟨W, hW⟩ : ∃ W, w4.alloc (.cells #[.slice a2 gs.length c2, .int .i64 S, .int .i64 P] 32) = W := ⟨_, rfl⟩
    rw [hW] at Y1 Y2 Y3 Y4 Y5 Y6 ⊢
    clear hW
    have Y7 := Lib.hid (h.below Y4.out)
    obtain ⟨p0, p1, p2, -, -, -⟩ := box3_cells Y1.out
    obtain ⟨q0, q1, q2, -, -, -⟩ := box3_cells Y2.out
    obtain ⟨-, k0, k1, k2, k3, k4, k5, k6, k7, k8⟩ := Y3.out.cells
    have P0 := cell_regrown p0
    have P1 := cell_regrown p1
    have P2 := cell_regrown p2
    have Q0 := cell_regrown q0
    have Q1 := cell_regrown q1
    have Q2 := cell_regrown q2
    have K0 := cell_regrown k0
    have K1 := cell_regrown k1
    have K2 := cell_regrown k2
    have K3 := cell_regrown k3
    have K4 := cell_regrown k4
    have K5 := cell_regrown k5
    have K6 := cell_regrown k6
    have K7 := cell_regrown k7
    have K8 := cell_regrown k8
    clear p0 p1 p2 q0 q1 q2 k0 k1 k2 k3 k4 k5 k6 k7 k8
    refine wp_region_quiet_below (by assumption) (by kernel_rfl) ?_
    repeat (quiet_step (first
      | (go_at_call 15; exact Calls.regrown_of (rsame_eq a1 a2 _ c1 c2 g1 g2 gs S P _ hgn HGT.out (Y5.out.below (below_regrown _ _ _)) (Y6.out.below (below_regrown _ _ _))))
      | (go_at_call 16; exact Calls.regrown_of (tarR_any t hb hs hr _ hfew (Y7.out.below (below_regrown _ _ _))))
      | (go_at_call 17; exact Calls.regrown_of (rtarR_any t hb hs hr _ hfew (Y7.out.below (below_regrown _ _ _))))))
    refine wpQuiet_nil ?_
    intro w9 hw9
    obtain ⟨⟨nd, osq⟩, rfl⟩ := hw9
    have hb9 := below_regrown W nd osq
    generalize Go.Sort.grow (redrawn W nd) osq = w9 at hb9 ⊢
    go_wp2_with fail
    go_ret
    exact ⟨by simp, Y4.out.trans (hb9.mono Y4.out.size)⟩
end Go.Proofs.Ytjnggjhijedcpaa
