/- Grids: plain words; squares of distances: walked. -/
import Derived.Test.YtknbpnkonhniiaaStp
import Derived.Test.YtknbpnkonhniiaaCmp
import Derived.BigQuiet
import Derived.Deep.QuietTactic
import Derived.Deep.RegionHeld3
namespace Go.Proofs.Ytknbpnkonhniiaa.Ne
open Go.RowKit Go.V Go.Proofs

def sqE (p q : Stp) : Int := if stpB p = true ∧ stpB q = true then (p.x - q.x) * (p.x - q.x) + (p.y - q.y) * (p.y - q.y) else 0
theorem stp_may (p : Stp) : mayB p.x p.y = stpB p := rfl
theorem sq_in {a b : Int} (ha : 0 ≤ a ∧ a < 67108864) (hb : 0 ≤ b ∧ b < 67108864) : 0 ≤ (a - b) * (a - b) ∧ (a - b) * (a - b) ≤ 4503599627370496 := by
  obtain ⟨m, hm⟩ : ∃ m, a - b = m := ⟨_, rfl⟩
  rw [hm]
  have h1 : -67108864 ≤ m ∧ m ≤ 67108864 := by omega
  rcases Int.le_total 0 m with h | h
  · have := Int.mul_le_mul h1.2 h1.2 h (by decide)
    exact ⟨Int.mul_nonneg h h, by omega⟩
  · have h2 := Int.mul_le_mul (show -m ≤ 67108864 by omega) (show -m ≤ 67108864 by omega) (by omega) (by decide)
    rw [Int.neg_mul_neg] at h2
    exact ⟨by have := Int.mul_nonneg (show 0 ≤ -m by omega) (show 0 ≤ -m by omega); rw [Int.neg_mul_neg] at this; exact this, by omega⟩
theorem sqE_in (p q : Stp) : 0 ≤ sqE p q ∧ sqE p q ≤ 9007199254740992 := by
  unfold sqE
  split
  · next h =>
    have h1 := of_decide_eq_true h.1
    have h2 := of_decide_eq_true h.2
    have := sq_in ⟨h1.1, h1.2.1⟩ ⟨h2.1, h2.2.1⟩
    have := sq_in ⟨h1.2.2.1, h1.2.2.2⟩ ⟨h2.2.2.1, h2.2.2.2⟩
    omega
  · omega
set_option maxHeartbeats 400000 in
theorem gis_any (p : Stp) (w : World) :
    Calls Try.prog 50 #[p.val] w fun e w' => e = .returned (.bool (stpB p)) ∧ Below w.heap.size w w' := by
  have HB : Hid (Below w.heap.size w (w.alloc (.cells #[.int .i64 p.x, .int .i64 p.y] 53))) := (Below.refl _ _).alloc (Nat.le_refl _) _
  go_enter Try.func50, Try.ntmps50
  go_wp2_with (go_at_call 25; refine (may_any p.x p.y _).mono ?_; rintro e w1 ⟨rfl, rfl⟩; rw [stp_may])
  go_ret
  exact ⟨rfl, HB.out⟩
set_option maxHeartbeats 1000000 in
set_option maxRecDepth 100000 in
theorem gsq_any (p q : Stp) (w : World) :
    Calls Try.prog 42 #[p.val, q.val] w fun e w' => e = .returned (.int .i64 (sqE p q)) ∧ Below w.heap.size w w' := by
  have HX0 := Lib.hid (box_alloc (o := .cells #[.int .i64 q.x, .int .i64 q.y] 53) (box_new w (.cells #[.int .i64 p.x, .int .i64 p.y] 53)))
  have HY0 := Lib.hid (box_new (w.alloc (.cells #[.int .i64 p.x, .int .i64 p.y] 53)) (.cells #[.int .i64 q.x, .int .i64 q.y] 53))
  rw [World.size_alloc] at HY0
  have HB0 : Hid (Below w.heap.size w ((w.alloc (.cells #[.int .i64 p.x, .int .i64 p.y] 53)).alloc (.cells #[.int .i64 q.x, .int .i64 q.y] 53))) := ((Below.refl _ _).alloc (Nat.le_refl _) _).alloc (by simp) _
  obtain ⟨r, hr⟩ : ∃ r, sqE p q = r := ⟨_, rfl⟩
  have HR := Lib.hid hr
  rw [hr]
  clear hr
  obtain ⟨bp, hbp⟩ : ∃ b, stpB p = b := ⟨_, rfl⟩
  obtain ⟨bq, hbq⟩ : ∃ b, stpB q = b := ⟨_, rfl⟩
  have HP := Lib.hid hbp
  have HQ := Lib.hid hbq
  clear hbp hbq
  cases bp with
  | false =>
    have hz : 0 = r := by rw [← HR.out, sqE, if_neg (fun h => by rw [HP.out] at h; cases h.1)]
    subst hz
    go_enter Try.func42, Try.ntmps42
    go_wp2_with (go_at_call 50; refine (gis_any p _).mono ?_; rintro e w1 ⟨rfl, hb1⟩; rw [HP.out]; have HB1 := Lib.hid (HB0.out.trans (hb1.mono HB0.out.size)); clear hb1)
    go_ret
    exact ⟨rfl, HB1.out⟩
  | true =>
    cases bq with
    | false =>
      have hz : 0 = r := by rw [← HR.out, sqE, if_neg (fun h => by rw [HQ.out] at h; cases h.2)]
      subst hz
      have hsz : w.heap.size + 1 < ((w.alloc (.cells #[.int .i64 p.x, .int .i64 p.y] 53)).alloc (.cells #[.int .i64 q.x, .int .i64 q.y] 53)).heap.size := by simp
      go_enter Try.func42, Try.ntmps42
      go_wp2_with (first
        | (go_at_call 50; refine (gis_any p _).mono ?_; rintro e w1 ⟨rfl, hb1⟩; rw [HP.out]; have HB1 := Lib.hid (HB0.out.trans (hb1.mono HB0.out.size)); have HY1 := Lib.hid (box_below HY0.out hb1); obtain ⟨v0, v1, -, -⟩ := box2_cells HY1.out; have hw1 := HB1.out.size; clear hb1)
        | (go_at_call 50; refine (gis_any q _).mono ?_; rintro e w2 ⟨rfl, hb2⟩; rw [HQ.out]; have HB2 := Lib.hid (HB1.out.trans (hb2.mono HB1.out.size)); clear hb2))
      go_ret
      exact ⟨rfl, HB2.out⟩
    | true =>
      have h1 := of_decide_eq_true HP.out
      have h2 := of_decide_eq_true HQ.out
      obtain ⟨m, hm⟩ : ∃ m, (p.x - q.x) * (p.x - q.x) = m := ⟨_, rfl⟩
      obtain ⟨k, hk⟩ : ∃ k, (p.y - q.y) * (p.y - q.y) = k := ⟨_, rfl⟩
      have hmm := sq_in ⟨h1.1, h1.2.1⟩ ⟨h2.1, h2.2.1⟩
      have hkk := sq_in ⟨h1.2.2.1, h1.2.2.2⟩ ⟨h2.2.2.1, h2.2.2.2⟩
      rw [hm] at hmm
      rw [hk] at hkk
      have hz : m + k = r := by rw [← HR.out, sqE, if_pos ⟨HP.out, HQ.out⟩, hm, hk]
      obtain ⟨a0, a1, a2, a3⟩ := h1
      obtain ⟨b0, b1, b2, b3⟩ := h2
      obtain ⟨dx, hdx⟩ : ∃ dx, p.x - q.x = dx := ⟨_, rfl⟩
      obtain ⟨dy, hdy⟩ : ∃ dy, p.y - q.y = dy := ⟨_, rfl⟩
      rw [hdx] at hm
      rw [hdy] at hk
      have hwx : IntKind.i64.wrap (p.x - q.x) = dx := by rw [hdx, IntKind.wrap_i64]; omega
      have hwy : IntKind.i64.wrap (p.y - q.y) = dy := by rw [hdy, IntKind.wrap_i64]; omega
      have HZ := Lib.hid hz
      clear hz
      go_enter Try.func42, Try.ntmps42
      go_upto_region 3 with (first
        | (go_at_call 50; refine (gis_any p _).mono ?_; rintro e w1 ⟨rfl, hb1⟩; rw [HP.out]; have HB1 := Lib.hid (HB0.out.trans (hb1.mono HB0.out.size)); have HX1 := Lib.hid (box_below HX0.out hb1); have HY1 := Lib.hid (box_below HY0.out hb1); obtain ⟨v0, v1, -, -⟩ := box2_cells HY1.out; have hw1 := HB1.out.size; clear hb1)
        | (go_at_call 50; refine (gis_any q _).mono ?_; rintro e w2 ⟨rfl, hb2⟩; rw [HQ.out]; have HB2 := Lib.hid (HB1.out.trans (hb2.mono HB1.out.size)); have HX2 := Lib.hid (box_below HX1.out hb2); have HY2 := Lib.hid (box_below HY1.out hb2); clear hb2))
      clear v0 v1
      obtain ⟨u0, u1, -, -⟩ := box2_cells HX2.out
      obtain ⟨v0, v1, -, -⟩ := box2_cells HY2.out
      go_region_held3 (fun w' => w'.cell? ⟨w.heap.size, 0, none⟩ = some (.int .i64 p.x) ∧ w'.cell? ⟨w.heap.size, 1, none⟩ = some (.int .i64 p.y) ∧ w'.cell? ⟨w.heap.size + 1, 0, none⟩ = some (.int .i64 q.x) ∧ w'.cell? ⟨w.heap.size + 1, 1, none⟩ = some (.int .i64 q.y)) (go_keep) (fail)
      all_goals
        go_wp2_with fail
        go_ret
        exact ⟨ret_int HZ.out, Below.drew HB2.out⟩
end Go.Proofs.Ytknbpnkonhniiaa.Ne
