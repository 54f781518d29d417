/- Disputes: the document's deltas, walked. -/
import Derived.Test.YtgdhlhjflbinmaaDiC
import Derived.Test.YtgdhlhjflbinmaaFaN
import Derived.Deep.DeepFit
namespace Go.Proofs.Ytgdhlhjflbinmaa
open Go.RowKit Go.V Go.Sort Go.Shelf Go.Proofs Go.Maps

set_option maxHeartbeats 4000000 in
theorem rbetween_any (t : Tar) (hb hs hr : Hdr) (c : Int) (a : Option Addr) (n cap : Nat) (xs : List Ride) (a' : Option Addr) (n' cap' : Nat) (ys : List Ride) (w : World) (hm : hb.n ≤ 1000000 ∧ hs.n ≤ 1000000 ∧ hr.n ≤ 1000000) (hn : n ≤ 100000) (hn' : n' ≤ 100000) (h : TarIn w t hb hs hr) (hx : Sl Ride.cod w a n cap xs) (hy : Sl Ride.cod w a' n' cap' ys) :
    Calls Try.prog 12 #[t.val hb hs hr, .int .i64 c, .slice a n cap, .slice a' n' cap'] w fun e w' => e = .returned (.tuple #[.int .i64 (betV t c xs ys), .int .i64 (betE t c xs ys)]) ∧ Below w.heap.size w w' := by
  have TB0 : Hid (TarBox 26 (w.alloc (t.box hb hs hr)) w.heap.size t hb hs hr) := box_new _ _
  have B0 : Hid (Below w.heap.size w (w.alloc (t.box hb hs hr))) := (Below.refl _ _).alloc (Nat.le_refl _) _
  unfold Tar.box at TB0 B0
  obtain ⟨i1, i2, i3⟩ := billP_in t c xs
  obtain ⟨i4, i5, i6⟩ := billP_in t c ys
  obtain ⟨gs, hgs⟩ : ∃ gs, billG t c xs = gs := ⟨_, rfl⟩
  obtain ⟨S, hS⟩ : ∃ S, billS t c xs = S := ⟨_, rfl⟩
  obtain ⟨P, hP⟩ : ∃ P, billP t c xs = P := ⟨_, rfl⟩
  obtain ⟨E, hE⟩ : ∃ E, monthE t c xs = E := ⟨_, rfl⟩
  obtain ⟨gs', hgs'⟩ : ∃ gs, billG t c ys = gs := ⟨_, rfl⟩
  obtain ⟨S', hS'⟩ : ∃ S, billS t c ys = S := ⟨_, rfl⟩
  obtain ⟨P', hP'⟩ : ∃ P, billP t c ys = P := ⟨_, rfl⟩
  obtain ⟨E', hE'⟩ : ∃ E, monthE t c ys = E := ⟨_, rfl⟩
  rw [hS, hP] at i2
  rw [hS] at i3
  rw [hP] at i1
  rw [hS', hP'] at i5
  rw [hS'] at i6
  rw [hP'] at i4
  have HQ : Hid (billG t c xs = gs ∧ billS t c xs = S ∧ billP t c xs = P ∧ monthE t c xs = E) := ⟨hgs, hS, hP, hE⟩
  have HQ' : Hid (billG t c ys = gs' ∧ billS t c ys = S' ∧ billP t c ys = P' ∧ monthE t c ys = E') := ⟨hgs', hS', hP', hE'⟩
  have hV : betE t c xs ys = (if E = 0 then E' else E) ∧ betV t c xs ys = (if E = 0 then if E' = 0 then P' - P else 0 else 0) := by
    unfold betV betE
    rw [hE, hE', hP, hP']
    by_cases e : E = 0
    · rw [if_pos e, if_pos e]; exact ⟨rfl, rfl⟩
    · rw [if_neg e, if_neg e, if_neg e]; exact ⟨rfl, rfl⟩
  have HV := Lib.hid hV
  clear hgs hS hP hE hgs' hS' hP' hE' hV
  unfold Tar.val
  go_enter Try.func12, Try.ntmps12
  by_cases e0 : E = 0
  case neg =>
    have e1 : (E == 0) = false := by simp; exact e0
    have e1' : (E != 0) = true := by simp; exact e0
    have hv := HV.out
    rw [if_neg e0, if_neg e0] at hv
    have HV2 := Lib.hid hv
    clear hv
    go_wp2_with (go_at_call 26; refine (rmonth_any t hb hs hr c a n cap xs _ hm hn (h.below B0.out) (hx.below B0.out)).mono ?_; rintro e w1 ⟨v, rfl, hbl, hb1⟩; rw [HQ.out.2.2.2]; rw [HQ.out.1, HQ.out.2.1, HQ.out.2.2.1] at hbl; obtain ⟨a1, c1, g1, rfl, -⟩ := hbl.billIn; have HB1 : Hid (Below w.heap.size w w1) := B0.out.trans (hb1.mono B0.out.size); clear hb1 hbl)
    go_ret2
    exact ⟨by rw [HV2.out.1, HV2.out.2]; rfl, HB1.out.alloc HB1.out.size _⟩
  case pos =>
    subst e0
    have hv := HV.out
    rw [if_pos rfl, if_pos rfl] at hv
    by_cases e0 : E' = 0
    case neg =>
      have e1 : (E' == 0) = false := by simp; exact e0
      have e1' : (E' != 0) = true := by simp; exact e0
      rw [if_neg e0] at hv
      have HV2 := Lib.hid hv
      clear hv
      go_wp2_with (first
        | (go_at_call 26; go_fit (rmonth_any t hb hs hr c a n cap xs _ hm hn (h.below B0.out) (hx.below B0.out)); rintro e w1 ⟨v, rfl, hbl, hb1⟩; rw [HQ.out.2.2.2]; rw [HQ.out.1, HQ.out.2.1, HQ.out.2.2.1] at hbl; obtain ⟨a1, c1, g1, rfl, -⟩ := hbl.billIn; have HB1 : Hid (Below w.heap.size w w1) := B0.out.trans (hb1.mono B0.out.size); have hs1 := HB1.out.size; have TB1 : Hid (TarBox 26 w1 w.heap.size t hb hs hr) := TB0.out.below hb1; obtain ⟨kk, k0, k1, k2, k3, k4, k5, k6, k7, k8⟩ := TB1.out.cells; have HBA : Hid (Below w.heap.size w (w1.alloc (.cells #[.slice a1 gs.length c1, .int .i64 S, .int .i64 P] 61))) := HB1.out.alloc hs1 _; clear hb1 hbl)
        | (go_at_call 26; go_fit (rmonth_any t hb hs hr c a' n' cap' ys _ hm hn' (h.below HBA.out) (hy.below HBA.out)); rintro e w2 ⟨v, rfl, hbl, hb2⟩; rw [HQ'.out.2.2.2]; rw [HQ'.out.1, HQ'.out.2.1, HQ'.out.2.2.1] at hbl; obtain ⟨a2, c2, g2, rfl, -⟩ := hbl.billIn; have HB2 : Hid (Below w.heap.size w w2) := HBA.out.trans (hb2.mono HBA.out.size); clear hb2 hbl))
      go_ret2
      exact ⟨by rw [HV2.out.1, HV2.out.2]; rfl, HB2.out.alloc HB2.out.size _⟩
    case pos =>
      subst e0
      rw [if_pos rfl] at hv
      have HV2 := Lib.hid hv
      have r1 : IntKind.i64.wrap (P' - P) = P' - P := by rw [IntKind.wrap_i64]; omega
      clear hv
      go_wp2_with (first
        | (go_at_call 26; go_fit (rmonth_any t hb hs hr c a n cap xs _ hm hn (h.below B0.out) (hx.below B0.out)); rintro e w1 ⟨v, rfl, hbl, hb1⟩; rw [HQ.out.2.2.2]; rw [HQ.out.1, HQ.out.2.1, HQ.out.2.2.1] at hbl; obtain ⟨a1, c1, g1, rfl, -⟩ := hbl.billIn; have HB1 : Hid (Below w.heap.size w w1) := B0.out.trans (hb1.mono B0.out.size); have hs1 := HB1.out.size; have TB1 : Hid (TarBox 26 w1 w.heap.size t hb hs hr) := TB0.out.below hb1; obtain ⟨kk, k0, k1, k2, k3, k4, k5, k6, k7, k8⟩ := TB1.out.cells; have HBA : Hid (Below w.heap.size w (w1.alloc (.cells #[.slice a1 gs.length c1, .int .i64 S, .int .i64 P] 61))) := HB1.out.alloc hs1 _; have X1 := Lib.hid (box_new w1 (.cells #[.slice a1 gs.length c1, .int .i64 S, .int .i64 P] 61)); clear hb1 hbl)
        | (go_at_call 26; go_fit (rmonth_any t hb hs hr c a' n' cap' ys _ hm hn' (h.below HBA.out) (hy.below HBA.out)); rintro e w2 ⟨v, rfl, hbl, hb2⟩; rw [HQ'.out.2.2.2]; rw [HQ'.out.1, HQ'.out.2.1, HQ'.out.2.2.1] at hbl; obtain ⟨a2, c2, g2, rfl, -⟩ := hbl.billIn; have HB2 : Hid (Below w.heap.size w w2) := HBA.out.trans (hb2.mono HBA.out.size); have X2 := Lib.hid (box_below X1.out hb2); obtain ⟨p0, p1, p2, -, -, -⟩ := box3_cells X2.out; have hxl := box_lt X2.out; clear hb2 hbl))
      go_ret2
      exact ⟨by rw [HV2.out.1, HV2.out.2]; rfl, HB2.out.alloc HB2.out.size _⟩
end Go.Proofs.Ytgdhlhjflbinmaa
