/- Disputes: the delta of rides and other ones. -/
import Derived.Test.YtgdhlhjflbinmaaDiB
import Derived.Test.YtgdhlhjflbinmaaFaS
import Derived.Deep.DeepFit
namespace Go.Proofs.Ytgdhlhjflbinmaa
open Go.RowKit Go.V Go.Sort Go.Shelf Go.Proofs Go.Maps

def betE (t : Tar) (c : Int) (a b : List Ride) : Int := if monthE t c a = 0 then monthE t c b else monthE t c a
def betV (t : Tar) (c : Int) (a b : List Ride) : Int := if betE t c a b = 0 then billP t c b - billP t c a else 0
def delE (t : Tar) (c : Int) (a : List Ride) (x : Ride) : Int := if repE a x = 0 then betE t c a (repR a x) else repE a x
def delV (t : Tar) (c : Int) (a : List Ride) (x : Ride) : Int := if repE a x = 0 then betV t c a (repR a x) else 0

/-- What is to be paid is no more than what lies in a number. -/
theorem billP_in (t : Tar) (c : Int) (l : List Ride) : 0 ≤ billP t c l ∧ billP t c l ≤ billS t c l ∧ billS t c l ≤ 34359738368 := by
  by_cases h : monthE t c l = 0
  case neg =>
    have hG : billG t c l = [] := by unfold billG; rw [if_neg h]
    have hS : billS t c l = 0 := by unfold billS; rw [hG]; rfl
    have hP : billP t c l = 0 := by unfold billP; rw [if_neg h]
    rw [hS, hP]; omega
  have hp : MonthP t c := by
    by_cases hp : MonthP t c
    · exact hp
    · unfold monthE at h; rw [if_neg hp] at h; cases h
  have hl : l.length ≤ 2048 := by
    unfold monthE at h
    rw [if_pos hp] at h
    unfold groupsE at h
    by_cases hl : l.length ≤ 2048
    · exact hl
    · rw [if_neg hl] at h; cases h
  have h0 : (c.toNat : Int) = c := Int.toNat_of_nonneg hp.2.1
  have := bill_all (t := t) (a := c.toNat) (l := l) hl (by rw [h0]; exact h)
  rw [h0] at this
  obtain ⟨-, -, h3, h4, h5, h6, h7, -⟩ := this
  have h8 := sumG_in (billG t c l) (fun g hg => (h3 g hg).2)
  omega

set_option maxHeartbeats 4000000 in
theorem between_any (t : Tar) (hb hs hr : Hdr) (c : Int) (a : Option Addr) (n cap : Nat) (xs : List Ride) (a' : Option Addr) (n' cap' : Nat) (ys : List Ride) (w : World) (hm : hb.n ≤ 1000000 ∧ hs.n ≤ 1000000 ∧ hr.n ≤ 1000000) (hn : n ≤ 100000) (hn' : n' ≤ 100000) (hok : ∀ r ∈ xs, Ride.ok r) (hok' : ∀ r ∈ ys, Ride.ok r) (h : TarIn w t hb hs hr) (hx : Sl Ride.cod w a n cap xs) (hy : Sl Ride.cod w a' n' cap' ys) :
    Calls Try.prog 11 #[t.val hb hs hr, .int .i64 c, .slice a n cap, .slice a' n' cap'] w fun e w' => e = .returned (.tuple #[.int .i64 (betV t c xs ys), .int .i64 (betE t c xs ys)]) ∧ Below w.heap.size w w' := by
  have TB0 : Hid (TarBox 26 (w.alloc (t.box hb hs hr)) w.heap.size t hb hs hr) := box_new _ _
  have B0 : Hid (Below w.heap.size w (w.alloc (t.box hb hs hr))) := (Below.refl _ _).alloc (Nat.le_refl _) _
  unfold Tar.box at TB0 B0
  obtain ⟨i1, i2, i3⟩ := billP_in t c xs
  obtain ⟨i4, i5, i6⟩ := billP_in t c ys
  obtain ⟨gs, hgs⟩ : ∃ gs, billG t c xs = gs := ⟨_, rfl⟩
  obtain ⟨S, hS⟩ : ∃ S, billS t c xs = S := ⟨_, rfl⟩
  obtain ⟨P, hP⟩ : ∃ P, billP t c xs = P := ⟨_, rfl⟩
  obtain ⟨E, hE⟩ : ∃ E, monthE t c xs = E := ⟨_, rfl⟩
  obtain ⟨gs', hgs'⟩ : ∃ gs, billG t c ys = gs := ⟨_, rfl⟩
  obtain ⟨S', hS'⟩ : ∃ S, billS t c ys = S := ⟨_, rfl⟩
  obtain ⟨P', hP'⟩ : ∃ P, billP t c ys = P := ⟨_, rfl⟩
  obtain ⟨E', hE'⟩ : ∃ E, monthE t c ys = E := ⟨_, rfl⟩
  rw [hS, hP] at i2
  rw [hS] at i3
  rw [hP] at i1
  rw [hS', hP'] at i5
  rw [hS'] at i6
  rw [hP'] at i4
  have HQ : Hid (billG t c xs = gs ∧ billS t c xs = S ∧ billP t c xs = P ∧ monthE t c xs = E) := ⟨hgs, hS, hP, hE⟩
  have HQ' : Hid (billG t c ys = gs' ∧ billS t c ys = S' ∧ billP t c ys = P' ∧ monthE t c ys = E') := ⟨hgs', hS', hP', hE'⟩
  have hV : betE t c xs ys = (if E = 0 then E' else E) ∧ betV t c xs ys = (if E = 0 then if E' = 0 then P' - P else 0 else 0) := by
    unfold betV betE
    rw [hE, hE', hP, hP']
    by_cases e : E = 0
    · rw [if_pos e, if_pos e]; exact ⟨rfl, rfl⟩
    · rw [if_neg e, if_neg e, if_neg e]; exact ⟨rfl, rfl⟩
  have HV := Lib.hid hV
  clear hgs hS hP hE hgs' hS' hP' hE' hV
  unfold Tar.val
  go_enter Try.func11, Try.ntmps11
  by_cases e0 : E = 0
  case neg =>
    have e1 : (E == 0) = false := by simp; exact e0
    have hv := HV.out
    rw [if_neg e0, if_neg e0] at hv
    have HV2 := Lib.hid hv
    clear hv
    go_wp2_with (go_at_call 25; refine (month_any t hb hs hr c a n cap xs _ hm hn hok (h.below B0.out) (hx.below B0.out)).mono ?_; rintro e w1 ⟨v, rfl, hbl, hb1⟩; rw [HQ.out.2.2.2]; rw [HQ.out.1, HQ.out.2.1, HQ.out.2.2.1] at hbl; obtain ⟨a1, c1, g1, rfl, -⟩ := hbl.billIn; have HB1 : Hid (Below w.heap.size w w1) := B0.out.trans (hb1.mono B0.out.size); clear hb1 hbl)
    go_ret2
    exact ⟨by rw [HV2.out.1, HV2.out.2]; rfl, HB1.out.alloc HB1.out.size _⟩
  case pos =>
    subst e0
    have hv := HV.out
    rw [if_pos rfl, if_pos rfl] at hv
    by_cases e0 : E' = 0
    case neg =>
      have e1 : (E' == 0) = false := by simp; exact e0
      rw [if_neg e0] at hv
      have HV2 := Lib.hid hv
      clear hv
      go_wp2_with (first
        | (go_at_call 25; go_fit (month_any t hb hs hr c a n cap xs _ hm hn hok (h.below B0.out) (hx.below B0.out)); rintro e w1 ⟨v, rfl, hbl, hb1⟩; rw [HQ.out.2.2.2]; rw [HQ.out.1, HQ.out.2.1, HQ.out.2.2.1] at hbl; obtain ⟨a1, c1, g1, rfl, -⟩ := hbl.billIn; have HB1 : Hid (Below w.heap.size w w1) := B0.out.trans (hb1.mono B0.out.size); have hs1 := HB1.out.size; have TB1 : Hid (TarBox 26 w1 w.heap.size t hb hs hr) := TB0.out.below hb1; obtain ⟨kk, k0, k1, k2, k3, k4, k5, k6, k7, k8⟩ := TB1.out.cells; have HBA : Hid (Below w.heap.size w (w1.alloc (.cells #[.slice a1 gs.length c1, .int .i64 S, .int .i64 P] 61))) := HB1.out.alloc hs1 _; clear hb1 hbl)
        | (go_at_call 25; go_fit (month_any t hb hs hr c a' n' cap' ys _ hm hn' hok' (h.below HBA.out) (hy.below HBA.out)); rintro e w2 ⟨v, rfl, hbl, hb2⟩; rw [HQ'.out.2.2.2]; rw [HQ'.out.1, HQ'.out.2.1, HQ'.out.2.2.1] at hbl; obtain ⟨a2, c2, g2, rfl, -⟩ := hbl.billIn; have HB2 : Hid (Below w.heap.size w w2) := HBA.out.trans (hb2.mono HBA.out.size); clear hb2 hbl))
      go_ret2
      exact ⟨by rw [HV2.out.1, HV2.out.2]; rfl, HB2.out.alloc HB2.out.size _⟩
    case pos =>
      subst e0
      rw [if_pos rfl] at hv
      have HV2 := Lib.hid hv
      have r1 : IntKind.i64.wrap (P' - P) = P' - P := by rw [IntKind.wrap_i64]; omega
      clear hv
      go_wp2_with (first
        | (go_at_call 25; go_fit (month_any t hb hs hr c a n cap xs _ hm hn hok (h.below B0.out) (hx.below B0.out)); rintro e w1 ⟨v, rfl, hbl, hb1⟩; rw [HQ.out.2.2.2]; rw [HQ.out.1, HQ.out.2.1, HQ.out.2.2.1] at hbl; obtain ⟨a1, c1, g1, rfl, -⟩ := hbl.billIn; have HB1 : Hid (Below w.heap.size w w1) := B0.out.trans (hb1.mono B0.out.size); have hs1 := HB1.out.size; have TB1 : Hid (TarBox 26 w1 w.heap.size t hb hs hr) := TB0.out.below hb1; obtain ⟨kk, k0, k1, k2, k3, k4, k5, k6, k7, k8⟩ := TB1.out.cells; have HBA : Hid (Below w.heap.size w (w1.alloc (.cells #[.slice a1 gs.length c1, .int .i64 S, .int .i64 P] 61))) := HB1.out.alloc hs1 _; have X1 := Lib.hid (box_new w1 (.cells #[.slice a1 gs.length c1, .int .i64 S, .int .i64 P] 61)); clear hb1 hbl)
        | (go_at_call 25; go_fit (month_any t hb hs hr c a' n' cap' ys _ hm hn' hok' (h.below HBA.out) (hy.below HBA.out)); rintro e w2 ⟨v, rfl, hbl, hb2⟩; rw [HQ'.out.2.2.2]; rw [HQ'.out.1, HQ'.out.2.1, HQ'.out.2.2.1] at hbl; obtain ⟨a2, c2, g2, rfl, -⟩ := hbl.billIn; have HB2 : Hid (Below w.heap.size w w2) := HBA.out.trans (hb2.mono HBA.out.size); have X2 := Lib.hid (box_below X1.out hb2); obtain ⟨p0, p1, p2, -, -, -⟩ := box3_cells X2.out; have hxl := box_lt X2.out; clear hb2 hbl))
      go_ret2
      exact ⟨by rw [HV2.out.1, HV2.out.2]; rfl, HB2.out.alloc HB2.out.size _⟩
end Go.Proofs.Ytgdhlhjflbinmaa
