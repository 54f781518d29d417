/- Fares: which tariffs are right. -/
import Derived.Test.YtjnggjhijedcpaaFaE
namespace Go.Proofs.Ytjnggjhijedcpaa
open Go.RowKit Go.V Go.Proofs

/-- A tariff in a box of its own. -/
def TarBox (ty : TypeId) (w : World) (g : Nat) (t : Tar) (hb hs hr : Hdr) : Prop := w.heap[g]? = some (.cells #[.int .i64 t.ver, .slice hb.a hb.n hb.cap, .int .i64 t.over, .int .i64 t.full, .slice hs.a hs.n hs.cap, .int .i64 t.unit, .int .i64 t.window, .int .i64 t.chain, .slice hr.a hr.n hr.cap] ty (0, 0))
theorem TarBox.below {ty : TypeId} {w w' : World} {g : Nat} {t : Tar} {hb hs hr : Hdr} (h : TarBox ty w g t hb hs hr) (hw : Below w.heap.size w w') : TarBox ty w' g t hb hs hr := by
  unfold TarBox at h ⊢
  rw [hw.block g (Array.getElem?_eq_some_iff.1 h).1]; exact h
theorem TarBox.cells {ty : TypeId} {w : World} {g : Nat} {t : Tar} {hb hs hr : Hdr} (h : TarBox ty w g t hb hs hr) : g < w.heap.size ∧ w.cell? ⟨g, 0, none⟩ = some (.int .i64 t.ver) ∧ w.cell? ⟨g, 1, none⟩ = some (.slice hb.a hb.n hb.cap) ∧ w.cell? ⟨g, 2, none⟩ = some (.int .i64 t.over) ∧ w.cell? ⟨g, 3, none⟩ = some (.int .i64 t.full) ∧ w.cell? ⟨g, 4, none⟩ = some (.slice hs.a hs.n hs.cap) ∧ w.cell? ⟨g, 5, none⟩ = some (.int .i64 t.unit) ∧ w.cell? ⟨g, 6, none⟩ = some (.int .i64 t.window) ∧ w.cell? ⟨g, 7, none⟩ = some (.int .i64 t.chain) ∧ w.cell? ⟨g, 8, none⟩ = some (.slice hr.a hr.n hr.cap) :=
  ⟨(Array.getElem?_eq_some_iff.1 h).1, (box_cell h 0).1, (box_cell h 1).1, (box_cell h 2).1, (box_cell h 3).1, (box_cell h 4).1, (box_cell h 5).1, (box_cell h 6).1, (box_cell h 7).1, (box_cell h 8).1⟩

theorem eight (r1 r2 r3 r4 r5 r6 r7 r8 : Bool) : r1 = false ∨ (r1 = true ∧ r2 = false) ∨ (r1 = true ∧ r2 = true ∧ r3 = false) ∨ (r1 = true ∧ r2 = true ∧ r3 = true ∧ r4 = false) ∨ (r1 = true ∧ r2 = true ∧ r3 = true ∧ r4 = true ∧ r5 = false) ∨ (r1 = true ∧ r2 = true ∧ r3 = true ∧ r4 = true ∧ r5 = true ∧ r6 = false) ∨ (r1 = true ∧ r2 = true ∧ r3 = true ∧ r4 = true ∧ r5 = true ∧ r6 = true ∧ r7 = false) ∨ (r1 = true ∧ r2 = true ∧ r3 = true ∧ r4 = true ∧ r5 = true ∧ r6 = true ∧ r7 = true ∧ r8 = false) ∨ (r1 = true ∧ r2 = true ∧ r3 = true ∧ r4 = true ∧ r5 = true ∧ r6 = true ∧ r7 = true ∧ r8 = true) := by
  cases r1 <;> cases r2 <;> cases r3 <;> cases r4 <;> cases r5 <;> cases r6 <;> cases r7 <;> cases r8 <;> simp

set_option maxHeartbeats 4000000 in
theorem tarR_any (t : Tar) (hb hs hr : Hdr) (w : World) (hm : hb.n ≤ 1000000 ∧ hs.n ≤ 1000000 ∧ hr.n ≤ 1000000) (h : TarIn w t hb hs hr) :
    Calls Try.prog 16 #[t.val hb hs hr] w fun e w' => e = .returned (.bool (tarOk t)) ∧ Below w.heap.size w w' := by
  obtain ⟨m1, m2, m3⟩ := hm
  have TB : Hid (TarBox 26 (w.alloc (.cells #[.int .i64 t.ver, .slice hb.a hb.n hb.cap, .int .i64 t.over, .int .i64 t.full, .slice hs.a hs.n hs.cap, .int .i64 t.unit, .int .i64 t.window, .int .i64 t.chain, .slice hr.a hr.n hr.cap] 26)) w.heap.size t hb hs hr) := box_new _ _
  have HB : Hid (Below w.heap.size w (w.alloc (.cells #[.int .i64 t.ver, .slice hb.a hb.n hb.cap, .int .i64 t.over, .int .i64 t.full, .slice hs.a hs.n hs.cap, .int .i64 t.unit, .int .i64 t.window, .int .i64 t.chain, .slice hr.a hr.n hr.cap] 26))) := (Below.refl _ _).alloc (Nat.le_refl _) _
  obtain ⟨r1, e1⟩ : ∃ r, wB t.ver 1 1048576 = r := ⟨_, rfl⟩
  obtain ⟨r2, e2⟩ : ∃ r, bandOk t.bands t.over = r := ⟨_, rfl⟩
  obtain ⟨r3, e3⟩ : ∃ r, wB t.full 0 16777216 = r := ⟨_, rfl⟩
  obtain ⟨r4, e4⟩ : ∃ r, sharesOk t.shares = r := ⟨_, rfl⟩
  obtain ⟨r5, e5⟩ : ∃ r, wB t.unit 1 16777216 = r := ⟨_, rfl⟩
  obtain ⟨r6, e6⟩ : ∃ r, wB t.window 0 1099511627776 = r := ⟨_, rfl⟩
  obtain ⟨r7, e7⟩ : ∃ r, wB t.chain 1 16 = r := ⟨_, rfl⟩
  obtain ⟨r8, e8⟩ : ∃ r, rungsOk t.rungs = r := ⟨_, rfl⟩
  have hfin : tarOk t = (r1 && r2 && r3 && r4 && r5 && r6 && r7 && r8) := by unfold tarOk; rw [e1, e2, e3, e4, e5, e6, e7, e8]
  have HF := Lib.hid hfin
  clear hfin
  have hcs := eight r1 r2 r3 r4 r5 r6 r7 r8
  unfold Tar.val
  go_enter Try.func16, Try.ntmps16
  rcases hcs with rfl | ⟨rfl, rfl⟩ | ⟨rfl, rfl, rfl⟩ | ⟨rfl, rfl, rfl, rfl⟩ | ⟨rfl, rfl, rfl, rfl, rfl⟩ | ⟨rfl, rfl, rfl, rfl, rfl, rfl⟩ | ⟨rfl, rfl, rfl, rfl, rfl, rfl, rfl⟩ | ⟨rfl, rfl, rfl, rfl, rfl, rfl, rfl, rfl⟩ | ⟨rfl, rfl, rfl, rfl, rfl, rfl, rfl, rfl⟩
  all_goals
    go_wp2_with (first
      | (go_at_call 58; refine (pwithin_any _ _ _ _).mono ?_; rintro e w' ⟨rfl, rfl⟩; first | rw [e1] | rw [e3] | rw [e5] | rw [e6] | rw [e7])
      | (go_at_call 69; refine (bandR_any _ _ _ t.bands _ _ m1 (h.b.below HB.out)).mono ?_; rintro e w1 ⟨rfl, hb1⟩; rw [e2]; have HB := Lib.hid (HB.out.trans (hb1.mono HB.out.size)); have TB := Lib.hid (TB.out.below hb1); obtain ⟨kk, k0, k1, k2, k3, k4, k5, k6, k7, k8⟩ := TB.out.cells; clear hb1)
      | (go_at_call 70; refine (sharesR_any _ _ _ t.shares _ m2 (h.s.below HB.out)).mono ?_; rintro e w2 ⟨rfl, hb2⟩; rw [e4]; have HB := Lib.hid (HB.out.trans (hb2.mono HB.out.size)); have TB := Lib.hid (TB.out.below hb2); obtain ⟨kk, k0, k1, k2, k3, k4, k5, k6, k7, k8⟩ := TB.out.cells; clear hb2)
      | (go_at_call 71; refine (rungR_any _ _ _ t.rungs _ m3 (h.r.below HB.out)).mono ?_; rintro e w3 ⟨rfl, hb3⟩; rw [e8]; have HB := Lib.hid (HB.out.trans (hb3.mono HB.out.size)); clear hb3))
    go_ret
    exact ⟨ret_bool (by rw [HF.out]; rfl), HB.out⟩

set_option maxHeartbeats 4000000 in
theorem rtarR_any (t : Tar) (hb hs hr : Hdr) (w : World) (hm : hb.n ≤ 1000000 ∧ hs.n ≤ 1000000 ∧ hr.n ≤ 1000000) (h : TarIn w t hb hs hr) :
    Calls Try.prog 17 #[t.val hb hs hr] w fun e w' => e = .returned (.bool (tarOk t)) ∧ Below w.heap.size w w' := by
  obtain ⟨m1, m2, m3⟩ := hm
  have TB : Hid (TarBox 26 (w.alloc (.cells #[.int .i64 t.ver, .slice hb.a hb.n hb.cap, .int .i64 t.over, .int .i64 t.full, .slice hs.a hs.n hs.cap, .int .i64 t.unit, .int .i64 t.window, .int .i64 t.chain, .slice hr.a hr.n hr.cap] 26)) w.heap.size t hb hs hr) := box_new _ _
  have HB : Hid (Below w.heap.size w (w.alloc (.cells #[.int .i64 t.ver, .slice hb.a hb.n hb.cap, .int .i64 t.over, .int .i64 t.full, .slice hs.a hs.n hs.cap, .int .i64 t.unit, .int .i64 t.window, .int .i64 t.chain, .slice hr.a hr.n hr.cap] 26))) := (Below.refl _ _).alloc (Nat.le_refl _) _
  obtain ⟨r1, e1⟩ : ∃ r, wB t.ver 1 1048576 = r := ⟨_, rfl⟩
  obtain ⟨r2, e2⟩ : ∃ r, bandOk t.bands t.over = r := ⟨_, rfl⟩
  obtain ⟨r3, e3⟩ : ∃ r, wB t.full 0 16777216 = r := ⟨_, rfl⟩
  obtain ⟨r4, e4⟩ : ∃ r, sharesOk t.shares = r := ⟨_, rfl⟩
  obtain ⟨r5, e5⟩ : ∃ r, wB t.unit 1 16777216 = r := ⟨_, rfl⟩
  obtain ⟨r6, e6⟩ : ∃ r, wB t.window 0 1099511627776 = r := ⟨_, rfl⟩
  obtain ⟨r7, e7⟩ : ∃ r, wB t.chain 1 16 = r := ⟨_, rfl⟩
  obtain ⟨r8, e8⟩ : ∃ r, rungsOk t.rungs = r := ⟨_, rfl⟩
  have hfin : tarOk t = (r1 && r2 && r3 && r4 && r5 && r6 && r7 && r8) := by unfold tarOk; rw [e1, e2, e3, e4, e5, e6, e7, e8]
  have HF := Lib.hid hfin
  clear hfin
  have hcs := eight r1 r2 r3 r4 r5 r6 r7 r8
  unfold Tar.val
  go_enter Try.func17, Try.ntmps17
  rcases hcs with rfl | ⟨rfl, rfl⟩ | ⟨rfl, rfl, rfl⟩ | ⟨rfl, rfl, rfl, rfl⟩ | ⟨rfl, rfl, rfl, rfl, rfl⟩ | ⟨rfl, rfl, rfl, rfl, rfl, rfl⟩ | ⟨rfl, rfl, rfl, rfl, rfl, rfl, rfl⟩ | ⟨rfl, rfl, rfl, rfl, rfl, rfl, rfl, rfl⟩ | ⟨rfl, rfl, rfl, rfl, rfl, rfl, rfl, rfl⟩
  all_goals
    go_wp2_with (first
      | (go_at_call 72; refine (fwithin_any _ _ _ _).mono ?_; rintro e w' ⟨rfl, rfl⟩; first | rw [e1] | rw [e3] | rw [e5] | rw [e6] | rw [e7])
      | (go_at_call 73; refine (rbandR_any _ _ _ t.bands _ _ m1 (h.b.below HB.out)).mono ?_; rintro e w1 ⟨rfl, hb1⟩; rw [e2]; have HB := Lib.hid (HB.out.trans (hb1.mono HB.out.size)); have TB := Lib.hid (TB.out.below hb1); obtain ⟨kk, k0, k1, k2, k3, k4, k5, k6, k7, k8⟩ := TB.out.cells; clear hb1)
      | (go_at_call 74; refine (rsharesR_any _ _ _ t.shares _ m2 (h.s.below HB.out)).mono ?_; rintro e w2 ⟨rfl, hb2⟩; rw [e4]; have HB := Lib.hid (HB.out.trans (hb2.mono HB.out.size)); have TB := Lib.hid (TB.out.below hb2); obtain ⟨kk, k0, k1, k2, k3, k4, k5, k6, k7, k8⟩ := TB.out.cells; clear hb2)
      | (go_at_call 75; refine (rrungR_any _ _ _ t.rungs _ m3 (h.r.below HB.out)).mono ?_; rintro e w3 ⟨rfl, hb3⟩; rw [e8]; have HB := Lib.hid (HB.out.trans (hb3.mono HB.out.size)); clear hb3))
    go_ret
    exact ⟨ret_bool (by rw [HF.out]; rfl), HB.out⟩
end Go.Proofs.Ytjnggjhijedcpaa
