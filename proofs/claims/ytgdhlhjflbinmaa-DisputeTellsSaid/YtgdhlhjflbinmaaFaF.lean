/- Fares: the references' words for bands and rungs. -/
/- Fares: which tariffs are right. -/
import Derived.Test.YtgdhlhjflbinmaaFaD
namespace Go.Proofs.Ytgdhlhjflbinmaa
open Go.RowKit Go.V Go.Proofs

set_option maxHeartbeats 2000000 in
theorem rbandR_any (a : Option Addr) (n cap : Nat) (l : List Pair) (over : Int) (w : World) (hm : n ≤ 1000000) (h : Sl Pair.cod w a n cap l) :
    Calls Try.prog 61 #[.slice a n cap, .int .i64 over] w fun e w' => e = .returned (.bool (bandOk l over)) ∧ Below w.heap.size w w' := by
  have hN := Lib.hid h.hlen
  have mixed : Try.prog.follows .mixedOrders = true := by kernel_rfl
  go_enter Try.func61, Try.ntmps61
  go_wp2_with fail
  go_loopw [5, 6] (fun lo i wr => ∃ (k : Nat) (last : Pair), i = .int .i64 k ∧ lo = .int .i64 last.b ∧ k ≤ n ∧ Hid (bandGo ⟨-1, 0⟩ l over = bandGo last (l.drop k) over) ∧ -1 ≤ last.a ∧ (k = 0 → last.a = -1) ∧ Hid (0 < k → l[k - 1]? = some last) ∧ Hid (Below w.heap.size w wr)) (fun _ i _ => n - (intOf i).toNat)
  case atStart => exact ⟨0, ⟨-1, 0⟩, rfl, rfl, by omega, rfl, by simp, by simp, fun h => by omega, Below.refl _ _⟩
  case round =>
    obtain ⟨k, last, rfl, rfl, hk, he, hla, hl0, hlk, hb⟩ := hrel
    by_cases hlt : k < n
    · obtain ⟨b, off, x, rfl, hbl, hx, c0, c1⟩ := pair_at (h.below hb.out) hlt
      have HX := Lib.hid hx
      clear hx
      have b1 : (k : Int) < (n : Int) := by omega
      have he' : bandGo ⟨-1, 0⟩ l over = (decide (last.a < x.a ∧ x.a ≤ 4294967296 ∧ last.b ≤ x.b ∧ x.b ≤ 16777216) && bandGo x (l.drop (k + 1)) over) := by rw [he.out, drop_at HX.out]; rfl
      have HE := Lib.hid he'
      clear he'
      have hbad : ¬ (last.a < x.a ∧ x.a ≤ 4294967296 ∧ last.b ≤ x.b ∧ x.b ≤ 16777216) → bandOk l over = false := fun c => by
        unfold bandOk; rw [HE.out, decide_eq_false c]; simp
      have HBAD := Lib.hid hbad
      clear hbad
      by_cases c : 0 ≤ x.a ∧ x.a ≤ 4294967296 ∧ last.b ≤ x.b ∧ x.b ≤ 16777216
      · have HC := Lib.hid c
        obtain ⟨p1, p2, p3, p4⟩ := c
        by_cases hk0 : k = 0
        · subst hk0
          replace c0 : wr.cell? ⟨b, off, none⟩ = some (.int .i64 x.a) := by simpa using c0
          replace c1 : wr.cell? ⟨b, off + 1, none⟩ = some (.int .i64 x.b) := by simpa using c1
          have hl1 := hl0 rfl
          have hd : decide ((0 : Int) > (0 : Int)) = false := by decide
          have hgood : last.a < x.a := by omega
          have HG := Lib.hid hgood
          clear hl0 hgood
          go_wp2_with fail
          go_quiet (fail)
          go_wp2_with fail
          go_roundw
          case rel => exact ⟨1, x, by go_num, rfl, by omega, by show _ = _; rw [HE.out, decide_eq_true ⟨HG.out, HC.out.2⟩]; rfl, by omega, by omega, fun _ => HX.out, below_drewN hb.out _⟩
          case measure => simp [intOf]; omega
        · obtain ⟨j, rfl⟩ : ∃ j, k = j + 1 := ⟨k - 1, by omega⟩
          obtain ⟨b', off', y, e', -, hy, d0, d1⟩ := pair_at (h.below hb.out) (show j < n by omega)
          cases e'
          have hye : y = last := by
            have := hlk.out (by omega)
            rw [Nat.add_sub_cancel, hy] at this
            exact Option.some.inj this
          subst hye
          have r2 : IntKind.i64.wrap (j : Int) = (j : Int) := by rw [IntKind.wrap_i64]; omega
          have p0 : (0 : Int) < (j : Int) + 1 := by omega
          have b2 : (j : Int) < (n : Int) := by omega
          clear hy hk0 hl0
          by_cases c5 : y.a < x.a
          · have C5 := Lib.hid c5
            have c5' : decide (x.a ≤ y.a) = false := decide_eq_false (by omega)
            go_wp2_with fail
            go_quiet (fail)
            go_wp2_with fail
            go_roundw
            case rel => exact ⟨j + 1 + 1, x, by go_num, rfl, by omega, by show _ = _; rw [HE.out, decide_eq_true ⟨C5.out, HC.out.2⟩]; rfl, by omega, by omega, fun _ => HX.out, below_drewN hb.out _⟩
            case measure => simp [intOf]; omega
          · have C5 := Lib.hid c5
            have c5' : x.a ≤ y.a := by omega
            go_wp2_with fail
            go_quiet (fail)
            go_wp2_with fail
            go_ret
            exact ⟨ret_bool (HBAD.out (fun c => by have := C5.out; omega)).symm, below_drewN hb.out _⟩
      · have hcs : x.a < 0 ∨ (¬ x.a < 0 ∧ 4294967296 < x.a) ∨ (¬ x.a < 0 ∧ ¬ 4294967296 < x.a ∧ x.b < last.b) ∨ (¬ x.a < 0 ∧ ¬ 4294967296 < x.a ∧ ¬ x.b < last.b ∧ 16777216 < x.b) := by omega
        have HBAD2 : Hid (bandOk l over = false) := HBAD.out (fun q => c ⟨by omega, q.2⟩)
        clear c
        rcases hcs with h1 | ⟨h1, h2⟩ | ⟨h1, h2, h3⟩ | ⟨h1, h2, h3, h4⟩
        all_goals
          go_wp2_with fail
          go_ret
          exact ⟨ret_bool HBAD2.out.symm, hb.out⟩
    · have hk' : k = n := by omega
      subst hk'
      have hfin : bandOk l over = (decide (k ≤ 64) && (decide (last.b ≤ over) && decide (over ≤ 16777216))) := by
        unfold bandOk
        rw [he.out, List.drop_eq_nil_of_le (by rw [hN.out]; exact Nat.le_refl _), hN.out]
        show (_ && decide (last.b ≤ over ∧ over ≤ 16777216)) = _
        rw [Bool.decide_and]
      have HF := Lib.hid hfin
      clear hfin
      by_cases c1 : k ≤ 64
      · by_cases c2 : last.b ≤ over
        · go_wp2_with fail
          go_ret
          exact ⟨ret_bool (by rw [HF.out]; simp [c1, c2]), hb.out⟩
        · go_wp2_with fail
          go_ret
          exact ⟨ret_bool (by rw [HF.out]; simp; omega), hb.out⟩
      · go_wp2_with fail
        go_ret
        exact ⟨ret_bool (by rw [HF.out]; simp; omega), hb.out⟩

set_option maxHeartbeats 2000000 in
theorem rrungR_any (a : Option Addr) (n cap : Nat) (l : List Pair) (w : World) (hm : n ≤ 1000000) (h : Sl Pair.cod w a n cap l) :
    Calls Try.prog 63 #[.slice a n cap] w fun e w' => e = .returned (.bool (rungsOk l)) ∧ Below w.heap.size w w' := by
  have hN := Lib.hid h.hlen
  have mixed : Try.prog.follows .mixedOrders = true := by kernel_rfl
  go_enter Try.func63, Try.ntmps63
  go_wp2_with fail
  go_loopw [3] (fun i wr => ∃ (k : Nat) (last : Pair), i = .int .i64 k ∧ k ≤ n ∧ Hid (rungGo ⟨-1, 1000⟩ l = rungGo last (l.drop k)) ∧ -1 ≤ last.a ∧ (k = 0 → last.a = -1 ∧ last.b = 1000) ∧ last.b ≤ 1000 ∧ Hid (0 < k → l[k - 1]? = some last) ∧ Hid (Below w.heap.size w wr)) (fun i _ => n - (intOf i).toNat)
  case atStart => exact ⟨0, ⟨-1, 1000⟩, rfl, by omega, rfl, by simp, by simp, by simp, fun h => by omega, Below.refl _ _⟩
  case round =>
    obtain ⟨k, last, rfl, hk, he, hla, hl0, hlb, hlk, hb⟩ := hrel
    by_cases hlt : k < n
    · obtain ⟨b, off, x, rfl, hbl, hx, c0, c1⟩ := pair_at (h.below hb.out) hlt
      have HX := Lib.hid hx
      clear hx
      have b1 : (k : Int) < (n : Int) := by omega
      have he' : rungGo ⟨-1, 1000⟩ l = (decide (last.a < x.a ∧ x.a ≤ 281474976710656 ∧ x.b < last.b ∧ 0 ≤ x.b) && rungGo x (l.drop (k + 1))) := by rw [he.out, drop_at HX.out]; rfl
      have HE := Lib.hid he'
      clear he'
      have hbad : ¬ (last.a < x.a ∧ x.a ≤ 281474976710656 ∧ x.b < last.b ∧ 0 ≤ x.b) → rungsOk l = false := fun c => by
        unfold rungsOk; rw [HE.out, decide_eq_false c]; simp
      have HBAD := Lib.hid hbad
      clear hbad
      by_cases c : 0 ≤ x.a ∧ x.a ≤ 281474976710656 ∧ 0 ≤ x.b ∧ x.b ≤ 999
      · have HC := Lib.hid c
        obtain ⟨p1, p2, p3, p4⟩ := c
        by_cases hk0 : k = 0
        · subst hk0
          replace c0 : wr.cell? ⟨b, off, none⟩ = some (.int .i64 x.a) := by simpa using c0
          replace c1 : wr.cell? ⟨b, off + 1, none⟩ = some (.int .i64 x.b) := by simpa using c1
          have hl1 := hl0 rfl
          have hd : decide ((0 : Int) > (0 : Int)) = false := by decide
          have hgood : last.a < x.a ∧ x.a ≤ 281474976710656 ∧ x.b < last.b ∧ 0 ≤ x.b := by omega
          have HG := Lib.hid hgood
          clear hl0 hgood hl1
          go_wp2_with fail
          go_quiet (fail)
          go_wp2_with fail
          go_roundw
          case rel => exact ⟨1, x, by go_num, by omega, by show _ = _; rw [HE.out, decide_eq_true HG.out]; rfl, by omega, by omega, by omega, fun _ => HX.out, below_drewN hb.out _⟩
          case measure => simp [intOf]; omega
        · obtain ⟨j, rfl⟩ : ∃ j, k = j + 1 := ⟨k - 1, by omega⟩
          obtain ⟨b', off', y, e', -, hy, d0, d1⟩ := pair_at (h.below hb.out) (show j < n by omega)
          cases e'
          have hye : y = last := by
            have := hlk.out (by omega)
            rw [Nat.add_sub_cancel, hy] at this
            exact Option.some.inj this
          subst hye
          have r2 : IntKind.i64.wrap (j : Int) = (j : Int) := by rw [IntKind.wrap_i64]; omega
          have p0 : (0 : Int) < (j : Int) + 1 := by omega
          have b2 : (j : Int) < (n : Int) := by omega
          clear hy hk0 hl0
          by_cases c5 : y.a < x.a
          · have C5 := Lib.hid c5
            have c5' : decide (x.a ≤ y.a) = false := decide_eq_false (by omega)
            by_cases c6 : x.b < y.b
            · have C6 := Lib.hid c6
              have c6' : decide (y.b ≤ x.b) = false := decide_eq_false (by omega)
              have c6'' : decide (x.b ≥ y.b) = false := decide_eq_false (by omega)
              go_wp2_with fail
              go_quiet (fail)
              go_wp2_with fail
              go_roundw
              case rel => exact ⟨j + 1 + 1, x, by go_num, by omega, by show _ = _; rw [HE.out, decide_eq_true ⟨C5.out, HC.out.2.1, C6.out, HC.out.2.2.1⟩]; rfl, by omega, by omega, by omega, fun _ => HX.out, below_drewN hb.out _⟩
              case measure => simp [intOf]; omega
            · have C6 := Lib.hid c6
              have c6' : y.b ≤ x.b := by omega
              go_wp2_with fail
              go_quiet (fail)
              go_wp2_with fail
              go_ret
              exact ⟨ret_bool (HBAD.out (fun c => by have := C6.out; omega)).symm, below_drewN hb.out _⟩
          · have C5 := Lib.hid c5
            have c5' : x.a ≤ y.a := by omega
            go_wp2_with fail
            go_quiet (fail)
            go_wp2_with fail
            go_ret
            exact ⟨ret_bool (HBAD.out (fun c => by have := C5.out; omega)).symm, below_drewN hb.out _⟩
      · have hcs : x.a < 0 ∨ (¬ x.a < 0 ∧ 281474976710656 < x.a) ∨ (¬ x.a < 0 ∧ ¬ 281474976710656 < x.a ∧ x.b < 0) ∨ (¬ x.a < 0 ∧ ¬ 281474976710656 < x.a ∧ ¬ x.b < 0 ∧ 999 < x.b) := by omega
        have HBAD2 : Hid (rungsOk l = false) := HBAD.out (fun q => c ⟨by omega, by omega, by omega, by omega⟩)
        clear c
        rcases hcs with h1 | ⟨h1, h2⟩ | ⟨h1, h2, h3⟩ | ⟨h1, h2, h3, h4⟩
        all_goals
          go_wp2_with fail
          go_ret
          exact ⟨ret_bool HBAD2.out.symm, hb.out⟩
    · have hk' : k = n := by omega
      subst hk'
      have e2 : rungGo last [] = true := rfl
      have hfin : rungsOk l = (decide (k ≤ 16) && decide (l = [] ∨ (l.getLastD ⟨-1, 1000⟩).b = 0)) := by
        unfold rungsOk
        rw [he.out, List.drop_eq_nil_of_le (by rw [hN.out]; exact Nat.le_refl _), e2, hN.out, Bool.and_true]
      have HF := Lib.hid hfin
      clear hfin e2
      by_cases c1 : k ≤ 16
      · by_cases c2 : k = 0
        · subst c2
          have hnil : l = [] := List.eq_nil_of_length_eq_zero hN.out.symm
          have HNIL := Lib.hid hnil
          clear hnil
          go_wp2_with fail
          go_ret
          exact ⟨ret_bool (by rw [HF.out, HNIL.out]; simp), hb.out⟩
        · obtain ⟨j, rfl⟩ : ∃ j, k = j + 1 := ⟨k - 1, by omega⟩
          obtain ⟨b, off, y, rfl, hbl, hy, d0, d1⟩ := pair_at (h.below hb.out) (show j < j + 1 by omega)
          have r2 : IntKind.i64.wrap (j : Int) = (j : Int) := by rw [IntKind.wrap_i64]; omega
          have b2 : (j : Int) < (j : Int) + 1 := by omega
          have z1 : ((j : Int) + 1 == 0) = false := by simp; omega
          have hlast : l.getLastD ⟨-1, 1000⟩ = y := by
            rw [List.getLastD_eq_getLast?, List.getLast?_eq_getElem?, ← hN.out, Nat.add_sub_cancel, hy]; rfl
          have hne : l ≠ [] := fun e => by have := hN.out; rw [e] at this; simp at this
          have hfin2 : rungsOk l = (y.b == 0) := by
            rw [HF.out, hlast, decide_eq_true c1, Bool.true_and, Bool.eq_iff_iff]; simp [hne]
          have HF2 := Lib.hid hfin2
          clear hfin2 hne hlast hy hlk hl0
          go_wp2_with fail
          go_ret
          exact ⟨ret_bool HF2.out.symm, hb.out⟩
      · go_wp2_with fail
        go_ret
        exact ⟨ret_bool (by rw [HF.out]; simp; omega), hb.out⟩
end Go.Proofs.Ytgdhlhjflbinmaa

namespace Go.Proofs.Ytgdhlhjflbinmaa
open Go.RowKit Go.V Go.Proofs

/-- A tariff in a box of its own. -/
def TarBox (ty : TypeId) (w : World) (g : Nat) (t : Tar) (hb hs hr : Hdr) : Prop := w.heap[g]? = some (.cells #[.int .i64 t.ver, .slice hb.a hb.n hb.cap, .int .i64 t.over, .int .i64 t.full, .slice hs.a hs.n hs.cap, .int .i64 t.unit, .int .i64 t.window, .int .i64 t.chain, .slice hr.a hr.n hr.cap] ty (0, 0))
theorem TarBox.below {ty : TypeId} {w w' : World} {g : Nat} {t : Tar} {hb hs hr : Hdr} (h : TarBox ty w g t hb hs hr) (hw : Below w.heap.size w w') : TarBox ty w' g t hb hs hr := by
  unfold TarBox at h ⊢
  rw [hw.block g (Array.getElem?_eq_some_iff.1 h).1]; exact h
theorem TarBox.cells {ty : TypeId} {w : World} {g : Nat} {t : Tar} {hb hs hr : Hdr} (h : TarBox ty w g t hb hs hr) : g < w.heap.size ∧ w.cell? ⟨g, 0, none⟩ = some (.int .i64 t.ver) ∧ w.cell? ⟨g, 1, none⟩ = some (.slice hb.a hb.n hb.cap) ∧ w.cell? ⟨g, 2, none⟩ = some (.int .i64 t.over) ∧ w.cell? ⟨g, 3, none⟩ = some (.int .i64 t.full) ∧ w.cell? ⟨g, 4, none⟩ = some (.slice hs.a hs.n hs.cap) ∧ w.cell? ⟨g, 5, none⟩ = some (.int .i64 t.unit) ∧ w.cell? ⟨g, 6, none⟩ = some (.int .i64 t.window) ∧ w.cell? ⟨g, 7, none⟩ = some (.int .i64 t.chain) ∧ w.cell? ⟨g, 8, none⟩ = some (.slice hr.a hr.n hr.cap) :=
  ⟨(Array.getElem?_eq_some_iff.1 h).1, (box_cell h 0).1, (box_cell h 1).1, (box_cell h 2).1, (box_cell h 3).1, (box_cell h 4).1, (box_cell h 5).1, (box_cell h 6).1, (box_cell h 7).1, (box_cell h 8).1⟩

theorem eight (r1 r2 r3 r4 r5 r6 r7 r8 : Bool) : r1 = false ∨ (r1 = true ∧ r2 = false) ∨ (r1 = true ∧ r2 = true ∧ r3 = false) ∨ (r1 = true ∧ r2 = true ∧ r3 = true ∧ r4 = false) ∨ (r1 = true ∧ r2 = true ∧ r3 = true ∧ r4 = true ∧ r5 = false) ∨ (r1 = true ∧ r2 = true ∧ r3 = true ∧ r4 = true ∧ r5 = true ∧ r6 = false) ∨ (r1 = true ∧ r2 = true ∧ r3 = true ∧ r4 = true ∧ r5 = true ∧ r6 = true ∧ r7 = false) ∨ (r1 = true ∧ r2 = true ∧ r3 = true ∧ r4 = true ∧ r5 = true ∧ r6 = true ∧ r7 = true ∧ r8 = false) ∨ (r1 = true ∧ r2 = true ∧ r3 = true ∧ r4 = true ∧ r5 = true ∧ r6 = true ∧ r7 = true ∧ r8 = true) := by
  cases r1 <;> cases r2 <;> cases r3 <;> cases r4 <;> cases r5 <;> cases r6 <;> cases r7 <;> cases r8 <;> simp

set_option maxHeartbeats 4000000 in
theorem tarR_any (t : Tar) (hb hs hr : Hdr) (w : World) (hm : hb.n ≤ 1000000 ∧ hs.n ≤ 1000000 ∧ hr.n ≤ 1000000) (h : TarIn w t hb hs hr) :
    Calls Try.prog 33 #[t.val hb hs hr] w fun e w' => e = .returned (.bool (tarOk t)) ∧ Below w.heap.size w w' := by
  obtain ⟨m1, m2, m3⟩ := hm
  have TB : Hid (TarBox 26 (w.alloc (.cells #[.int .i64 t.ver, .slice hb.a hb.n hb.cap, .int .i64 t.over, .int .i64 t.full, .slice hs.a hs.n hs.cap, .int .i64 t.unit, .int .i64 t.window, .int .i64 t.chain, .slice hr.a hr.n hr.cap] 26)) w.heap.size t hb hs hr) := box_new _ _
  have HB : Hid (Below w.heap.size w (w.alloc (.cells #[.int .i64 t.ver, .slice hb.a hb.n hb.cap, .int .i64 t.over, .int .i64 t.full, .slice hs.a hs.n hs.cap, .int .i64 t.unit, .int .i64 t.window, .int .i64 t.chain, .slice hr.a hr.n hr.cap] 26))) := (Below.refl _ _).alloc (Nat.le_refl _) _
  obtain ⟨r1, e1⟩ : ∃ r, wB t.ver 1 1048576 = r := ⟨_, rfl⟩
  obtain ⟨r2, e2⟩ : ∃ r, bandOk t.bands t.over = r := ⟨_, rfl⟩
  obtain ⟨r3, e3⟩ : ∃ r, wB t.full 0 16777216 = r := ⟨_, rfl⟩
  obtain ⟨r4, e4⟩ : ∃ r, sharesOk t.shares = r := ⟨_, rfl⟩
  obtain ⟨r5, e5⟩ : ∃ r, wB t.unit 1 16777216 = r := ⟨_, rfl⟩
  obtain ⟨r6, e6⟩ : ∃ r, wB t.window 0 1099511627776 = r := ⟨_, rfl⟩
  obtain ⟨r7, e7⟩ : ∃ r, wB t.chain 1 16 = r := ⟨_, rfl⟩
  obtain ⟨r8, e8⟩ : ∃ r, rungsOk t.rungs = r := ⟨_, rfl⟩
  have hfin : tarOk t = (r1 && r2 && r3 && r4 && r5 && r6 && r7 && r8) := by unfold tarOk; rw [e1, e2, e3, e4, e5, e6, e7, e8]
  have HF := Lib.hid hfin
  clear hfin
  have hcs := eight r1 r2 r3 r4 r5 r6 r7 r8
  unfold Tar.val
  go_enter Try.func33, Try.ntmps33
  rcases hcs with rfl | ⟨rfl, rfl⟩ | ⟨rfl, rfl, rfl⟩ | ⟨rfl, rfl, rfl, rfl⟩ | ⟨rfl, rfl, rfl, rfl, rfl⟩ | ⟨rfl, rfl, rfl, rfl, rfl, rfl⟩ | ⟨rfl, rfl, rfl, rfl, rfl, rfl, rfl⟩ | ⟨rfl, rfl, rfl, rfl, rfl, rfl, rfl, rfl⟩ | ⟨rfl, rfl, rfl, rfl, rfl, rfl, rfl, rfl⟩
  all_goals
    go_wp2_with (first
      | (go_at_call 34; refine (pwithin_any _ _ _ _).mono ?_; rintro e w' ⟨rfl, rfl⟩; first | rw [e1] | rw [e3] | rw [e5] | rw [e6] | rw [e7])
      | (go_at_call 48; refine (bandR_any _ _ _ t.bands _ _ m1 (h.b.below HB.out)).mono ?_; rintro e w1 ⟨rfl, hb1⟩; rw [e2]; have HB := Lib.hid (HB.out.trans (hb1.mono HB.out.size)); have TB := Lib.hid (TB.out.below hb1); obtain ⟨kk, k0, k1, k2, k3, k4, k5, k6, k7, k8⟩ := TB.out.cells; clear hb1)
      | (go_at_call 49; refine (sharesR_any _ _ _ t.shares _ m2 (h.s.below HB.out)).mono ?_; rintro e w2 ⟨rfl, hb2⟩; rw [e4]; have HB := Lib.hid (HB.out.trans (hb2.mono HB.out.size)); have TB := Lib.hid (TB.out.below hb2); obtain ⟨kk, k0, k1, k2, k3, k4, k5, k6, k7, k8⟩ := TB.out.cells; clear hb2)
      | (go_at_call 50; refine (rungR_any _ _ _ t.rungs _ m3 (h.r.below HB.out)).mono ?_; rintro e w3 ⟨rfl, hb3⟩; rw [e8]; have HB := Lib.hid (HB.out.trans (hb3.mono HB.out.size)); clear hb3))
    go_ret
    exact ⟨ret_bool (by rw [HF.out]; rfl), HB.out⟩

set_option maxHeartbeats 4000000 in
theorem rtarR_any (t : Tar) (hb hs hr : Hdr) (w : World) (hm : hb.n ≤ 1000000 ∧ hs.n ≤ 1000000 ∧ hr.n ≤ 1000000) (h : TarIn w t hb hs hr) :
    Calls Try.prog 39 #[t.val hb hs hr] w fun e w' => e = .returned (.bool (tarOk t)) ∧ Below w.heap.size w w' := by
  obtain ⟨m1, m2, m3⟩ := hm
  have TB : Hid (TarBox 26 (w.alloc (.cells #[.int .i64 t.ver, .slice hb.a hb.n hb.cap, .int .i64 t.over, .int .i64 t.full, .slice hs.a hs.n hs.cap, .int .i64 t.unit, .int .i64 t.window, .int .i64 t.chain, .slice hr.a hr.n hr.cap] 26)) w.heap.size t hb hs hr) := box_new _ _
  have HB : Hid (Below w.heap.size w (w.alloc (.cells #[.int .i64 t.ver, .slice hb.a hb.n hb.cap, .int .i64 t.over, .int .i64 t.full, .slice hs.a hs.n hs.cap, .int .i64 t.unit, .int .i64 t.window, .int .i64 t.chain, .slice hr.a hr.n hr.cap] 26))) := (Below.refl _ _).alloc (Nat.le_refl _) _
  obtain ⟨r1, e1⟩ : ∃ r, wB t.ver 1 1048576 = r := ⟨_, rfl⟩
  obtain ⟨r2, e2⟩ : ∃ r, bandOk t.bands t.over = r := ⟨_, rfl⟩
  obtain ⟨r3, e3⟩ : ∃ r, wB t.full 0 16777216 = r := ⟨_, rfl⟩
  obtain ⟨r4, e4⟩ : ∃ r, sharesOk t.shares = r := ⟨_, rfl⟩
  obtain ⟨r5, e5⟩ : ∃ r, wB t.unit 1 16777216 = r := ⟨_, rfl⟩
  obtain ⟨r6, e6⟩ : ∃ r, wB t.window 0 1099511627776 = r := ⟨_, rfl⟩
  obtain ⟨r7, e7⟩ : ∃ r, wB t.chain 1 16 = r := ⟨_, rfl⟩
  obtain ⟨r8, e8⟩ : ∃ r, rungsOk t.rungs = r := ⟨_, rfl⟩
  have hfin : tarOk t = (r1 && r2 && r3 && r4 && r5 && r6 && r7 && r8) := by unfold tarOk; rw [e1, e2, e3, e4, e5, e6, e7, e8]
  have HF := Lib.hid hfin
  clear hfin
  have hcs := eight r1 r2 r3 r4 r5 r6 r7 r8
  unfold Tar.val
  go_enter Try.func39, Try.ntmps39
  rcases hcs with rfl | ⟨rfl, rfl⟩ | ⟨rfl, rfl, rfl⟩ | ⟨rfl, rfl, rfl, rfl⟩ | ⟨rfl, rfl, rfl, rfl, rfl⟩ | ⟨rfl, rfl, rfl, rfl, rfl, rfl⟩ | ⟨rfl, rfl, rfl, rfl, rfl, rfl, rfl⟩ | ⟨rfl, rfl, rfl, rfl, rfl, rfl, rfl, rfl⟩ | ⟨rfl, rfl, rfl, rfl, rfl, rfl, rfl, rfl⟩
  all_goals
    go_wp2_with (first
      | (go_at_call 60; refine (fwithin_any _ _ _ _).mono ?_; rintro e w' ⟨rfl, rfl⟩; first | rw [e1] | rw [e3] | rw [e5] | rw [e6] | rw [e7])
      | (go_at_call 61; refine (rbandR_any _ _ _ t.bands _ _ m1 (h.b.below HB.out)).mono ?_; rintro e w1 ⟨rfl, hb1⟩; rw [e2]; have HB := Lib.hid (HB.out.trans (hb1.mono HB.out.size)); have TB := Lib.hid (TB.out.below hb1); obtain ⟨kk, k0, k1, k2, k3, k4, k5, k6, k7, k8⟩ := TB.out.cells; clear hb1)
      | (go_at_call 62; refine (rsharesR_any _ _ _ t.shares _ m2 (h.s.below HB.out)).mono ?_; rintro e w2 ⟨rfl, hb2⟩; rw [e4]; have HB := Lib.hid (HB.out.trans (hb2.mono HB.out.size)); have TB := Lib.hid (TB.out.below hb2); obtain ⟨kk, k0, k1, k2, k3, k4, k5, k6, k7, k8⟩ := TB.out.cells; clear hb2)
      | (go_at_call 63; refine (rrungR_any _ _ _ t.rungs _ m3 (h.r.below HB.out)).mono ?_; rintro e w3 ⟨rfl, hb3⟩; rw [e8]; have HB := Lib.hid (HB.out.trans (hb3.mono HB.out.size)); clear hb3))
    go_ret
    exact ⟨ret_bool (by rw [HF.out]; rfl), HB.out⟩
end Go.Proofs.Ytgdhlhjflbinmaa
