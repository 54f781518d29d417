/- Fields: the program's reader, walked. -/
/- Fields: the program's reader, walked: raw. -/
/- Fields: the program's reader, walked: Number, Error, Done. -/
import Derived.Test.YtbdkhgenkekioaaWiN
namespace Go.Proofs.Ytbdkhgenkekioaa.Wi
open Go.RowKit Go.V Go.Proofs Go.Sort
open Go.Proofs.Ytbdkhgenkekioaa.Ne (box_alloc box_new box_cell box_below box_lt below_drewN)

theorem box4_cells {w : World} {g : Nat} {e : TypeId} {u0 u1 u2 u3 : Value} (h : w.heap[g]? = some (.cells #[u0, u1, u2, u3] e (0, 0))) : w.cell? ⟨g, 0, none⟩ = some u0 ∧ w.cell? ⟨g, 1, none⟩ = some u1 ∧ w.cell? ⟨g, 2, none⟩ = some u2 ∧ w.cell? ⟨g, 3, none⟩ = some u3 ∧ w.frozen? ⟨g, 1, none⟩ = false ∧ w.frozen? ⟨g, 2, none⟩ = false :=
  ⟨(box_cell h 0).1, (box_cell h 1).1, (box_cell h 2).1, (box_cell h 3).1, (box_cell h 1).2, (box_cell h 2).2⟩
/-- A reader: its box. -/
def Fb (w : World) (g : Nat) (a : Option Addr) (n cap : Nat) (at_ : Nat) (bad : Int) : Prop := w.heap[g]? = some (.cells #[.slice a n cap, .int .i64 (at_ : Int), .int .i64 bad, .bool true] 142 (0, 0))
theorem fread_any (a : Option Addr) (n cap : Nat) (w : World) : Calls Try.prog 61 #[.slice a n cap] w fun e w' => e = .returned (.pointer (some ⟨w.heap.size, 0, none⟩)) ∧ Fb w' w.heap.size a n cap 0 0 ∧ Below w.heap.size w w' := by
  go_enter Try.func61, Try.ntmps61
  go_wp2
  go_ret
  exact ⟨rfl, box_new w _, (Below.refl _ _).alloc (Nat.le_refl _) _⟩

set_option maxHeartbeats 1000000 in
theorem fok_any (g : Nat) (a : Option Addr) (n cap : Nat) (at_ : Nat) (bad : Int) (w : World) (hb : Fb w g a n cap at_ bad) :
    Calls Try.prog 108 #[.pointer (some ⟨g, 0, none⟩)] w fun e w' => e = .returned (.bool (decide (bad = 0))) ∧ Below w.heap.size w w' := by
  obtain ⟨c0, c1, c2, c3, -, -⟩ := box4_cells hb
  clear hb
  by_cases h0 : bad = 0
  · subst h0
    go_enter Try.func108, Try.ntmps108
    go_wp2_with fail
    first
      | (go_quiet (fail); go_wp2_with fail; go_ret; exact ⟨rfl, below_drewN (Below.refl _ _) _⟩)
      | (go_ret; exact ⟨rfl, Below.refl _ _⟩)
  · have h0' : (bad == 0) = false := by simpa using h0
    have HD : Hid (decide (bad = 0) = false) := decide_eq_false h0
    clear h0
    go_enter Try.func108, Try.ntmps108
    go_wp2_with fail
    first
      | (go_quiet (fail); go_wp2_with fail; go_ret; exact ⟨by rw [HD.out]; rfl, below_drewN (Below.refl _ _) _⟩)
      | (go_ret; exact ⟨by rw [HD.out]; rfl, Below.refl _ _⟩)

set_option maxHeartbeats 1000000 in
theorem fmay_any (g : Nat) (I : Int) (most : Int) (w : World) (hc : w.cell? ⟨g, 0, none⟩ = some (.int .i64 most)) (h0 : 0 ≤ I) :
    Calls Try.prog 105 #[.int .u64 I, .pointer (some ⟨g, 0, none⟩)] w fun e w' => e = .returned (.bool (decide (I ≤ most ∧ I ≤ 4611686018427387904))) ∧ Below w.heap.size w w' := by
  by_cases h1 : I ≤ 4611686018427387904
  · have hd1 : decide (I ≤ 4611686018427387904) = true := decide_eq_true h1
    have hN : I < 9223372036854775808 := by omega
    by_cases h2 : I ≤ most
    · have HD : Hid (decide (I ≤ most ∧ I ≤ 4611686018427387904) = true) := decide_eq_true ⟨h2, h1⟩
      have hd2 : decide (I ≤ most) = true := decide_eq_true h2
      clear h2
      go_enter Try.func105, Try.ntmps105
      go_wp2_with fail
      go_ret
      exact ⟨by rw [HD.out]; rfl, Below.refl _ _⟩
    · have HD : Hid (decide (I ≤ most ∧ I ≤ 4611686018427387904) = false) := decide_eq_false (fun q => h2 q.1)
      have hd2 : decide (I ≤ most) = false := decide_eq_false h2
      clear h2
      go_enter Try.func105, Try.ntmps105
      go_wp2_with fail
      go_ret
      exact ⟨by rw [HD.out]; rfl, Below.refl _ _⟩
  · have HD : Hid (decide (I ≤ most ∧ I ≤ 4611686018427387904) = false) := decide_eq_false (fun q => h1 q.2)
    have hd1 : decide (I ≤ 4611686018427387904) = false := decide_eq_false h1
    clear h1
    go_enter Try.func105, Try.ntmps105
    go_wp2_with fail
    go_ret
    exact ⟨by rw [HD.out]; rfl, Below.refl _ _⟩
end Go.Proofs.Ytbdkhgenkekioaa.Wi

namespace Go.Proofs.Ytbdkhgenkekioaa.Wi
open Go.RowKit Go.V Go.Proofs Go.Sort
open Go.Proofs.Ytbdkhgenkekioaa.Ne (box_alloc box_new box_cell box_below box_lt below_drewN)

set_option maxHeartbeats 4000000 in
theorem fraw_any (g y : Nat) (a : Option Addr) (n cap : Nat) (at_ : Nat) (bad most : Int) (c : List Int) (w : World) (hb : Fb w g a n cap at_ bad) (hy : w.heap[y]? = some (.cells #[.int .i64 most] 3 (0, 0))) (hs : Sl bcod w a n cap c) (hB : Byt c) (hn : n ≤ 1000000000) (hat : at_ ≤ n) :
    Calls Try.prog 104 #[.pointer (some ⟨g, 0, none⟩), .func (.func 105) #[] #[.pointer (some ⟨y, 0, none⟩)]] w fun e w' => e = .returned (.tuple #[.int .u64 (rdN c most at_ bad).1, .bool (decide ((rdN c most at_ bad).2.2 = 0))]) ∧ Fb w' g a n cap (rdN c most at_ bad).2.1 (rdN c most at_ bad).2.2 ∧ w.grownBy w' (some g) := by
  have mixed : Try.prog.follows .mixedOrders = true := by kernel_rfl
  have HRB := Lib.hid hb
  have HY := Lib.hid hy
  have HS := Lib.hid hs
  have HBY := Lib.hid hB
  have hln : n = c.length := hs.hlen
  have hcl : ∀ k, (takeV (c.drop at_)).2.2 = 0 → (takeV (c.drop at_)).2.1 = k → k ≤ 1000000000 := fun k h1 h2 => by
    have := takeV_len (b := c.drop at_) (n := (takeV (c.drop at_)).1) (k := (takeV (c.drop at_)).2.1) (hB.drop _) (by rw [← h1])
    rw [h2, List.length_drop] at this
    omega
  have HCL := Lib.hid hcl
  clear hb hs hB hy hln hcl
  by_cases h0 : bad = 0
  case neg =>
    have HD : Hid (rdN c most at_ bad = (0, at_, bad)) := by show _ = _; unfold rdN; rw [if_pos h0]
    have HDB : Hid (decide (bad = 0) = false) := decide_eq_false h0
    clear h0
    go_enter Try.func104, Try.ntmps104
    go_wp2_with (go_at_call 108; go_loud (refine (fok_any g a n cap at_ bad w HRB.out).mono ?_); rintro e w1 ⟨rfl, hb1⟩; rw [HDB.out]; have HB1 := Lib.hid hb1; have HRB1 : Hid (Fb w1 g a n cap at_ bad) := (hb1.block g (box_lt HRB.out)).trans HRB.out; clear hb1)
    go_ret2
    exact ⟨by rw [HD.out]; simp only []; rw [HDB.out]; rfl, by rw [HD.out]; exact HRB1.out, grown_of_below HB1.out⟩
  case pos =>
    subst h0
    have HDB : Hid (decide ((0 : Int) = 0) = true) := decide_eq_true rfl
    have hsl : ∀ W : World, (Instr.slice 47 (.slice a n cap) (some (.int .i64 (at_ : Int))) none none).run Try.prog W = .ok (.slice (if cap = at_ then a else a.map (·.add (at_ * bcod.k))) (n - at_) (cap - at_)) W := fun W => brun_from HS.out hat W
    have HSF := Lib.hid (sl_from HS.out hat)
    obtain ⟨a', ha'⟩ : ∃ a', (if cap = at_ then a else a.map (·.add (at_ * bcod.k))) = a' := ⟨_, rfl⟩
    rw [ha'] at HSF
    simp only [ha'] at hsl
    clear ha'
    obtain ⟨m, hm⟩ : ∃ m, n - at_ = m := ⟨_, rfl⟩
    obtain ⟨cp, hcp⟩ : ∃ cp, cap - at_ = cp := ⟨_, rfl⟩
    have hm9 : m ≤ 1000000000 := by omega
    rw [hm, hcp] at HSF
    simp only [hm, hcp] at hsl
    clear hm hcp
    have HBD := Lib.hid (HBY.out.drop at_)
    obtain ⟨t, ht⟩ : ∃ t, takeV (c.drop at_) = t := ⟨_, rfl⟩
    obtain ⟨N, K, E⟩ := t
    have HT := Lib.hid ht
    rw [ht] at HCL
    clear ht
    by_cases hE : E = 0
    case neg =>
      have HD : Hid (rdN c most at_ 0 = (0, at_, E)) := by show _ = _; unfold rdN; rw [if_neg (by simp), HT.out]; exact if_pos hE
      have hE' : (E != 0) = true := by simpa using hE
      have hE2 : (E == 0) = false := by simpa using hE
      have HDE : Hid (decide (E = 0) = false) := decide_eq_false hE
      clear hE
      go_enter Try.func104, Try.ntmps104
      go_upto_region 3 with (go_at_call 108; go_loud (refine (fok_any g a n cap at_ 0 w HRB.out).mono ?_); rintro e w1 ⟨rfl, hb1⟩; rw [HDB.out]; have HB1 := Lib.hid hb1; have HRB1 : Hid (Fb w1 g a n cap at_ 0) := (hb1.block g (box_lt HRB.out)).trans HRB.out; clear hb1)
      obtain ⟨d0, d1, d2, d3, -, -⟩ := box4_cells HRB1.out
      have K0 := cell_regrown d0
      have K1 := cell_regrown d1
      have HSF1 := Lib.hid (HSF.out.below HB1.out)
      have hrt : ∀ nd osq, Calls Try.prog 129 #[.slice a' m cp] (Go.Sort.grow (redrawn w1 nd) osq) fun e w' => e = .returned (.tuple #[.int .u64 (N : Int), .int .i64 (K : Int), .int .i64 E]) ∧ Below (Go.Sort.grow (redrawn w1 nd) osq).heap.size (Go.Sort.grow (redrawn w1 nd) osq) w' := fun nd osq => by
        have := vtake_any a' m cp (c.drop at_) (Go.Sort.grow (redrawn w1 nd) osq) (HSF1.out.below (below_regrown _ _ _)) HBD.out hm9
        rwa [HT.out] at this
      refine wp_region_quiet_below (by assumption) (by kernel_rfl) ?_
      repeat (go_big_quiet_step ((go_at_call 129; exact Calls.regrown_of (hrt _ _))))
      refine wpQuiet_nil ?_
      intro w2 hw2
      obtain ⟨⟨nd, osq⟩, rfl⟩ := hw2
      have hb2 := below_regrown w1 nd osq
      generalize Go.Sort.grow (redrawn w1 nd) osq = w2 at hb2 ⊢
      have HRB2 : Hid (Fb w2 g a n cap at_ 0) := (hb2.block g (box_lt HRB1.out)).trans HRB1.out
      have HY2 : Hid (w2.heap[y]? = some (.cells #[.int .i64 most] 3 (0, 0))) := (hb2.block y (Nat.lt_of_lt_of_le (box_lt HY.out) HB1.out.size)).trans ((HB1.out.block y (box_lt HY.out)).trans HY.out)
      have HB2 := Lib.hid (HB1.out.trans (hb2.mono HB1.out.size))
      clear hb2 d0 d1 d2 d3 K0 K1 hrt
      obtain ⟨d0, d1, d2, d3, z1, z2⟩ := box4_cells HRB2.out
      go_wp2_with fail
      go_ret2
      exact ⟨by rw [HD.out]; simp only []; rw [HDE.out]; rfl, by rw [HD.out]; exact heap_setCell_same w2 g 2 _ _ _ HRB2.out, grown_set (grown_of_below HB2.out)⟩
    case pos =>
      subst hE
      have hK : K ≤ 1000000000 := HCL.out K rfl rfl
      go_enter Try.func104, Try.ntmps104
      go_upto_region 3 with (go_at_call 108; go_loud (refine (fok_any g a n cap at_ 0 w HRB.out).mono ?_); rintro e w1 ⟨rfl, hb1⟩; rw [HDB.out]; have HB1 := Lib.hid hb1; have HRB1 : Hid (Fb w1 g a n cap at_ 0) := (hb1.block g (box_lt HRB.out)).trans HRB.out; clear hb1)
      obtain ⟨d0, d1, d2, d3, -, -⟩ := box4_cells HRB1.out
      have K0 := cell_regrown d0
      have K1 := cell_regrown d1
      have HSF1 := Lib.hid (HSF.out.below HB1.out)
      have hrt : ∀ nd osq, Calls Try.prog 129 #[.slice a' m cp] (Go.Sort.grow (redrawn w1 nd) osq) fun e w' => e = .returned (.tuple #[.int .u64 (N : Int), .int .i64 (K : Int), .int .i64 0]) ∧ Below (Go.Sort.grow (redrawn w1 nd) osq).heap.size (Go.Sort.grow (redrawn w1 nd) osq) w' := fun nd osq => by
        have := vtake_any a' m cp (c.drop at_) (Go.Sort.grow (redrawn w1 nd) osq) (HSF1.out.below (below_regrown _ _ _)) HBD.out hm9
        rwa [HT.out] at this
      refine wp_region_quiet_below (by assumption) (by kernel_rfl) ?_
      repeat (go_big_quiet_step ((go_at_call 129; exact Calls.regrown_of (hrt _ _))))
      refine wpQuiet_nil ?_
      intro w2 hw2
      obtain ⟨⟨nd, osq⟩, rfl⟩ := hw2
      have hb2 := below_regrown w1 nd osq
      generalize Go.Sort.grow (redrawn w1 nd) osq = w2 at hb2 ⊢
      have HRB2 : Hid (Fb w2 g a n cap at_ 0) := (hb2.block g (box_lt HRB1.out)).trans HRB1.out
      have HY2 : Hid (w2.heap[y]? = some (.cells #[.int .i64 most] 3 (0, 0))) := (hb2.block y (Nat.lt_of_lt_of_le (box_lt HY.out) HB1.out.size)).trans ((HB1.out.block y (box_lt HY.out)).trans HY.out)
      have HB2 := Lib.hid (HB1.out.trans (hb2.mono HB1.out.size))
      clear hb2 d0 d1 d2 d3 K0 K1 hrt
      obtain ⟨d0, d1, d2, d3, z1, z2⟩ := box4_cells HRB2.out
      by_cases hok : (N : Int) ≤ most ∧ N ≤ 4611686018427387904
      · have HD : Hid (rdN c most at_ 0 = ((N : Int), at_ + K, 0)) := by
          show _ = _; unfold rdN; rw [if_neg (by simp), HT.out]; simp only []; rw [if_neg (by simp), if_pos hok]
        have HOK : Hid (decide ((N : Int) ≤ most ∧ (N : Int) ≤ 4611686018427387904) = true) := decide_eq_true ⟨hok.1, by omega⟩
        have HAK : Hid ((at_ : Int) + (K : Int) = ((at_ + K : Nat) : Int)) := by show _ = _; omega
        clear hok
        go_wp2_with (go_at_call 105; go_loud (refine (fmay_any y (N : Int) most w2 (box_cell HY2.out 0).1 (by omega)).mono ?_); rintro e w3 ⟨rfl, hb3⟩; rw [HOK.out]; have HB3 := Lib.hid (HB2.out.trans (hb3.mono HB2.out.size)); have HRB3 : Hid (Fb w3 g a n cap at_ 0) := (hb3.block g (box_lt HRB2.out)).trans HRB2.out; obtain ⟨e0, e1, e2, e3, y1, y2⟩ := box4_cells HRB3.out; clear hb3)
        go_ret2
        refine ⟨by rw [HD.out]; rfl, ?_, grown_set (grown_of_below HB3.out)⟩
        rw [HD.out]
        show (w3.setCell ⟨g, 1, none⟩ (.int .i64 ((at_ : Int) + (K : Int)))).heap[g]? = _
        rw [HAK.out]
        exact heap_setCell_same w3 g 1 _ _ _ HRB3.out
      · have HD : Hid (rdN c most at_ 0 = (0, at_, 3)) := by
          show _ = _; unfold rdN; rw [if_neg (by simp), HT.out]; simp only []; rw [if_neg (by simp), if_neg hok]
        have HOK : Hid (decide ((N : Int) ≤ most ∧ (N : Int) ≤ 4611686018427387904) = false) := decide_eq_false (fun q => hok ⟨q.1, by omega⟩)
        clear hok
        go_wp2_with (go_at_call 105; go_loud (refine (fmay_any y (N : Int) most w2 (box_cell HY2.out 0).1 (by omega)).mono ?_); rintro e w3 ⟨rfl, hb3⟩; rw [HOK.out]; have HB3 := Lib.hid (HB2.out.trans (hb3.mono HB2.out.size)); have HRB3 : Hid (Fb w3 g a n cap at_ 0) := (hb3.block g (box_lt HRB2.out)).trans HRB2.out; obtain ⟨e0, e1, e2, e3, y1, y2⟩ := box4_cells HRB3.out; clear hb3)
        go_ret2
        exact ⟨by rw [HD.out]; rfl, by rw [HD.out]; exact heap_setCell_same w3 g 2 _ _ _ HRB3.out, grown_set (grown_of_below HB3.out)⟩
end Go.Proofs.Ytbdkhgenkekioaa.Wi

namespace Go.Proofs.Ytbdkhgenkekioaa.Wi
open Go.RowKit Go.V Go.Proofs Go.Sort
open Go.Proofs.Ytbdkhgenkekioaa.Ne (box_alloc box_new box_cell box_below box_lt below_drewN)

theorem rdN_range (c : List Int) (most : Int) (at_ : Nat) (bad : Int) : 0 ≤ (rdN c most at_ bad).1 ∧ (rdN c most at_ bad).1 ≤ 4611686018427387904 := by
  unfold rdN
  split
  · exact ⟨by simp, by simp⟩
  simp only []
  split
  · exact ⟨by simp, by simp⟩
  split
  · next h => exact ⟨by simp, by simp only []; omega⟩
  · exact ⟨by simp, by simp⟩

set_option maxHeartbeats 1000000 in
theorem fnum_any (g : Nat) (a : Option Addr) (n cap : Nat) (at_ : Nat) (bad most : Int) (c : List Int) (w : World) (hb : Fb w g a n cap at_ bad) (hs : Sl bcod w a n cap c) (hB : Byt c) (hn : n ≤ 1000000000) (hat : at_ ≤ n) :
    Calls Try.prog 62 #[.pointer (some ⟨g, 0, none⟩), .int .i64 most] w fun e w' => e = .returned (.int .i64 (rdN c most at_ bad).1) ∧ Fb w' g a n cap (rdN c most at_ bad).2.1 (rdN c most at_ bad).2.2 ∧ w.grownBy w' (some g) := by
  have HB0 : Hid (Below w.heap.size w (w.alloc (.cells #[.int .i64 most] 3))) := (Below.refl _ _).alloc (Nat.le_refl _) _
  have HRW := Lib.hid (fraw_any g w.heap.size a n cap at_ bad most c (w.alloc (.cells #[.int .i64 most] 3)) (box_alloc hb) (box_new w _) (hs.below HB0.out) hB hn hat)
  obtain ⟨r1, r2⟩ := rdN_range c most at_ bad
  obtain ⟨R, hR⟩ : ∃ R, rdN c most at_ bad = R := ⟨_, rfl⟩
  rw [hR] at HRW r1 r2 ⊢
  obtain ⟨v, at2, bad2⟩ := R
  have r1 : 0 ≤ v := r1
  have r2 : v ≤ 4611686018427387904 := r2
  clear hb hs hB hR
  go_enter Try.func62, Try.ntmps62
  go_wp2_with (go_at_call 104; go_loud (refine HRW.out.mono ?_); rintro e w1 ⟨rfl, hb1, hg1⟩; have HB1 := Lib.hid hb1; have HG1 := Lib.hid hg1; clear hb1 hg1)
  go_ret
  exact ⟨rfl, HB1.out, ⟨HG1.out.os, HG1.out.tape, HG1.out.output, by have := HG1.out.size; simp at this; omega, fun k hk hne => (HG1.out.block k (by simp; omega) hne).trans (HB0.out.block k hk)⟩⟩

set_option maxHeartbeats 1000000 in
theorem ferr_any (g : Nat) (a : Option Addr) (n cap : Nat) (at_ : Nat) (bad : Int) (w : World) (hb : Fb w g a n cap at_ bad) :
    Calls Try.prog 109 #[.pointer (some ⟨g, 0, none⟩)] w fun e w' => e = .returned (.int .i64 bad) ∧ Below w.heap.size w w' := by
  obtain ⟨c0, c1, c2, c3, -, -⟩ := box4_cells hb
  clear hb
  go_enter Try.func109, Try.ntmps109
  go_wp2_with fail
  go_ret
  exact ⟨rfl, Below.refl _ _⟩

set_option maxHeartbeats 4000000 in
theorem fdone_any (g : Nat) (a : Option Addr) (n cap : Nat) (at_ : Nat) (bad : Int) (c : List Int) (w : World) (hb : Fb w g a n cap at_ bad) (hln : n = c.length) (_ : n ≤ 1000000000) :
    Calls Try.prog 65 #[.pointer (some ⟨g, 0, none⟩)] w fun e w' => e = .returned (.int .i64 (doneE c at_ bad)) ∧ Below w.heap.size w w' := by
  have HFB := Lib.hid hb
  have HLN := Lib.hid hln
  clear hb hln
  by_cases h0 : bad = 0
  · subst h0
    by_cases hl : at_ < n
    · have hd : decide (at_ < n) = true := decide_eq_true hl
      have HD : Hid (doneE c at_ 0 = 13) := by show _ = _; unfold doneE; rw [if_pos ⟨rfl, by rw [← HLN.out]; exact hl⟩]
      clear hl
      go_enter Try.func65, Try.ntmps65
      go_wp2_with (go_at_call 109; go_loud (refine (ferr_any g a n cap at_ 0 w HFB.out).mono ?_); rintro e w1 ⟨rfl, hb1⟩; have HB1 := Lib.hid hb1; obtain ⟨c0, c1, -, -, -, -⟩ := box4_cells ((hb1.block g (box_lt HFB.out)).trans HFB.out); clear hb1)
      go_quiet (fail)
      go_wp2_with fail
      go_ret
      exact ⟨by rw [HD.out]; rfl, below_drewN HB1.out _⟩
    · have hd : decide (at_ < n) = false := decide_eq_false hl
      have HD : Hid (doneE c at_ 0 = 0) := by show _ = _; unfold doneE; rw [if_neg (fun q => hl (by rw [HLN.out]; exact q.2))]
      clear hl
      go_enter Try.func65, Try.ntmps65
      go_wp2_with (go_at_call 109; go_loud (refine (ferr_any g a n cap at_ 0 w HFB.out).mono ?_); rintro e w1 ⟨rfl, hb1⟩; have HB1 := Lib.hid hb1; obtain ⟨c0, c1, -, -, -, -⟩ := box4_cells ((hb1.block g (box_lt HFB.out)).trans HFB.out); clear hb1)
      go_quiet (fail)
      go_wp2_with fail
      go_ret
      exact ⟨by rw [HD.out]; rfl, below_drewN HB1.out _⟩
  · have h0' : (bad == 0) = false := by simpa using h0
    have HD : Hid (doneE c at_ bad = bad) := by show _ = _; unfold doneE; rw [if_neg (fun q => h0 q.1)]
    clear h0
    go_enter Try.func65, Try.ntmps65
    go_wp2_with (go_at_call 109; go_loud (refine (ferr_any g a n cap at_ bad w HFB.out).mono ?_); rintro e w1 ⟨rfl, hb1⟩; have HB1 := Lib.hid hb1; obtain ⟨c0, c1, -, -, -, -⟩ := box4_cells ((hb1.block g (box_lt HFB.out)).trans HFB.out); clear hb1)
    go_quiet (fail)
    go_wp2_with fail
    go_ret
    exact ⟨by rw [HD.out]; rfl, below_drewN HB1.out _⟩
end Go.Proofs.Ytbdkhgenkekioaa.Wi
