/- Signed numbers and single bytes, read, walked (printed by gen_XWsB.py). -/
import Derived.Test.YtbdkhgenkekioaaWsA
import Derived.Test.YtbdkhgenkekioaaWiU
import Derived.Deep.RegionHeld3
namespace Go.Proofs.Ytbdkhgenkekioaa.Wi
open Go.RowKit Go.V Go.Proofs Go.Sort
open Go.Proofs.Ytbdkhgenkekioaa.Ne (box_alloc box_new box_cell box_below box_lt below_drewN)

/-- The number that a signed one is read from. -/
def rwS (b : List Int) (most : Int) (at_ : Nat) (bad : Int) : Nat × Nat × Int :=
  if bad ≠ 0 then (0, at_, bad) else
  let t := takeV (b.drop at_)
  if t.2.2 ≠ 0 then (0, at_, t.2.2) else
  if ((t.1 / 2 + t.1 % 2 : Nat) : Int) ≤ most ∧ t.1 / 2 + t.1 % 2 ≤ 4611686018427387904 then (t.1, at_ + t.2.1, 0) else (0, at_, 3)
theorem rdS_rw (b : List Int) (most : Int) (at_ : Nat) (bad : Int) : rdS b most at_ bad = (backV (rwS b most at_ bad).1, (rwS b most at_ bad).2) := by
  have e0 : backV 0 = 0 := by decide
  unfold rdS rwS
  simp only []
  split
  · show _ = (backV 0, _); rw [e0]
  split
  · show _ = (backV 0, _); rw [e0]
  split
  · rfl
  · show _ = (backV 0, _); rw [e0]
theorem rwS_lt {c : List Int} (hB : Byt c) (most : Int) (at_ : Nat) (bad : Int) : (rwS c most at_ bad).1 < 18446744073709551616 := by
  unfold rwS
  simp only []
  split
  · show 0 < _; omega
  split
  · show 0 < _; omega
  split
  · exact takeV_lt0 (hB.drop _)
  · show 0 < _; omega
theorem rwS_at {b : List Int} {most : Int} {at_ : Nat} {bad : Int} (hb : Byt b) (h : at_ ≤ b.length) : (rwS b most at_ bad).2.1 ≤ b.length := by
  unfold rwS
  simp only []
  split
  · exact h
  split
  · exact h
  split
  · next h2 _ =>
    have h3 : (takeV (b.drop at_)).2.2 = 0 := by
      rcases Classical.em ((takeV (b.drop at_)).2.2 = 0) with q | q
      · exact q
      · exact absurd q h2
    have := takeV_len (b := b.drop at_) (n := (takeV (b.drop at_)).1) (k := (takeV (b.drop at_)).2.1) (hb.drop _) (by rw [← h3])
    rw [List.length_drop] at this
    show at_ + _ ≤ _
    omega
  · exact h
theorem back_abs (n : Nat) : (backV n = ((n / 2 + n % 2 : Nat) : Int) ∨ backV n = -((n / 2 + n % 2 : Nat) : Int)) := by
  rw [backV_val]
  split
  · left; omega
  · right; omega
set_option maxHeartbeats 1000000 in
theorem fmayS_any (g : Nat) (N : Nat) (most : Int) (w : World) (hc : w.cell? ⟨g, 0, none⟩ = some (.int .i64 most)) (h0 : N < 18446744073709551616) :
    Calls Try.prog 106 #[.int .u64 (N : Int), .pointer (some ⟨g, 0, none⟩)] w fun e w' => e = .returned (.bool (decide (((N / 2 + N % 2 : Nat) : Int) ≤ most ∧ N / 2 + N % 2 ≤ 4611686018427387904))) ∧ Below w.heap.size w w' := by
  have HBK := Lib.hid (fun W => vback_any N W h0)
  have hab := back_abs N
  have hsz : N / 2 + N % 2 ≤ 9223372036854775807 + 1 := by omega
  obtain ⟨S, hS⟩ : ∃ S, backV N = S := ⟨_, rfl⟩
  obtain ⟨Z, hZ⟩ : ∃ Z, N / 2 + N % 2 = Z := ⟨_, rfl⟩
  rw [hS] at HBK hab
  rw [hZ] at hab hsz
  rw [hZ]
  clear hS hZ h0
  obtain ⟨P, hP⟩ : ∃ P, decide ((Z : Int) ≤ most ∧ Z ≤ 4611686018427387904) = P := ⟨_, rfl⟩
  rw [hP]
  have HP := Lib.hid hP
  have HAB := Lib.hid hab
  clear hP
  by_cases h3 : (-4611686018427387904 : Int) ≤ S
  · have hd1 : decide ((-4611686018427387904 : Int) ≤ S) = true := decide_eq_true h3
    have hw : IntKind.i64.wrap (-S) = -S := by simp only [IntKind.wrap_i64]; omega
    have H3 := Lib.hid h3
    by_cases h4 : S ≤ (4611686018427387904 : Int)
    · have hd2 : decide (S ≤ (4611686018427387904 : Int)) = true := decide_eq_true h4
      have H4 := Lib.hid h4
      clear hab h3 h4
      go_enter Try.func106, Try.ntmps106
      go_wp2_with (go_at_call 107; refine (HBK.out _).mono ?_; rintro e w0 ⟨rfl, rfl⟩)
      all_goals
        go_ret
        refine ⟨ret_bool ?_, Below.refl _ _⟩
        rw [← HP.out, decide_eq_decide]
        have k1 := HAB.out
        have k3 := H3.out
        have k4 := H4.out
        omega
    · have hd2 : decide (S ≤ (4611686018427387904 : Int)) = false := decide_eq_false h4
      have H4 := Lib.hid h4
      clear hab h3 h4
      go_enter Try.func106, Try.ntmps106
      go_wp2_with (go_at_call 107; refine (HBK.out _).mono ?_; rintro e w0 ⟨rfl, rfl⟩)
      all_goals
        go_ret
        refine ⟨ret_bool ?_, Below.refl _ _⟩
        rw [← HP.out]
        symm
        refine decide_eq_false (fun q => ?_)
        have k1 := HAB.out
        have k4 := H4.out
        omega
  · have hd1 : decide ((-4611686018427387904 : Int) ≤ S) = false := decide_eq_false h3
    have H3 := Lib.hid h3
    clear hab h3
    go_enter Try.func106, Try.ntmps106
    go_wp2_with (go_at_call 107; refine (HBK.out _).mono ?_; rintro e w0 ⟨rfl, rfl⟩)
    all_goals
      go_ret
      refine ⟨ret_bool ?_, Below.refl _ _⟩
      rw [← HP.out]
      symm
      refine decide_eq_false (fun q => ?_)
      have k1 := HAB.out
      have k3 := H3.out
      omega

set_option maxHeartbeats 4000000 in
theorem frawS_any (g y : Nat) (a : Option Addr) (n cap : Nat) (at_ : Nat) (bad most : Int) (c : List Int) (w : World) (hb : Fb w g a n cap at_ bad) (hy : w.heap[y]? = some (.cells #[.int .i64 most] 3 (0, 0))) (hs : Sl bcod w a n cap c) (hB : Byt c) (hn : n ≤ 1000000000) (hat : at_ ≤ n) :
    Calls Try.prog 104 #[.pointer (some ⟨g, 0, none⟩), .func (.func 106) #[] #[.pointer (some ⟨y, 0, none⟩)]] w fun e w' => e = .returned (.tuple #[.int .u64 ((rwS c most at_ bad).1 : Int), .bool (decide ((rwS c most at_ bad).2.2 = 0))]) ∧ Fb w' g a n cap (rwS c most at_ bad).2.1 (rwS c most at_ bad).2.2 ∧ w.grownBy w' (some g) := by
  have mixed : Try.prog.follows .mixedOrders = true := by kernel_rfl
  have HRB := Lib.hid hb
  have HY := Lib.hid hy
  have HS := Lib.hid hs
  have HBY := Lib.hid hB
  have hln : n = c.length := hs.hlen
  have hcl : ∀ k, (takeV (c.drop at_)).2.2 = 0 → (takeV (c.drop at_)).2.1 = k → k ≤ 1000000000 := fun k h1 h2 => by
    have := takeV_len (b := c.drop at_) (n := (takeV (c.drop at_)).1) (k := (takeV (c.drop at_)).2.1) (hB.drop _) (by rw [← h1])
    rw [h2, List.length_drop] at this
    omega
  have HCL := Lib.hid hcl
  clear hb hs hB hy hln hcl
  by_cases h0 : bad = 0
  case neg =>
    have HD : Hid (rwS c most at_ bad = (0, at_, bad)) := by show _ = _; unfold rwS; rw [if_pos h0]
    have HDB : Hid (decide (bad = 0) = false) := decide_eq_false h0
    clear h0
    go_enter Try.func104, Try.ntmps104
    go_wp2_with (go_at_call 108; go_loud (refine (fok_any g a n cap at_ bad w HRB.out).mono ?_); rintro e w1 ⟨rfl, hb1⟩; rw [HDB.out]; have HB1 := Lib.hid hb1; have HRB1 : Hid (Fb w1 g a n cap at_ bad) := (hb1.block g (box_lt HRB.out)).trans HRB.out; clear hb1)
    go_ret2
    exact ⟨by rw [HD.out]; simp only []; rw [HDB.out]; rfl, by rw [HD.out]; exact HRB1.out, grown_of_below HB1.out⟩
  case pos =>
    subst h0
    have HDB : Hid (decide ((0 : Int) = 0) = true) := decide_eq_true rfl
    have hsl : ∀ W : World, (Instr.slice 47 (.slice a n cap) (some (.int .i64 (at_ : Int))) none none).run Try.prog W = .ok (.slice (if cap = at_ then a else a.map (·.add (at_ * bcod.k))) (n - at_) (cap - at_)) W := fun W => brun_from HS.out hat W
    have HSF := Lib.hid (sl_from HS.out hat)
    obtain ⟨a', ha'⟩ : ∃ a', (if cap = at_ then a else a.map (·.add (at_ * bcod.k))) = a' := ⟨_, rfl⟩
    rw [ha'] at HSF
    simp only [ha'] at hsl
    clear ha'
    obtain ⟨m, hm⟩ : ∃ m, n - at_ = m := ⟨_, rfl⟩
    obtain ⟨cp, hcp⟩ : ∃ cp, cap - at_ = cp := ⟨_, rfl⟩
    have hm9 : m ≤ 1000000000 := by omega
    rw [hm, hcp] at HSF
    simp only [hm, hcp] at hsl
    clear hm hcp
    have HBD := Lib.hid (HBY.out.drop at_)
    obtain ⟨t, ht⟩ : ∃ t, takeV (c.drop at_) = t := ⟨_, rfl⟩
    obtain ⟨N, K, E⟩ := t
    have HT := Lib.hid ht
    have HN64 : Hid (N < 18446744073709551616) := by have := takeV_lt0 HBD.out; rw [ht] at this; exact this
    rw [ht] at HCL
    clear ht
    by_cases hE : E = 0
    case neg =>
      have HD : Hid (rwS c most at_ 0 = (0, at_, E)) := by show _ = _; unfold rwS; rw [if_neg (by simp), HT.out]; exact if_pos hE
      have hE' : (E != 0) = true := by simpa using hE
      have hE2 : (E == 0) = false := by simpa using hE
      have HDE : Hid (decide (E = 0) = false) := decide_eq_false hE
      clear hE
      go_enter Try.func104, Try.ntmps104
      go_upto_region 3 with (go_at_call 108; go_loud (refine (fok_any g a n cap at_ 0 w HRB.out).mono ?_); rintro e w1 ⟨rfl, hb1⟩; rw [HDB.out]; have HB1 := Lib.hid hb1; have HRB1 : Hid (Fb w1 g a n cap at_ 0) := (hb1.block g (box_lt HRB.out)).trans HRB.out; clear hb1)
      obtain ⟨d0, d1, d2, d3, -, -⟩ := box4_cells HRB1.out
      have K0 := cell_regrown d0
      have K1 := cell_regrown d1
      have HSF1 := Lib.hid (HSF.out.below HB1.out)
      have hrt : ∀ nd osq, Calls Try.prog 129 #[.slice a' m cp] (Go.Sort.grow (redrawn w1 nd) osq) fun e w' => e = .returned (.tuple #[.int .u64 (N : Int), .int .i64 (K : Int), .int .i64 E]) ∧ Below (Go.Sort.grow (redrawn w1 nd) osq).heap.size (Go.Sort.grow (redrawn w1 nd) osq) w' := fun nd osq => by
        have := vtake_any a' m cp (c.drop at_) (Go.Sort.grow (redrawn w1 nd) osq) (HSF1.out.below (below_regrown _ _ _)) HBD.out hm9
        rwa [HT.out] at this
      refine wp_region_quiet_below (by assumption) (by kernel_rfl) ?_
      repeat (go_big_quiet_step ((go_at_call 129; exact Calls.regrown_of (hrt _ _))))
      refine wpQuiet_nil ?_
      intro w2 hw2
      obtain ⟨⟨nd, osq⟩, rfl⟩ := hw2
      have hb2 := below_regrown w1 nd osq
      generalize Go.Sort.grow (redrawn w1 nd) osq = w2 at hb2 ⊢
      have HRB2 : Hid (Fb w2 g a n cap at_ 0) := (hb2.block g (box_lt HRB1.out)).trans HRB1.out
      have HY2 : Hid (w2.heap[y]? = some (.cells #[.int .i64 most] 3 (0, 0))) := (hb2.block y (Nat.lt_of_lt_of_le (box_lt HY.out) HB1.out.size)).trans ((HB1.out.block y (box_lt HY.out)).trans HY.out)
      have HB2 := Lib.hid (HB1.out.trans (hb2.mono HB1.out.size))
      clear hb2 d0 d1 d2 d3 K0 K1 hrt
      obtain ⟨d0, d1, d2, d3, z1, z2⟩ := box4_cells HRB2.out
      go_wp2_with fail
      go_ret2
      exact ⟨by rw [HD.out]; simp only []; rw [HDE.out]; rfl, by rw [HD.out]; exact heap_setCell_same w2 g 2 _ _ _ HRB2.out, grown_set (grown_of_below HB2.out)⟩
    case pos =>
      subst hE
      have hK : K ≤ 1000000000 := HCL.out K rfl rfl
      go_enter Try.func104, Try.ntmps104
      go_upto_region 3 with (go_at_call 108; go_loud (refine (fok_any g a n cap at_ 0 w HRB.out).mono ?_); rintro e w1 ⟨rfl, hb1⟩; rw [HDB.out]; have HB1 := Lib.hid hb1; have HRB1 : Hid (Fb w1 g a n cap at_ 0) := (hb1.block g (box_lt HRB.out)).trans HRB.out; clear hb1)
      obtain ⟨d0, d1, d2, d3, -, -⟩ := box4_cells HRB1.out
      have K0 := cell_regrown d0
      have K1 := cell_regrown d1
      have HSF1 := Lib.hid (HSF.out.below HB1.out)
      have hrt : ∀ nd osq, Calls Try.prog 129 #[.slice a' m cp] (Go.Sort.grow (redrawn w1 nd) osq) fun e w' => e = .returned (.tuple #[.int .u64 (N : Int), .int .i64 (K : Int), .int .i64 0]) ∧ Below (Go.Sort.grow (redrawn w1 nd) osq).heap.size (Go.Sort.grow (redrawn w1 nd) osq) w' := fun nd osq => by
        have := vtake_any a' m cp (c.drop at_) (Go.Sort.grow (redrawn w1 nd) osq) (HSF1.out.below (below_regrown _ _ _)) HBD.out hm9
        rwa [HT.out] at this
      refine wp_region_quiet_below (by assumption) (by kernel_rfl) ?_
      repeat (go_big_quiet_step ((go_at_call 129; exact Calls.regrown_of (hrt _ _))))
      refine wpQuiet_nil ?_
      intro w2 hw2
      obtain ⟨⟨nd, osq⟩, rfl⟩ := hw2
      have hb2 := below_regrown w1 nd osq
      generalize Go.Sort.grow (redrawn w1 nd) osq = w2 at hb2 ⊢
      have HRB2 : Hid (Fb w2 g a n cap at_ 0) := (hb2.block g (box_lt HRB1.out)).trans HRB1.out
      have HY2 : Hid (w2.heap[y]? = some (.cells #[.int .i64 most] 3 (0, 0))) := (hb2.block y (Nat.lt_of_lt_of_le (box_lt HY.out) HB1.out.size)).trans ((HB1.out.block y (box_lt HY.out)).trans HY.out)
      have HB2 := Lib.hid (HB1.out.trans (hb2.mono HB1.out.size))
      clear hb2 d0 d1 d2 d3 K0 K1 hrt
      obtain ⟨d0, d1, d2, d3, z1, z2⟩ := box4_cells HRB2.out
      by_cases hok : ((N / 2 + N % 2 : Nat) : Int) ≤ most ∧ N / 2 + N % 2 ≤ 4611686018427387904
      · have HD : Hid (rwS c most at_ 0 = (N, at_ + K, 0)) := by
          show _ = _; unfold rwS; rw [if_neg (by simp), HT.out]; simp only []; rw [if_neg (by simp), if_pos hok]
        have HOK : Hid (decide (((N / 2 + N % 2 : Nat) : Int) ≤ most ∧ N / 2 + N % 2 ≤ 4611686018427387904) = true) := decide_eq_true hok
        have HAK : Hid ((at_ : Int) + (K : Int) = ((at_ + K : Nat) : Int)) := by show _ = _; omega
        clear hok
        go_wp2_with (go_at_call 106; go_loud (refine (fmayS_any y N most w2 (box_cell HY2.out 0).1 HN64.out).mono ?_); rintro e w3 ⟨rfl, hb3⟩; rw [HOK.out]; have HB3 := Lib.hid (HB2.out.trans (hb3.mono HB2.out.size)); have HRB3 : Hid (Fb w3 g a n cap at_ 0) := (hb3.block g (box_lt HRB2.out)).trans HRB2.out; obtain ⟨e0, e1, e2, e3, y1, y2⟩ := box4_cells HRB3.out; clear hb3)
        go_ret2
        refine ⟨by rw [HD.out]; rfl, ?_, grown_set (grown_of_below HB3.out)⟩
        rw [HD.out]
        show (w3.setCell ⟨g, 1, none⟩ (.int .i64 ((at_ : Int) + (K : Int)))).heap[g]? = _
        rw [HAK.out]
        exact heap_setCell_same w3 g 1 _ _ _ HRB3.out
      · have HD : Hid (rwS c most at_ 0 = (0, at_, 3)) := by
          show _ = _; unfold rwS; rw [if_neg (by simp), HT.out]; simp only []; rw [if_neg (by simp), if_neg hok]
        have HOK : Hid (decide (((N / 2 + N % 2 : Nat) : Int) ≤ most ∧ N / 2 + N % 2 ≤ 4611686018427387904) = false) := decide_eq_false hok
        clear hok
        go_wp2_with (go_at_call 106; go_loud (refine (fmayS_any y N most w2 (box_cell HY2.out 0).1 HN64.out).mono ?_); rintro e w3 ⟨rfl, hb3⟩; rw [HOK.out]; have HB3 := Lib.hid (HB2.out.trans (hb3.mono HB2.out.size)); have HRB3 : Hid (Fb w3 g a n cap at_ 0) := (hb3.block g (box_lt HRB2.out)).trans HRB2.out; obtain ⟨e0, e1, e2, e3, y1, y2⟩ := box4_cells HRB3.out; clear hb3)
        go_ret2
        exact ⟨by rw [HD.out]; rfl, by rw [HD.out]; exact heap_setCell_same w3 g 2 _ _ _ HRB3.out, grown_set (grown_of_below HB3.out)⟩

set_option maxHeartbeats 1000000 in
theorem fsgn_any (g : Nat) (a : Option Addr) (n cap : Nat) (at_ : Nat) (bad most : Int) (c : List Int) (w : World) (hb : Fb w g a n cap at_ bad) (hs : Sl bcod w a n cap c) (hB : Byt c) (hn : n ≤ 1000000000) (hat : at_ ≤ n) :
    Calls Try.prog 63 #[.pointer (some ⟨g, 0, none⟩), .int .i64 most] w fun e w' => e = .returned (.int .i64 (rdS c most at_ bad).1) ∧ Fb w' g a n cap (rdS c most at_ bad).2.1 (rdS c most at_ bad).2.2 ∧ w.grownBy w' (some g) := by
  have HB0 : Hid (Below w.heap.size w (w.alloc (.cells #[.int .i64 most] 3))) := (Below.refl _ _).alloc (Nat.le_refl _) _
  have HRW := Lib.hid (frawS_any g w.heap.size a n cap at_ bad most c (w.alloc (.cells #[.int .i64 most] 3)) (box_alloc hb) (box_new w _) (hs.below HB0.out) hB hn hat)
  have r1 := rwS_lt hB most at_ bad
  rw [rdS_rw]
  obtain ⟨R, hR⟩ : ∃ R, rwS c most at_ bad = R := ⟨_, rfl⟩
  rw [hR] at HRW r1 ⊢
  obtain ⟨v, at2, bad2⟩ := R
  have r1 : v < 18446744073709551616 := r1
  have HBK := Lib.hid (fun W => vback_any v W r1)
  clear hb hs hB hR
  go_enter Try.func63, Try.ntmps63
  go_wp2_with (first
    | (go_at_call 104; go_loud (refine HRW.out.mono ?_); rintro e w1 ⟨rfl, hb1, hg1⟩; have HB1 := Lib.hid hb1; have HG1 := Lib.hid hg1; clear hb1 hg1)
    | (go_at_call 107; refine (HBK.out _).mono ?_; rintro e w0 ⟨rfl, rfl⟩))
  go_ret
  exact ⟨rfl, HB1.out, ⟨HG1.out.os, HG1.out.tape, HG1.out.output, by have := HG1.out.size; simp at this; omega, fun k hk hne => (HG1.out.block k (by simp; omega) hne).trans (HB0.out.block k hk)⟩⟩
theorem no_byte {x : Option Addr} {n cap : Nat} {i j r : Int} {k : Nat} {z : Bool} (h : some (Value.int .u8 r) = (#[Value.slice x n cap, .int .i64 i, .int .i64 j, .bool z] : Array Value)[k]?) : False := by
  match k, h with
  | 0, h => simp at h
  | 1, h => simp at h
  | 2, h => simp at h
  | 3, h => simp at h
  | k + 4, h => simp at h
theorem rdB_at {b : List Int} {at_ : Nat} {bad : Int} (h : at_ ≤ b.length) : (rdB b at_ bad).2.1 ≤ b.length := by
  unfold rdB
  split
  · exact h
  split
  · exact h
  · show at_ + 1 ≤ _; omega
theorem rdS_at {b : List Int} {most : Int} {at_ : Nat} {bad : Int} (hb : Byt b) (h : at_ ≤ b.length) : (rdS b most at_ bad).2.1 ≤ b.length := by
  rw [rdS_rw]; exact rwS_at hb h

set_option maxHeartbeats 2000000 in
theorem fbyte_any (g : Nat) (a : Option Addr) (n cap : Nat) (at_ : Nat) (bad : Int) (c : List Int) (w : World) (hb : Fb w g a n cap at_ bad) (hs : Sl bcod w a n cap c) (hn : n ≤ 1000000000) (hat : at_ ≤ n) :
    Calls Try.prog 64 #[.pointer (some ⟨g, 0, none⟩)] w fun e w' => e = .returned (.int .u8 (rdB c at_ bad).1) ∧ Fb w' g a n cap (rdB c at_ bad).2.1 (rdB c at_ bad).2.2 ∧ w.grownBy w' (some g) := by
  have mixed : Try.prog.follows .mixedOrders = true := by kernel_rfl
  have HRB := Lib.hid hb
  have HS := Lib.hid hs
  have HLN := Lib.hid hs.hlen
  obtain ⟨E, hE⟩ : ∃ E, fok_any g a n cap at_ bad w hb = E := ⟨_, rfl⟩
  have HOK := Lib.hid E
  clear hb hs hE E
  by_cases h0 : bad = 0
  case neg =>
    have HD : Hid (rdB c at_ bad = (0, at_, bad)) := by show _ = _; unfold rdB; rw [if_pos h0]
    have HDB : Hid (decide (bad = 0) = false) := decide_eq_false h0
    clear h0
    go_enter Try.func64, Try.ntmps64
    go_wp2_with (go_at_call 108; go_loud (refine HOK.out.mono ?_); rintro e w1 ⟨rfl, hb1⟩; rw [HDB.out]; have HB1 := Lib.hid hb1; have HRB1 : Hid (Fb w1 g a n cap at_ bad) := (hb1.block g (box_lt HRB.out)).trans HRB.out; clear hb1)
    go_ret
    exact ⟨by rw [HD.out]; rfl, by rw [HD.out]; exact HRB1.out, grown_of_below HB1.out⟩
  case pos =>
    subst h0
    have HDB : Hid (decide ((0 : Int) = 0) = true) := decide_eq_true rfl
    by_cases hl : at_ = n
    · subst hl
      have HD : Hid (rdB c at_ 0 = (0, at_, 10)) := by show _ = _; unfold rdB; rw [if_neg (by simp), if_pos (by rw [← HLN.out]; exact Nat.le_refl _)]
      go_enter Try.func64, Try.ntmps64
      go_upto_region 3 with (go_at_call 108; go_loud (refine HOK.out.mono ?_); rintro e w1 ⟨rfl, hb1⟩; rw [HDB.out]; have HB1 := Lib.hid hb1; have HRB1 : Hid (Fb w1 g a at_ cap at_ 0) := (hb1.block g (box_lt HRB.out)).trans HRB.out; clear hb1)
      obtain ⟨d0, d1, d2, d3, -, -⟩ := box4_cells HRB1.out
      have hg1 := box_lt HRB1.out
      go_quiet (fail)
      obtain ⟨z0, z1⟩ : (w1.frozen? ⟨g, 1, none⟩ = false) ∧ (w1.frozen? ⟨g, 2, none⟩ = false) := ⟨(box_cell HRB1.out 1).2, (box_cell HRB1.out 2).2⟩
      go_wp2_with fail
      go_ret
      refine ⟨by rw [HD.out]; rfl, ?_, grown_set (grown_of_below (below_drewN HB1.out _))⟩
      rw [HD.out]
      exact heap_setCell_same (w1.drewN _) g 2 _ _ _ HRB1.out
    · have hlt : at_ < n := by omega
      have b1 : ((at_ : Int) == (n : Int)) = false := by simp; omega
      have b2 : IntKind.i64.wrap ((at_ : Int) + 1) = (at_ : Int) + 1 := by simp only [IntKind.wrap_i64]; omega
      have b3 : IntKind.i64.wrap ((at_ : Int) + 1 - 1) = (at_ : Int) := by simp only [IntKind.wrap_i64]; omega
      have b4 : (at_ : Int) < (n : Int) := by omega
      obtain ⟨b, off, r, rfl, hbl, hr, hcell⟩ := byte_at HS.out hlt
      have HD : Hid (rdB c at_ 0 = (r, at_ + 1, 0)) := by
        show _ = _; unfold rdB; rw [if_neg (by simp), if_neg (by rw [← HLN.out]; omega), List.getD_eq_getElem?_getD, hr]; rfl
      have HC := Lib.hid hcell
      have HBL := Lib.hid hbl
      have hgb : g ≠ b := by
        intro q
        subst q
        have h1 := (box_cell HRB.out (off + at_)).1
        rw [hcell] at h1
        exact no_byte h1
      clear hr hcell hl hbl
      go_enter Try.func64, Try.ntmps64
      go_upto_region 3 with (go_at_call 108; go_loud (refine HOK.out.mono ?_); rintro e w1 ⟨rfl, hb1⟩; rw [HDB.out]; have HB1 := Lib.hid hb1; have HRB1 : Hid (Fb w1 g (some ⟨b, off, none⟩) n cap at_ 0) := (hb1.block g (box_lt HRB.out)).trans HRB.out; clear hb1)
      obtain ⟨d0, d1, d2, d3, -, -⟩ := box4_cells HRB1.out
      have hg1 := box_lt HRB1.out
      go_quiet (fail)
      obtain ⟨z0, z1⟩ : (w1.frozen? ⟨g, 1, none⟩ = false) ∧ (w1.frozen? ⟨g, 2, none⟩ = false) := ⟨(box_cell HRB1.out 1).2, (box_cell HRB1.out 2).2⟩
      go_upto_region 7 with fail
      have HR7 : Hid (((w1.drewN nq).setCell ⟨g, 1, none⟩ (.int .i64 ((at_ : Int) + 1))).heap[g]? = some (.cells #[.slice (some ⟨b, off, none⟩) n cap, .int .i64 ((at_ : Int) + 1), .int .i64 0, .bool true] 142 (0, 0))) := heap_setCell_same (w1.drewN nq) g 1 _ _ _ HRB1.out
      have HG7 : Hid (w.grownBy ((w1.drewN nq).setCell ⟨g, 1, none⟩ (.int .i64 ((at_ : Int) + 1))) (some g)) := grown_set (grown_of_below (below_drewN HB1.out _))
      have HC7 : Hid (((w1.drewN nq).setCell ⟨g, 1, none⟩ (.int .i64 ((at_ : Int) + 1))).cell? ⟨b, off + at_, none⟩ = some (.int .u8 r)) := by
        show _ = _
        rw [World.cell?_setCell_far _ _ _ _ hgb]
        exact (HB1.out.cell (p := ⟨b, off + at_, none⟩) HBL.out).trans HC.out
      obtain ⟨W7, hW7⟩ : ∃ W, (w1.drewN nq).setCell ⟨g, 1, none⟩ (.int .i64 ((at_ : Int) + 1)) = W := ⟨_, rfl⟩
      rw [hW7] at HR7 HG7 HC7 ⊢
      clear hW7 d0 d1 d2 d3 z0 z1 hg1
      obtain ⟨d0, d1, d2, d3, -, -⟩ := box4_cells HR7.out
      have c7 := HC7.out
      replace c7 : W7.cell? ⟨b, off + at_, none⟩ = some (.int .u8 r) := c7
      have hg7 := box_lt HR7.out
      have b0 : (0 : Int) ≤ (at_ : Int) := by omega
      go_quiet (fail)
      go_wp2_with fail
      go_ret
      refine ⟨by rw [HD.out]; rfl, ?_, ?_⟩
      · rw [HD.out]
        exact HR7.out
      · exact HG7.out.trans (grown_of_below (below_drewN (Below.refl _ _) _))
end Go.Proofs.Ytbdkhgenkekioaa.Wi
