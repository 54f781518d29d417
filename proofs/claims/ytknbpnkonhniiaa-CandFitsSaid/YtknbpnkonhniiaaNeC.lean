/- Networks: which are right. -/
import Derived.Test.YtknbpnkonhniiaaNeA
import Derived.Test.YtknbpnkonhniiaaCmp
namespace Go.Proofs.Ytknbpnkonhniiaa.Ne
open Go.RowKit Go.V Go.Proofs

set_option maxHeartbeats 400000 in
theorem within_any (n lo hi : Int) (w : World) :
    Calls Try.prog 32 #[.int .i64 n, .int .i64 lo, .int .i64 hi] w fun e w' => e = .returned (.bool (wB n lo hi)) ∧ w = w' := by
  by_cases h1 : lo ≤ n
  all_goals
    go_enter Try.func32, Try.ntmps32
    go_wp2
    go_ret
    exact ⟨ret_bool (by unfold wB; rw [Bool.eq_iff_iff]; simp [*] <;> omega), rfl⟩
set_option maxHeartbeats 1000000 in
theorem check1_any (s : Stp) (w : World) :
    Calls Try.prog 34 #[s.val] w fun e w' => e = .returned (.bool (!stpB s)) ∧ Below w.heap.size w w' := by
  obtain ⟨bb, hbb⟩ : ∃ bb, mayB s.x s.y = bb := ⟨_, rfl⟩
  have HBB := Lib.hid hbb
  clear hbb
  unfold Stp.val
  go_enter Try.func34, Try.ntmps34
  go_wp2_with (go_at_call 25; refine (may_any _ _ _).mono ?_; rintro e w' ⟨rfl, rfl⟩; rw [HBB.out])
  go_ret
  exact ⟨ret_bool (by rw [← HBB.out]; rfl), (Below.refl _ _).alloc (Nat.le_refl _) _⟩

set_option maxHeartbeats 1000000 in
theorem sindex_any (a : Option Addr) (n cap : Nat) (xs : List Stp) (w : World) (hn : n ≤ 1000000) (h : Sl Stp.cod w a n cap xs) :
    Calls Try.prog 43 #[.slice a n cap, .func (.func 34) #[] #[]] w fun e w' => ∃ i : Int, e = .returned (.int .i64 i) ∧ (xs.all stpB = true → i = -1) ∧ (xs.all stpB = false → 0 ≤ i ∧ i ≤ 1000000) ∧ Below w.heap.size w w' := by
  have hN := Lib.hid h.hlen
  go_enter Try.func43, Try.ntmps43
  go_wp2_with fail
  go_loopw [8] (fun i wr => ∃ k : Nat, i = .int .i64 k ∧ k ≤ n ∧ Hid ((xs.take k).all stpB = true) ∧ Hid (Below w.heap.size w wr)) (fun i _ => n - (intOf i).toNat)
  case atStart => exact ⟨0, rfl, by omega, rfl, Below.refl _ _⟩
  case round =>
    obtain ⟨k, rfl, hk, hall, hB⟩ := hrel
    by_cases hlt : k < n
    · obtain ⟨b, off, r, rfl, hbl, hr, c0, c1⟩ := stp_at (h.below hB.out) hlt
      have HR := Lib.hid hr
      obtain ⟨bb, hbb⟩ : ∃ bb, stpB r = bb := ⟨_, rfl⟩
      have HBB := Lib.hid hbb
      clear hr hbb
      have e0 : (Value.agg #[.int .i64 r.x, .int .i64 r.y]) = r.val := rfl
      cases bb with
      | true =>
        go_wp2_with (go_at_call 34; refine (check1_any r _).mono ?_; rintro e w1 ⟨rfl, hb1⟩; rw [HBB.out]; have HB1 := Lib.hid (hB.out.trans (hb1.mono hB.out.size)); clear hb1)
        go_roundw
        case rel => exact ⟨k + 1, by go_num, by omega, by show _ = _; rw [take_at HR.out, List.all_append, hall.out]; simp [HBB.out], HB1.out⟩
        case measure => simp [intOf]; omega
      | false =>
        go_wp2_with (go_at_call 34; refine (check1_any r _).mono ?_; rintro e w1 ⟨rfl, hb1⟩; rw [HBB.out]; have HB1 := Lib.hid (hB.out.trans (hb1.mono hB.out.size)); clear hb1)
        go_ret
        refine ⟨_, rfl, fun hh => ?_, fun _ => by omega, HB1.out⟩
        have := List.all_eq_true.1 hh r (List.mem_of_getElem? HR.out)
        rw [HBB.out] at this; cases this
    · have hk' : k = n := by omega
      subst hk'
      go_wp2_with fail
      go_ret
      refine ⟨-1, rfl, fun _ => rfl, fun hh => ?_, hB.out⟩
      have := hall.out
      rw [List.take_of_length_le (by have := hN.out; omega), hh] at this; cases this

set_option maxHeartbeats 1000000 in
theorem scontains_any (a : Option Addr) (n cap : Nat) (xs : List Stp) (w : World) (hn : n ≤ 1000000) (h : Sl Stp.cod w a n cap xs) :
    Calls Try.prog 33 #[.slice a n cap, .func (.func 34) #[] #[]] w fun e w' => e = .returned (.bool (!xs.all stpB)) ∧ Below w.heap.size w w' := by
  go_enter Try.func33, Try.ntmps33
  obtain ⟨bb, hbb⟩ : ∃ bb, xs.all stpB = bb := ⟨_, rfl⟩
  rw [hbb]
  have HBB := Lib.hid hbb
  clear hbb
  cases bb with
  | true =>
    go_wp2_with (go_at_call 43; refine (sindex_any a n cap xs w hn h).mono ?_; rintro e w1 ⟨i, rfl, h1, -, hb1⟩; rw [h1 HBB.out]; have HB1 := Lib.hid hb1; clear hb1 h1)
    go_ret
    exact ⟨rfl, HB1.out⟩
  | false =>
    go_wp2_with (go_at_call 43; refine (sindex_any a n cap xs w hn h).mono ?_; rintro e w1 ⟨i, rfl, -, h1, hb1⟩; obtain ⟨h2, h3⟩ := h1 HBB.out; have HB1 := Lib.hid hb1; clear hb1)
    go_ret
    exact ⟨ret_bool (by simp), HB1.out⟩

/-! ### The order of links -/
theorem aft_cmp (x y : Lnk) : decide ((if cmpI x.a y.a = 0 then cmpI x.b y.b else cmpI x.a y.a) < 0) = aftB x y := by
  unfold aftB cmpI
  rw [Bool.eq_iff_iff]
  simp only [decide_eq_true_eq]
  (repeat' split) <;> omega

set_option maxHeartbeats 1000000 in
set_option maxRecDepth 100000 in
theorem after_any (x y : Lnk) (w : World) :
    Calls Try.prog 35 #[lval x, lval y] w fun e w' => e = .returned (.bool (aftB x y)) ∧ Below w.heap.size w w' := by
  obtain ⟨c1, hc1⟩ : ∃ c, cmpI x.a y.a = c := ⟨_, rfl⟩
  obtain ⟨c2, hc2⟩ : ∃ c, cmpI x.b y.b = c := ⟨_, rfl⟩
  obtain ⟨r, hr⟩ : ∃ r, (if c1 = 0 then c2 else c1) = r := ⟨_, rfl⟩
  have HA : Hid (decide (r < 0) = aftB x y) := by
    show _ = _
    rw [← hr, ← hc1, ← hc2]; exact aft_cmp x y
  have HC : Hid (cmpI x.a y.a = c1 ∧ cmpI x.b y.b = c2 ∧ (if c1 = 0 then c2 else c1) = r) := ⟨hc1, hc2, hr⟩
  clear hc1 hc2 hr
  have mixed : Try.prog.follows .mixedOrders = true := by kernel_rfl
  unfold lval
  go_enter Try.func35, Try.ntmps35
  go_wp2_with fail
  have HB0 : Hid (Below w.heap.size w ((w.alloc (.cells #[.int .i64 x.a, .int .i64 x.b, .int .i64 x.w] 62)).alloc (.cells #[.int .i64 y.a, .int .i64 y.b, .int .i64 y.w] 62))) := ((Below.refl _ _).alloc (Nat.le_refl _) _).alloc (by simp) _
  have HX0 := Lib.hid (box_alloc (o := .cells #[.int .i64 y.a, .int .i64 y.b, .int .i64 y.w] 62) (box_new w (.cells #[.int .i64 x.a, .int .i64 x.b, .int .i64 x.w] 62)))
  have HY0 := Lib.hid (box_new (w.alloc (.cells #[.int .i64 x.a, .int .i64 x.b, .int .i64 x.w] 62)) (.cells #[.int .i64 y.a, .int .i64 y.b, .int .i64 y.w] 62))
  have hz : w.heap.size + 1 < ((w.alloc (.cells #[.int .i64 x.a, .int .i64 x.b, .int .i64 x.w] 62)).alloc (.cells #[.int .i64 y.a, .int .i64 y.b, .int .i64 y.w] 62)).heap.size := by simp
  obtain ⟨W, hW⟩ : ∃ W, (w.alloc (.cells #[.int .i64 x.a, .int .i64 x.b, .int .i64 x.w] 62)).alloc (.cells #[.int .i64 y.a, .int .i64 y.b, .int .i64 y.w] 62) = W := ⟨_, rfl⟩
  rw [World.size_alloc] at HY0
  rw [hW] at HB0 HX0 HY0 hz ⊢
  clear hW
  obtain ⟨u0, u1, u2, -, -, -⟩ := box3_cells HX0.out
  obtain ⟨v0, v1, v2, -, -, -⟩ := box3_cells HY0.out
  have hb := HB0.out.size
  have hd : ∀ a, W.drew.cell? a = W.cell? a := fun a => rfl
  go_still_tail 10, (by kernel_rfl)
  still_call ((cmpI_any _ _ _).mono fun _ _ hh => ⟨hh.1, hh.2.symm⟩)
  repeat still_step
  still_call ((cmpI_any _ _ _).mono fun _ _ hh => ⟨hh.1, hh.2.symm⟩)
  repeat still_step
  refine wpStill_nil ?_
  change wpList _ _ _ _ _ W.drew
  rw [HC.out.1, HC.out.2.1]
  have HB1 : Hid (Below w.heap.size w W.drew) := Below.drew HB0.out
  have hb1 := HB1.out.size
  clear hd u0 u1 u2 v0 v1 v2
  generalize W.drew = w2 at HB1 hb1 ⊢
  go_wp2_with (go_at_call 44; refine (or_any c1 c2 _ _ (by simp [go_sem]) (by simp [go_sem])).mono ?_; rintro e w1 ⟨rfl, rfl⟩; rw [HC.out.2.2])
  go_ret
  exact ⟨ret_bool HA.out, HB1.out.alloc hb1 _⟩
end Go.Proofs.Ytknbpnkonhniiaa.Ne
