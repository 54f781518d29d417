/- Months: keys, held against one another. -/
import Derived.Test.YtbdkhgenkekioaaMoA
import Derived.Test.YtbdkhgenkekioaaBx
import Derived.StillTailTactics
namespace Go.Proofs.Ytbdkhgenkekioaa
open Go.RowKit Go.V Go.Sort Go.Shelf Go.Proofs Go.Maps
open Go.Proofs.Ytbdkhgenkekioaa.Ne (box_alloc box_new box_cell box_below box_lt box2_cells)

def inB (n lo hi : Int) : Bool := decide (lo ≤ n ∧ n ≤ hi)
set_option maxHeartbeats 1000000 in
theorem mwithin_any (n lo hi : Int) (w : World) : Calls Try.prog 54 #[.int .i64 n, .int .i64 lo, .int .i64 hi] w fun e w' => e = .returned (.bool (inB n lo hi)) ∧ w' = w := by
  by_cases h1 : lo ≤ n
  · go_enter Try.func54, Try.ntmps54
    go_wp2_with fail
    go_ret
    exact ⟨ret_bool (by unfold inB; rw [Bool.eq_iff_iff]; simp; omega), rfl⟩
  · go_enter Try.func54, Try.ntmps54
    go_wp2_with fail
    go_ret
    exact ⟨ret_bool (by unfold inB; rw [Bool.eq_iff_iff]; simp; omega), rfl⟩

set_option maxHeartbeats 1000000 in
theorem or_any (x y : Int) (g : Nat) (w : World) (h0 : w.cell? ⟨g, 0, none⟩ = some (.int .i64 x)) (h1 : w.cell? ⟨g, 1, none⟩ = some (.int .i64 y)) :
    Calls Try.prog 84 #[.slice (some ⟨g, 0, none⟩) 2 2] w fun e w' => e = .returned (.int .i64 (if x = 0 then y else x)) ∧ w = w' := by
  obtain ⟨q, hq⟩ : ∃ q, (if x = 0 then y else x) = q := ⟨_, rfl⟩
  rw [hq]
  have HQ := Lib.hid hq
  clear hq
  go_enter Try.func84, Try.ntmps84
  go_wp2_with fail
  go_loop [8] (fun i => ∃ k : Nat, i = .int .i64 k ∧ k ≤ 2 ∧ Hid (1 ≤ k → x = 0) ∧ Hid (2 ≤ k → y = 0)) (fun i => 2 - (intOf i).toNat)
  case atStart => exact ⟨0, rfl, by omega, fun h => by omega, fun h => by omega⟩
  case round =>
    obtain ⟨k, rfl, hk, z1, z2⟩ := hrel
    have hcase : k = 0 ∨ k = 1 ∨ k = 2 := by omega
    clear hk
    rcases hcase with rfl | rfl | rfl
    · by_cases hz : x = 0
      · have hzb : (x != 0) = false := by simp [hz]
        have HZ := Lib.hid hz
        clear hz
        go_wp2_with fail
        go_round
        case rel => exact ⟨1, rfl, by omega, fun _ => HZ.out, fun h => by omega⟩
        case measure => simp [intOf]
      · have hzb : (x != 0) = true := by simpa using hz
        have HZ := Lib.hid hz
        clear hz
        go_wp2_with fail
        go_ret
        exact ⟨ret_int (by rw [← HQ.out, if_neg HZ.out]), rfl⟩
    · by_cases hz : y = 0
      · have hzb : (y != 0) = false := by simp [hz]
        have HZ := Lib.hid hz
        clear hz
        go_wp2_with fail
        go_round
        case rel => exact ⟨2, rfl, by omega, fun _ => z1.out (by omega), fun _ => HZ.out⟩
        case measure => simp [intOf]
      · have hzb : (y != 0) = true := by simpa using hz
        have HZ := Lib.hid hz
        clear hz
        go_wp2_with fail
        go_ret
        exact ⟨ret_int (by rw [← HQ.out, if_pos (z1.out (by omega))]), rfl⟩
    · go_wp2_with fail
      go_ret
      exact ⟨ret_int (by rw [← HQ.out, if_pos (z1.out (by omega)), z2.out (by omega)]), rfl⟩

theorem box6_cells {w : World} {g : Nat} {e : TypeId} {u0 u1 u2 u3 u4 u5 : Value} (h : w.heap[g]? = some (.cells #[u0, u1, u2, u3, u4, u5] e (0, 0))) : w.cell? ⟨g, 0, none⟩ = some u0 ∧ w.cell? ⟨g, 1, none⟩ = some u1 ∧ w.cell? ⟨g, 2, none⟩ = some u2 ∧ w.cell? ⟨g, 3, none⟩ = some u3 ∧ w.cell? ⟨g, 4, none⟩ = some u4 ∧ w.cell? ⟨g, 5, none⟩ = some u5 :=
  ⟨(box_cell h 0).1, (box_cell h 1).1, (box_cell h 2).1, (box_cell h 3).1, (box_cell h 4).1, (box_cell h 5).1⟩

def kval (a m : Int) : Value := .agg #[.int .i64 a, .int .i64 m]
set_option maxHeartbeats 1000000 in
theorem of_any (a m t c : Int) (h : Value) (z : Value) (w : World) : Calls Try.prog 36 #[.agg #[.int .i64 a, .int .i64 m, .int .i64 t, .int .i64 c, h, z]] w fun e w' => e = .returned (kval a m) ∧ Below w.heap.size w w' := by
  go_enter Try.func36, Try.ntmps36
  go_wp2_with fail
  exact bodyPost_ret (results_cell_row rfl _ _ (w.heap.size + 1) _ _ _ _ rfl (by have := box_new (w.alloc (.cells #[.int .i64 a, .int .i64 m, .int .i64 t, .int .i64 c, h, z] 27)) (.cells #[.int .i64 a, .int .i64 m] 73); rwa [World.size_alloc] at this) Try.underlying73 rfl (by kernel_rfl)) rfl ⟨rfl, ((Below.refl _ _).alloc (Nat.le_refl _) _).alloc (by simp) _⟩

theorem kcmp_lt (a m a' m' : Int) : decide (0 ≤ (if cmpI a a' = 0 then cmpI m m' else cmpI a a')) = !(decide (a < a' ∨ a = a' ∧ m < m')) := by
  unfold cmpI
  rw [Bool.eq_iff_iff]
  simp only [decide_eq_true_eq, Bool.not_eq_true', decide_eq_false_iff_not]
  (repeat' split) <;> omega
def kcmp (a m a' m' : Int) : Int := if cmpI a a' = 0 then cmpI m m' else cmpI a a'
set_option maxHeartbeats 1000000 in
set_option maxRecDepth 100000 in
theorem kcmp_any (a m a' m' : Int) (w : World) :
    Calls Try.prog 37 #[kval a m, kval a' m'] w fun e w' => e = .returned (.int .i64 (kcmp a m a' m')) ∧ Below w.heap.size w w' := by
  obtain ⟨c1, hc1⟩ : ∃ c, cmpI a a' = c := ⟨_, rfl⟩
  obtain ⟨c2, hc2⟩ : ∃ c, cmpI m m' = c := ⟨_, rfl⟩
  have hk : kcmp a m a' m' = (if c1 = 0 then c2 else c1) := by unfold kcmp; rw [hc1, hc2]
  obtain ⟨r, hr⟩ : ∃ r, (if c1 = 0 then c2 else c1) = r := ⟨_, rfl⟩
  rw [hk, hr]
  have HC : Hid (cmpI a a' = c1 ∧ cmpI m m' = c2 ∧ (if c1 = 0 then c2 else c1) = r) := ⟨hc1, hc2, hr⟩
  clear hc1 hc2 hr hk
  have mixed : Try.prog.follows .mixedOrders = true := by kernel_rfl
  unfold kval
  go_enter Try.func37, Try.ntmps37
  go_wp2_with fail
  have HB0 : Hid (Below w.heap.size w ((w.alloc (.cells #[.int .i64 a, .int .i64 m] 73)).alloc (.cells #[.int .i64 a', .int .i64 m'] 73))) := ((Below.refl _ _).alloc (Nat.le_refl _) _).alloc (by simp) _
  have HX0 := Lib.hid (box_alloc (o := .cells #[.int .i64 a', .int .i64 m'] 73) (box_new w (.cells #[.int .i64 a, .int .i64 m] 73)))
  have HY0 := Lib.hid (box_new (w.alloc (.cells #[.int .i64 a, .int .i64 m] 73)) (.cells #[.int .i64 a', .int .i64 m'] 73))
  have hz : w.heap.size + 1 < ((w.alloc (.cells #[.int .i64 a, .int .i64 m] 73)).alloc (.cells #[.int .i64 a', .int .i64 m'] 73)).heap.size := by simp
  obtain ⟨W, hW⟩ : ∃ W, (w.alloc (.cells #[.int .i64 a, .int .i64 m] 73)).alloc (.cells #[.int .i64 a', .int .i64 m'] 73) = W := ⟨_, rfl⟩
  rw [World.size_alloc] at HY0
  rw [hW] at HB0 HX0 HY0 hz ⊢
  clear hW
  obtain ⟨u0, u1, -, -⟩ := box2_cells HX0.out
  obtain ⟨v0, v1, -, -⟩ := box2_cells HY0.out
  have hb := HB0.out.size
  have hd : ∀ a, W.drew.cell? a = W.cell? a := fun a => rfl
  go_still_tail 10, (by kernel_rfl)
  still_call ((cmpI_any _ _ _).mono fun _ _ hh => ⟨hh.1, hh.2.symm⟩)
  repeat still_step
  still_call ((cmpI_any _ _ _).mono fun _ _ hh => ⟨hh.1, hh.2.symm⟩)
  repeat still_step
  refine wpStill_nil ?_
  change wpList _ _ _ _ _ W.drew
  rw [HC.out.1, HC.out.2.1]
  have HB1 : Hid (Below w.heap.size w W.drew) := Below.drew HB0.out
  have hb1 := HB1.out.size
  clear hd u0 u1 v0 v1
  generalize W.drew = w2 at HB1 hb1 ⊢
  go_wp2_with (go_at_call 84; refine (or_any c1 c2 _ _ (by simp [go_sem]) (by simp [go_sem])).mono ?_; rintro e w1 ⟨rfl, rfl⟩; rw [HC.out.2.2])
  go_ret
  exact ⟨rfl, HB1.out.alloc hb1 _⟩

/-! ### Are rides one -/
set_option maxHeartbeats 400000 in
theorem equal_any (a1 : Option Addr) (n1 cap1 : Nat) (xs : List Ride) (a2 : Option Addr) (n2 cap2 : Nat) (ys : List Ride) (w : World) (hm : n1 ≤ 1000000)
    (h1 : Sl Ride.cod w a1 n1 cap1 xs) (h2 : Sl Ride.cod w a2 n2 cap2 ys) :
    Calls Try.prog 83 #[.slice a1 n1 cap1, .slice a2 n2 cap2] w fun e w' => e = .returned (.bool (decide (xs = ys))) ∧ Below w.heap.size w w' := by
  have hN := Lib.hid h1.hlen
  have hM := Lib.hid h2.hlen
  by_cases hlen : n1 = n2
  · subst hlen
    go_enter Try.func83, Try.ntmps83
    go_wp2
    go_loopw [13] (fun i wr => ∃ (k : Nat), k ≤ n1 ∧ i = .int .i64 k ∧ Hid (xs.take k = ys.take k) ∧ Below w.heap.size w wr) (fun i _ => n1 - (intOf i).toNat)
    case atStart => exact ⟨0, by omega, rfl, by show _ = _; rw [List.take_zero, List.take_zero], Below.refl _ _⟩
    case round =>
      obtain ⟨k, hk, rfl, he, hb⟩ := hrel
      by_cases hlt : k < n1
      · obtain ⟨b, off, r, rfl, -, hr, c0, c1, c2, c3⟩ := ride_at (h1.below hb) hlt
        obtain ⟨b', off', r', rfl, -, hr', c0', c1', c2', c3'⟩ := ride_at (h2.below hb) hlt
        have HR := Lib.hid hr
        have HR' := Lib.hid hr'
        have HB := Lib.hid hb
        have hltz : (k : Int) < n1 := by omega
        clear hr hr' hb
        by_cases heq : r = r'
        · subst heq
          go_wp2_with fail
          go_quiet (fail)
          go_wp2_with fail
          go_roundw
          case rel => exact ⟨k + 1, by omega, by go_num, by show _ = _; rw [take_at HR.out, take_at HR'.out, he.out], below_drewN HB.out _⟩
          case measure => simp [intOf]; omega
        · have hq1 := fun w => eqIn_ride r r' w
          have hq2 := fun w => neq_ride r r' w
          rw [decide_eq_false heq] at hq1 hq2
          have HE := Lib.hid heq
          clear heq
          go_wp2_with fail
          go_quiet (fail)
          go_wp2_with fail
          go_ret
          exact ⟨ret_bool (by
            symm; rw [decide_eq_false_iff_not]
            intro h; apply HE.out
            have a1 := HR.out; have a2 := HR'.out
            rw [h, a2] at a1; exact (Option.some.inj a1).symm), below_drewN HB.out _⟩
      · have hk' : k = n1 := by omega
        have HK := Lib.hid hk'; clear hk'
        go_wp2
        go_ret
        exact ⟨ret_bool (by
          have e := he.out
          rw [HK.out, List.take_of_length_le (by rw [← hN.out]; omega), List.take_of_length_le (by rw [← hM.out]; omega)] at e
          simp [e]), hb⟩
  · have hl : (((n1 : Int)) != (n2 : Int)) = true := by simp; omega
    have HL := Lib.hid hlen
    clear hlen
    go_enter Try.func83, Try.ntmps83
    go_wp2
    go_ret
    exact ⟨ret_bool (by
      have := HL.out
      symm; rw [decide_eq_false_iff_not]
      intro h; apply this; rw [hN.out, hM.out, h]), Below.refl _ _⟩

/-! ### May a month be -/
set_option maxHeartbeats 4000000 in
set_option maxRecDepth 100000 in
theorem mone_any (m : Mon) (h : Hdr) (w : World) (hn : h.n ≤ 1000000) (hok : ∀ r ∈ m.rides, Ride.ok r) (hs : Sl Ride.cod w h.a h.n h.cap m.rides) :
    Calls Try.prog 35 #[.agg (m.box h)] w fun e w' => e = .returned (.bool (decide (OneM m))) ∧ Below w.heap.size w w' := by
  have mixed : Try.prog.follows .mixedOrders = true := by kernel_rfl
  obtain ⟨ha, hnn, hc⟩ := h
  have HL := Lib.hid hs.hlen
  simp only at hn
  have B0 : Hid (Below w.heap.size w (w.alloc (.cells (m.box ⟨ha, hnn, hc⟩) 27))) := (Below.refl _ _).alloc (Nat.le_refl _) _
  have X0 : Hid ((w.alloc (.cells (m.box ⟨ha, hnn, hc⟩) 27)).heap[w.heap.size]? = some (.cells (m.box ⟨ha, hnn, hc⟩) 27 (0, 0))) := box_new w _
  have hz : w.heap.size < (w.alloc (.cells (m.box ⟨ha, hnn, hc⟩) 27)).heap.size := by simp
  unfold Mon.box at X0 B0 hz
  obtain ⟨p1, hp1⟩ : ∃ p, inB m.a 1 2147483648 = p := ⟨_, rfl⟩
  obtain ⟨p2, hp2⟩ : ∃ p, inB m.m 0 1048576 = p := ⟨_, rfl⟩
  obtain ⟨p3, hp3⟩ : ∃ p, inB m.t 1 1048576 = p := ⟨_, rfl⟩
  obtain ⟨p4, hp4⟩ : ∃ p, inB m.c 0 15 = p := ⟨_, rfl⟩
  obtain ⟨p5, hp5⟩ : ∃ p, decide (isort ltR m.rides = m.rides) = p := ⟨_, rfl⟩
  obtain ⟨p6, hp6⟩ : ∃ p, decide (RightP m.rides) = p := ⟨_, rfl⟩
  have hA : decide (OneM m) = (p1 && (p2 && (p3 && (p4 && (p5 && p6))))) := by
    rw [← hp1, ← hp2, ← hp3, ← hp4, ← hp5, ← hp6]
    unfold inB
    rw [Bool.eq_iff_iff]
    simp only [Bool.and_eq_true, decide_eq_true_eq]
    unfold OneM numsM
    simp only [and_assoc]
  rw [hA]
  have HP : Hid (inB m.a 1 2147483648 = p1 ∧ inB m.m 0 1048576 = p2 ∧ inB m.t 1 1048576 = p3 ∧ inB m.c 0 15 = p4 ∧ decide (isort ltR m.rides = m.rides) = p5 ∧ decide (RightP m.rides) = p6) := ⟨hp1, hp2, hp3, hp4, hp5, hp6⟩
  clear hp1 hp2 hp3 hp4 hp5 hp6 hA
  unfold Mon.box
  go_enter Try.func35, Try.ntmps35
  go_upto_region 1 with fail
  obtain ⟨W, hW⟩ : ∃ W, w.alloc (.cells #[.int .i64 m.a, .int .i64 m.m, .int .i64 m.t, .int .i64 m.c, .slice ha hnn hc, .bool m.z] 27) = W := ⟨_, rfl⟩
  rw [hW] at B0 X0 hz ⊢
  clear hW
  obtain ⟨y0, y1, y2, y3, y4, y5⟩ := box6_cells X0.out
  have HS := Lib.hid (hs.below B0.out)
  go_cut [3] (fun v wx => v = .bool p5 ∧ Hid (Below W.heap.size W wx))
  case first =>
    go_region_law (first
      | (go_simp; go_at_call 50; refine (sort_any ha hnn hc m.rides _ hn (by first | exact HS.out | exact HS.out.below (Below.drew (Below.refl _ _)))).mono ?_; rintro e w1 ⟨v, rfl, ho, hb1⟩; obtain ⟨a1, c1, rfl, s1, -⟩ := ownR_sl ho; have HB1 : Hid (Below W.heap.size W w1) := (by first | exact hb1 | exact (Below.drew (Below.refl _ _)).trans hb1); have S1 := Lib.hid s1; have y4' := (box6_cells (box_below X0.out HB1.out)).2.2.2.2.1; have hz1 := box_lt (box_below X0.out HB1.out); clear ho hb1 s1)
      | (go_simp; go_at_call 83; refine (equal_any a1 (isort ltR m.rides).length c1 (isort ltR m.rides) ha hnn hc m.rides _ (by have := (isort_perm (lt := ltR) m.rides).length_eq; have := HL.out; simp only at this; omega) (by first | exact S1.out | exact S1.out.below (Below.drew (Below.refl _ _))) (by first | exact HS.out.below HB1.out | exact HS.out.below (Below.drew HB1.out))).mono ?_; rintro e w2 ⟨rfl, hb2⟩; rw [HP.out.2.2.2.2.1]))
    all_goals
      go_wp2_with fail
      go_meet
      exact ⟨rfl, HB1.out.trans ((by first | exact hb2 | exact (Below.drew (Below.refl _ _)).trans hb2 : Below w1.heap.size w1 w2).mono HB1.out.size)⟩
  obtain ⟨rfl, hB⟩ := hcut
  have HBW : Hid (Below w.heap.size w wc) := B0.out.trans (hB.out.mono B0.out.size)
  have X1 := Lib.hid (box_below X0.out hB.out)
  clear y0 y1 y2 y3 y4 y5 hz
  obtain ⟨y0, y1, y2, y3, y4, y5⟩ := box6_cells X1.out
  have hz := box_lt X1.out
  cases p1 with
  | false =>
    go_wp2_with (first
      | (go_at_call 54; go_fit (mwithin_any m.a 1 2147483648 _); rintro e w2 ⟨rfl, rfl⟩; rw [HP.out.1]))
    go_ret
    exact ⟨rfl, HBW.out⟩
  | true =>
    cases p2 with
    | false =>
      go_wp2_with (first
        | (go_at_call 54; go_fit (mwithin_any m.a 1 2147483648 _); rintro e w2 ⟨rfl, rfl⟩; rw [HP.out.1])
        | (go_at_call 54; go_fit (mwithin_any m.m 0 1048576 _); rintro e w2 ⟨rfl, rfl⟩; rw [HP.out.2.1]))
      go_ret
      exact ⟨rfl, HBW.out⟩
    | true =>
      cases p3 with
      | false =>
        go_wp2_with (first
          | (go_at_call 54; go_fit (mwithin_any m.a 1 2147483648 _); rintro e w2 ⟨rfl, rfl⟩; rw [HP.out.1])
          | (go_at_call 54; go_fit (mwithin_any m.m 0 1048576 _); rintro e w2 ⟨rfl, rfl⟩; rw [HP.out.2.1])
          | (go_at_call 54; go_fit (mwithin_any m.t 1 1048576 _); rintro e w2 ⟨rfl, rfl⟩; rw [HP.out.2.2.1]))
        go_ret
        exact ⟨rfl, HBW.out⟩
      | true =>
        cases p4 with
        | false =>
          go_wp2_with (first
            | (go_at_call 54; go_fit (mwithin_any m.a 1 2147483648 _); rintro e w2 ⟨rfl, rfl⟩; rw [HP.out.1])
            | (go_at_call 54; go_fit (mwithin_any m.m 0 1048576 _); rintro e w2 ⟨rfl, rfl⟩; rw [HP.out.2.1])
            | (go_at_call 54; go_fit (mwithin_any m.t 1 1048576 _); rintro e w2 ⟨rfl, rfl⟩; rw [HP.out.2.2.1])
            | (go_at_call 54; go_fit (mwithin_any m.c 0 15 _); rintro e w2 ⟨rfl, rfl⟩; rw [HP.out.2.2.2.1]))
          go_ret
          exact ⟨rfl, HBW.out⟩
        | true =>
          cases p5 with
          | false =>
            go_wp2_with (first
              | (go_at_call 54; go_fit (mwithin_any m.a 1 2147483648 _); rintro e w2 ⟨rfl, rfl⟩; rw [HP.out.1])
              | (go_at_call 54; go_fit (mwithin_any m.m 0 1048576 _); rintro e w2 ⟨rfl, rfl⟩; rw [HP.out.2.1])
              | (go_at_call 54; go_fit (mwithin_any m.t 1 1048576 _); rintro e w2 ⟨rfl, rfl⟩; rw [HP.out.2.2.1])
              | (go_at_call 54; go_fit (mwithin_any m.c 0 15 _); rintro e w2 ⟨rfl, rfl⟩; rw [HP.out.2.2.2.1]))
            go_ret
            exact ⟨rfl, HBW.out⟩
          | true =>
            go_wp2_with (first
              | (go_at_call 54; go_fit (mwithin_any m.a 1 2147483648 _); rintro e w2 ⟨rfl, rfl⟩; rw [HP.out.1])
              | (go_at_call 54; go_fit (mwithin_any m.m 0 1048576 _); rintro e w2 ⟨rfl, rfl⟩; rw [HP.out.2.1])
              | (go_at_call 54; go_fit (mwithin_any m.t 1 1048576 _); rintro e w2 ⟨rfl, rfl⟩; rw [HP.out.2.2.1])
              | (go_at_call 54; go_fit (mwithin_any m.c 0 15 _); rintro e w2 ⟨rfl, rfl⟩; rw [HP.out.2.2.2.1])
              | (go_at_call 46; refine (right_any ha hnn hc m.rides _ hn hok (hs.below HBW.out)).mono ?_; rintro e w3 ⟨rfl, hb3⟩; rw [HP.out.2.2.2.2.2]; have HB3 := Lib.hid (HBW.out.trans (hb3.mono HBW.out.size)); clear hb3))
            go_ret
            exact ⟨rfl, HB3.out⟩
end Go.Proofs.Ytbdkhgenkekioaa
