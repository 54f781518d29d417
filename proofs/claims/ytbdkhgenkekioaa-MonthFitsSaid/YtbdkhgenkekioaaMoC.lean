/- Months: which are right, walked. -/
import Derived.Test.YtbdkhgenkekioaaMoB
import Derived.BigQuiet
import Derived.Deep.QuietTactic
import Derived.Lib.QuietBelow
namespace Go.Proofs.Ytbdkhgenkekioaa
open Go.RowKit Go.V Go.Sort Go.Shelf Go.Proofs Go.Maps
open Go.Proofs.Ytbdkhgenkekioaa.Ne (box_alloc box_new box_cell box_below box_lt box2_cells)

set_option maxHeartbeats 8000000 in
set_option maxRecDepth 100000 in
theorem mright_any (a : Option Addr) (n cap : Nat) (hs : List Hdr) (ms : List Mon) (w : World) (hn : n ≤ 1000000) (hl : ∀ m ∈ ms, m.rides.length ≤ 1000000) (hok : ∀ m ∈ ms, ∀ r ∈ m.rides, Ride.ok r) (h : MonIn w a n cap hs ms) :
    Calls Try.prog 9 #[.slice a n cap] w fun e w' => e = .returned (.bool (decide (RightM ms))) ∧ Below w.heap.size w w' := by
  have mixed : Try.prog.follows .mixedOrders = true := by kernel_rfl
  have HN := Lib.hid h.n_eq
  by_cases hbig : 4096 < n
  · go_enter Try.func9, Try.ntmps9
    go_wp2_with fail
    go_ret
    exact ⟨ret_bool (by symm; rw [decide_eq_false_iff_not]; intro q; have := q.1; have := HN.out; omega), Below.refl _ _⟩
  · go_enter Try.func9, Try.ntmps9
    go_wp2_with fail
    go_loopw [10] (fun i wr => ∃ k : Nat, i = .int .i64 k ∧ k ≤ n ∧ Hid (UpTo ms k) ∧ Hid (Below w.heap.size w wr)) (fun i _ => n - (intOf i).toNat)
    case atStart => exact ⟨0, rfl, by omega, UpTo.zero ms, Below.refl _ _⟩
    case round =>
      obtain ⟨k, rfl, hk, hup, hB⟩ := hrel
      by_cases hlt : k < n
      · obtain ⟨b, off, at_, ct, m, rfl, hbb, hm, -, ⟨c0, c1, c2, c3, c4, c5⟩, hrd⟩ := (h.below hB.out).at hlt
        have HM := Lib.hid hm
        have HL := Lib.hid (hl m (List.mem_of_getElem? hm))
        have HOK := Lib.hid (hok m (List.mem_of_getElem? hm))
        have HRD := Lib.hid hrd
        have hbs := hB.out.size
        have b1 : (k : Int) < (n : Int) := by omega
        obtain ⟨p, hp⟩ : ∃ p, decide (OneM m) = p := ⟨_, rfl⟩
        have HP := Lib.hid hp
        clear hm hrd hp
        go_upto_region 6 with fail
        have X0 : Hid ((wr.alloc (.cells #[.int .i64 m.a, .int .i64 m.m, .int .i64 m.t, .int .i64 m.c, .slice at_ m.rides.length ct, .bool m.z] 27)).heap[wr.heap.size]? = some (.cells #[.int .i64 m.a, .int .i64 m.m, .int .i64 m.t, .int .i64 m.c, .slice at_ m.rides.length ct, .bool m.z] 27 (0, 0))) := box_new wr _
        have B0 : Hid (Below wr.heap.size wr (wr.alloc (.cells #[.int .i64 m.a, .int .i64 m.m, .int .i64 m.t, .int .i64 m.c, .slice at_ m.rides.length ct, .bool m.z] 27))) := (Below.refl _ _).alloc (Nat.le_refl _) _
        have hz : wr.heap.size < (wr.alloc (.cells #[.int .i64 m.a, .int .i64 m.m, .int .i64 m.t, .int .i64 m.c, .slice at_ m.rides.length ct, .bool m.z] 27)).heap.size := by simp
        obtain ⟨W, hW⟩ : ∃ W, wr.alloc (.cells #[.int .i64 m.a, .int .i64 m.m, .int .i64 m.t, .int .i64 m.c, .slice at_ m.rides.length ct, .bool m.z] 27) = W := ⟨_, rfl⟩
        rw [hW] at X0 B0 hz ⊢
        clear hW c0 c1 c2 c3 c4 c5
        have HBW : Hid (Below w.heap.size w W) := hB.out.trans (B0.out.mono hbs)
        obtain ⟨y0, y1, y2, y3, y4, y5⟩ := box6_cells X0.out
        have HS := Lib.hid (HRD.out.below B0.out)
        have q1 : ∀ nd osq, Calls Try.prog 35 #[.agg #[.int .i64 m.a, .int .i64 m.m, .int .i64 m.t, .int .i64 m.c, .slice at_ m.rides.length ct, .bool m.z]] (Go.Sort.grow (redrawn W nd) osq) fun e w' => e = .returned (.bool p) ∧ Below (Go.Sort.grow (redrawn W nd) osq).heap.size (Go.Sort.grow (redrawn W nd) osq) w' := fun nd osq => by
          have := mone_any m ⟨at_, m.rides.length, ct⟩ (Go.Sort.grow (redrawn W nd) osq) HL.out HOK.out (HS.out.below (below_regrown _ _ _))
          rwa [HP.out] at this
        have Y0 := cell_regrown y0
        have Y1 := cell_regrown y1
        have Y2 := cell_regrown y2
        have Y3 := cell_regrown y3
        have Y4 := cell_regrown y4
        have Y5 := cell_regrown y5
        cases p with
        | false =>
          clear y0 y1 y2 y3 y4 y5
          refine wp_region_quiet_below (by assumption) (by kernel_rfl) ?_
          repeat (go_big_quiet_step (first
            | (go_at_call 35; exact Calls.regrown_of (q1 _ _))
            | (go_at_call 36; exact Calls.regrown_of (q2 _ _))
            | (go_at_call 36; exact Calls.regrown_of (q3 _ _))
            | (go_at_call 37; exact Calls.regrown_of (q4 _ _))))
          refine wpQuiet_nil ?_
          intro w9 hw9
          obtain ⟨⟨nd, osq⟩, rfl⟩ := hw9
          have hb9 := below_regrown W nd osq
          have HB9 : Hid (Below w.heap.size w (Go.Sort.grow (redrawn W nd) osq)) := HBW.out.trans (hb9.mono HBW.out.size)
          generalize Go.Sort.grow (redrawn W nd) osq = w9 at HB9 ⊢
          clear hb9
          go_wp2_with fail
          go_ret
          exact ⟨ret_bool (by symm; rw [decide_eq_false_iff_not]; intro q; exact UpTo.not HM.out (fun z => of_decide_eq_false HP.out z.1) q.2), HB9.out⟩
        | true =>
          cases k with
          | zero =>
            clear y0 y1 y2 y3 y4 y5
            refine wp_region_quiet_below (by assumption) (by kernel_rfl) ?_
            repeat (go_big_quiet_step (first
              | (go_at_call 35; exact Calls.regrown_of (q1 _ _))
              | (go_at_call 36; exact Calls.regrown_of (q2 _ _))
              | (go_at_call 36; exact Calls.regrown_of (q3 _ _))
              | (go_at_call 37; exact Calls.regrown_of (q4 _ _))))
            refine wpQuiet_nil ?_
            intro w9 hw9
            obtain ⟨⟨nd, osq⟩, rfl⟩ := hw9
            have hb9 := below_regrown W nd osq
            have HB9 : Hid (Below w.heap.size w (Go.Sort.grow (redrawn W nd) osq)) := HBW.out.trans (hb9.mono HBW.out.size)
            generalize Go.Sort.grow (redrawn W nd) osq = w9 at HB9 ⊢
            clear hb9
            go_wp2_with fail
            go_roundw
            case rel => exact ⟨1, by go_num, by omega, hup.out.step HM.out (of_decide_eq_true HP.out) (fun j p e => by omega), HB9.out⟩
            case measure => simp [intOf]; omega
          | succ j =>
            obtain ⟨b', off', at', ct', m', e', hbb', hm', -, ⟨c0, c1, c2, c3, c4, c5⟩, -⟩ := ((h.below hB.out).below B0.out).at (i := j) (by omega)
            cases e'
            have HM' := Lib.hid hm'
            have r1 : IntKind.i64.wrap ((↑(j + 1) : Int) - 1) = (j : Int) := by rw [IntKind.wrap_i64]; omega
            have b2 : (j : Int) < (n : Int) := by omega
            have b3 : (0 : Int) < (↑(j + 1) : Int) := by omega
            have Z0 := cell_regrown c0
            have Z1 := cell_regrown c1
            have Z2 := cell_regrown c2
            have Z3 := cell_regrown c3
            have Z4 := cell_regrown c4
            have Z5 := cell_regrown c5
            have q2 : ∀ nd osq, Calls Try.prog 36 #[.agg #[.int .i64 m'.a, .int .i64 m'.m, .int .i64 m'.t, .int .i64 m'.c, .slice at' m'.rides.length ct', .bool m'.z]] (Go.Sort.grow (redrawn W nd) osq) fun e w' => e = .returned (kval m'.a m'.m) ∧ Below (Go.Sort.grow (redrawn W nd) osq).heap.size (Go.Sort.grow (redrawn W nd) osq) w' := fun nd osq => of_any _ _ _ _ _ _ _
            have q3 : ∀ nd osq, Calls Try.prog 36 #[.agg #[.int .i64 m.a, .int .i64 m.m, .int .i64 m.t, .int .i64 m.c, .slice at_ m.rides.length ct, .bool m.z]] (Go.Sort.grow (redrawn W nd) osq) fun e w' => e = .returned (kval m.a m.m) ∧ Below (Go.Sort.grow (redrawn W nd) osq).heap.size (Go.Sort.grow (redrawn W nd) osq) w' := fun nd osq => of_any _ _ _ _ _ _ _
            obtain ⟨K, hK⟩ : ∃ K, kcmp m'.a m'.m m.a m.m = K := ⟨_, rfl⟩
            have q4 : ∀ nd osq, Calls Try.prog 37 #[kval m'.a m'.m, kval m.a m.m] (Go.Sort.grow (redrawn W nd) osq) fun e w' => e = .returned (.int .i64 K) ∧ Below (Go.Sort.grow (redrawn W nd) osq).heap.size (Go.Sort.grow (redrawn W nd) osq) w' := fun nd osq => by
              have := kcmp_any m'.a m'.m m.a m.m (Go.Sort.grow (redrawn W nd) osq)
              rwa [hK] at this
            have hKK : decide (0 ≤ K) = !(decide (aheadM m' m)) := by rw [← hK]; exact kcmp_lt _ _ _ _
            have HKK := Lib.hid hKK
            clear y0 y1 y2 y3 y4 y5 c0 c1 c2 c3 c4 c5 hm' hK hKK
            by_cases hge : 0 ≤ K
            · have d1 : decide (0 ≤ K) = true := decide_eq_true hge
              refine wp_region_quiet_below (by assumption) (by kernel_rfl) ?_
              repeat (go_big_quiet_step (first
                | (go_at_call 35; exact Calls.regrown_of (q1 _ _))
                | (go_at_call 36; exact Calls.regrown_of (q2 _ _))
                | (go_at_call 36; exact Calls.regrown_of (q3 _ _))
                | (go_at_call 37; exact Calls.regrown_of (q4 _ _))))
              refine wpQuiet_nil ?_
              intro w9 hw9
              obtain ⟨⟨nd, osq⟩, rfl⟩ := hw9
              have hb9 := below_regrown W nd osq
              have HB9 : Hid (Below w.heap.size w (Go.Sort.grow (redrawn W nd) osq)) := HBW.out.trans (hb9.mono HBW.out.size)
              generalize Go.Sort.grow (redrawn W nd) osq = w9 at HB9 ⊢
              clear hb9
              go_wp2_with fail
              go_ret
              exact ⟨ret_bool (by
                symm; rw [decide_eq_false_iff_not]; intro q
                refine UpTo.not HM.out (fun z => ?_) q.2
                have := z.2 j m' rfl HM'.out
                have h2 := HKK.out
                rw [decide_eq_true this, decide_eq_true hge] at h2
                cases h2), HB9.out⟩
            · have d1 : decide (0 ≤ K) = false := decide_eq_false hge
              refine wp_region_quiet_below (by assumption) (by kernel_rfl) ?_
              repeat (go_big_quiet_step (first
                | (go_at_call 35; exact Calls.regrown_of (q1 _ _))
                | (go_at_call 36; exact Calls.regrown_of (q2 _ _))
                | (go_at_call 36; exact Calls.regrown_of (q3 _ _))
                | (go_at_call 37; exact Calls.regrown_of (q4 _ _))))
              refine wpQuiet_nil ?_
              intro w9 hw9
              obtain ⟨⟨nd, osq⟩, rfl⟩ := hw9
              have hb9 := below_regrown W nd osq
              have HB9 : Hid (Below w.heap.size w (Go.Sort.grow (redrawn W nd) osq)) := HBW.out.trans (hb9.mono HBW.out.size)
              generalize Go.Sort.grow (redrawn W nd) osq = w9 at HB9 ⊢
              clear hb9
              go_wp2_with fail
              go_roundw
              case rel =>
                refine ⟨j + 1 + 1, by go_num, by omega, hup.out.step HM.out (of_decide_eq_true HP.out) (fun i p e hp => ?_), HB9.out⟩
                have : i = j := by omega
                subst this
                have := hp.symm.trans HM'.out
                cases this
                have h2 := HKK.out
                rw [decide_eq_false hge] at h2
                exact of_decide_eq_true (by simpa using h2)
              case measure => simp [intOf]; omega
      · have hk' : k = n := by omega
        have HK := Lib.hid hk'
        clear hk'
        go_wp2_with fail
        go_ret
        exact ⟨ret_bool (by symm; rw [decide_eq_true_iff]; exact ⟨by have := HN.out; omega, by rw [← HN.out, ← HK.out]; exact hup.out⟩), hB.out⟩
end Go.Proofs.Ytbdkhgenkekioaa
