/- Months: which are right, by the document, walked. -/
import Derived.Test.YtbdkhgenkekioaaMoB
import Derived.BigQuiet
import Derived.Deep.QuietTactic
import Derived.Lib.QuietBelow
namespace Go.Proofs.Ytbdkhgenkekioaa
open Go.RowKit Go.V Go.Sort Go.Shelf Go.Proofs Go.Maps
open Go.Proofs.Ytbdkhgenkekioaa.Ne (box_alloc box_new box_cell box_below box_lt box2_cells)

set_option maxHeartbeats 1000000 in
theorem rfrom_any (n lo hi : Int) (w : World) : Calls Try.prog 38 #[.int .i64 n, .int .i64 lo, .int .i64 hi] w fun e w' => e = .returned (.bool (inB n lo hi)) ∧ w' = w := by
  by_cases h1 : lo ≤ n
  · go_enter Try.func38, Try.ntmps38
    go_wp2_with fail
    go_ret
    exact ⟨ret_bool (by unfold inB; rw [Bool.eq_iff_iff]; simp; omega), rfl⟩
  · go_enter Try.func38, Try.ntmps38
    go_wp2_with fail
    go_ret
    exact ⟨ret_bool (by unfold inB; rw [Bool.eq_iff_iff]; simp; omega), rfl⟩

theorem ltR_dec (r s : Ride) : ltR r s = decide (r.s < s.s ∨ r.s = s.s ∧ r.t < s.t) := by
  rw [Bool.eq_iff_iff, ltR_iff, decide_eq_true_iff]
set_option maxHeartbeats 1000000 in
theorem rlt_any (r s : Ride) (w : World) : Calls Try.prog 39 #[.agg #[.int .i64 r.t, .int .i64 r.s, .int .i64 r.e, .int .i64 r.f], .agg #[.int .i64 s.t, .int .i64 s.s, .int .i64 s.e, .int .i64 s.f]] w fun e w' => e = .returned (.bool (ltR r s)) ∧ Below w.heap.size w w' := by
  have B0 : Hid (Below w.heap.size w ((w.alloc (.cells #[.int .i64 r.t, .int .i64 r.s, .int .i64 r.e, .int .i64 r.f] 24)).alloc (.cells #[.int .i64 s.t, .int .i64 s.s, .int .i64 s.e, .int .i64 s.f] 24))) := ((Below.refl _ _).alloc (Nat.le_refl _) _).alloc (by simp) _
  rw [ltR_dec]
  by_cases h1 : r.s < s.s
  · go_enter Try.func39, Try.ntmps39
    go_wp2_with fail
    go_ret
    exact ⟨ret_bool (by symm; rw [decide_eq_true_iff]; omega), B0.out⟩
  · by_cases h2 : r.s = s.s
    · have z2 : (r.s == s.s) = true := by simpa using h2
      have H2 := Lib.hid h2
      clear h2
      go_enter Try.func39, Try.ntmps39
      go_wp2_with fail
      go_ret
      exact ⟨ret_bool (by have := H2.out; rw [Bool.eq_iff_iff]; simp; omega), B0.out⟩
    · have z2 : (r.s == s.s) = false := by simpa using h2
      go_enter Try.func39, Try.ntmps39
      go_wp2_with fail
      go_ret
      exact ⟨ret_bool (by symm; rw [decide_eq_false_iff_not]; omega), B0.out⟩
set_option maxHeartbeats 1000000 in
theorem rmahead_any (x y : Mon) (hx hy : Value) (w : World) : Calls Try.prog 40 #[.agg #[.int .i64 x.a, .int .i64 x.m, .int .i64 x.t, .int .i64 x.c, hx, .bool x.z], .agg #[.int .i64 y.a, .int .i64 y.m, .int .i64 y.t, .int .i64 y.c, hy, .bool y.z]] w fun e w' => e = .returned (.bool (decide (aheadM x y))) ∧ Below w.heap.size w w' := by
  have B0 : Hid (Below w.heap.size w ((w.alloc (.cells #[.int .i64 x.a, .int .i64 x.m, .int .i64 x.t, .int .i64 x.c, hx, .bool x.z] 27)).alloc (.cells #[.int .i64 y.a, .int .i64 y.m, .int .i64 y.t, .int .i64 y.c, hy, .bool y.z] 27))) := ((Below.refl _ _).alloc (Nat.le_refl _) _).alloc (by simp) _
  have ee : decide (aheadM x y) = decide (x.a < y.a ∨ x.a = y.a ∧ x.m < y.m) := by rw [Bool.eq_iff_iff, decide_eq_true_iff, decide_eq_true_iff]; exact Iff.rfl
  rw [ee]
  clear ee
  by_cases h1 : x.a < y.a
  · go_enter Try.func40, Try.ntmps40
    go_wp2_with fail
    go_ret
    exact ⟨ret_bool (by symm; rw [decide_eq_true_iff]; omega), B0.out⟩
  · by_cases h2 : x.a = y.a
    · have z2 : (x.a == y.a) = true := by simpa using h2
      have H2 := Lib.hid h2
      clear h2
      go_enter Try.func40, Try.ntmps40
      go_wp2_with fail
      go_ret
      exact ⟨ret_bool (by have := H2.out; rw [Bool.eq_iff_iff]; simp; omega), B0.out⟩
    · have z2 : (x.a == y.a) = false := by simpa using h2
      go_enter Try.func40, Try.ntmps40
      go_wp2_with fail
      go_ret
      exact ⟨ret_bool (by symm; rw [decide_eq_false_iff_not]; omega), B0.out⟩

set_option maxHeartbeats 8000000 in
set_option maxRecDepth 100000 in
theorem rmright_any (a : Option Addr) (n cap : Nat) (hs : List Hdr) (ms : List Mon) (w : World) (hn : n ≤ 1000000) (hl : ∀ m ∈ ms, m.rides.length ≤ 1000000) (h : MonIn w a n cap hs ms) :
    Calls Try.prog 10 #[.slice a n cap] w fun e w' => e = .returned (.bool (decide (RightM ms))) ∧ Below w.heap.size w w' := by
  have mixed : Try.prog.follows .mixedOrders = true := by kernel_rfl
  have HN := Lib.hid h.n_eq
  go_enter Try.func10, Try.ntmps10
  go_wp2_with fail
  go_loopw [3] (fun i wr => ∃ k : Nat, i = .int .i64 k ∧ k ≤ n ∧ Hid (UpTo ms k) ∧ Hid (Below w.heap.size w wr)) (fun i _ => n - (intOf i).toNat)
  case atStart => exact ⟨0, rfl, by omega, UpTo.zero ms, Below.refl _ _⟩
  case round =>
    obtain ⟨k, rfl, hk, hup, hB⟩ := hrel
    by_cases hlt : k < n
    · obtain ⟨b, off, at_, ct, m, rfl, hbb, hm, -, ⟨c0, c1, c2, c3, c4, c5⟩, hrd⟩ := (h.below hB.out).at hlt
      have HM := Lib.hid hm
      have HL := Lib.hid (hl m (List.mem_of_getElem? hm))
      have HRD := Lib.hid hrd
      have hbs := hB.out.size
      have b1 : (k : Int) < (n : Int) := by omega
      clear hm hrd
      go_upto_region 5 with fail
      have X0 : Hid ((wr.alloc (.cells #[.int .i64 m.a, .int .i64 m.m, .int .i64 m.t, .int .i64 m.c, .slice at_ m.rides.length ct, .bool m.z] 27)).heap[wr.heap.size]? = some (.cells #[.int .i64 m.a, .int .i64 m.m, .int .i64 m.t, .int .i64 m.c, .slice at_ m.rides.length ct, .bool m.z] 27 (0, 0))) := box_new wr _
      have B0 : Hid (Below wr.heap.size wr (wr.alloc (.cells #[.int .i64 m.a, .int .i64 m.m, .int .i64 m.t, .int .i64 m.c, .slice at_ m.rides.length ct, .bool m.z] 27))) := (Below.refl _ _).alloc (Nat.le_refl _) _
      have hz : wr.heap.size < (wr.alloc (.cells #[.int .i64 m.a, .int .i64 m.m, .int .i64 m.t, .int .i64 m.c, .slice at_ m.rides.length ct, .bool m.z] 27)).heap.size := by simp
      obtain ⟨W, hW⟩ : ∃ W, wr.alloc (.cells #[.int .i64 m.a, .int .i64 m.m, .int .i64 m.t, .int .i64 m.c, .slice at_ m.rides.length ct, .bool m.z] 27) = W := ⟨_, rfl⟩
      rw [hW] at X0 B0 hz ⊢
      clear hW c0 c1 c2 c3 c4 c5
      have HBW : Hid (Below w.heap.size w W) := hB.out.trans (B0.out.mono hbs)
      obtain ⟨y0, y1, y2, y3, y4, y5⟩ := box6_cells X0.out
      have HS := Lib.hid (HRD.out.below B0.out)
      obtain ⟨p, hp⟩ : ∃ p, decide (numsM m) = p := ⟨_, rfl⟩
      go_cut [37] (fun v wx => v = .bool (!p) ∧ W = wx)
      case first =>
        obtain ⟨p1, hp1⟩ : ∃ p, inB m.a 1 2147483648 = p := ⟨_, rfl⟩
        obtain ⟨p2, hp2⟩ : ∃ p, inB m.m 0 1048576 = p := ⟨_, rfl⟩
        obtain ⟨p3, hp3⟩ : ∃ p, inB m.t 1 1048576 = p := ⟨_, rfl⟩
        obtain ⟨p4, hp4⟩ : ∃ p, inB m.c 0 15 = p := ⟨_, rfl⟩
        have hA : p = (p1 && (p2 && (p3 && p4))) := by
          rw [← hp, ← hp1, ← hp2, ← hp3, ← hp4]
          unfold inB
          rw [Bool.eq_iff_iff]
          simp only [Bool.and_eq_true, decide_eq_true_eq]
          unfold numsM
          exact Iff.rfl
        subst hA
        have HP : Hid (inB m.a 1 2147483648 = p1 ∧ inB m.m 0 1048576 = p2 ∧ inB m.t 1 1048576 = p3 ∧ inB m.c 0 15 = p4) := ⟨hp1, hp2, hp3, hp4⟩
        clear hp1 hp2 hp3 hp4 hp
        cases p1 with
        | false =>
          go_wp2_with (first
            | (go_at_call 38; go_fit (rfrom_any m.a 1 2147483648 _); rintro e w2 ⟨rfl, rfl⟩; rw [HP.out.1]))
          go_meet
          exact ⟨rfl, rfl⟩
        | true =>
          cases p2 with
          | false =>
            go_wp2_with (first
              | (go_at_call 38; go_fit (rfrom_any m.a 1 2147483648 _); rintro e w2 ⟨rfl, rfl⟩; rw [HP.out.1])
              | (go_at_call 38; go_fit (rfrom_any m.m 0 1048576 _); rintro e w2 ⟨rfl, rfl⟩; rw [HP.out.2.1]))
            go_meet
            exact ⟨rfl, rfl⟩
          | true =>
            cases p3 with
            | false =>
              go_wp2_with (first
                | (go_at_call 38; go_fit (rfrom_any m.a 1 2147483648 _); rintro e w2 ⟨rfl, rfl⟩; rw [HP.out.1])
                | (go_at_call 38; go_fit (rfrom_any m.m 0 1048576 _); rintro e w2 ⟨rfl, rfl⟩; rw [HP.out.2.1])
                | (go_at_call 38; go_fit (rfrom_any m.t 1 1048576 _); rintro e w2 ⟨rfl, rfl⟩; rw [HP.out.2.2.1]))
              go_meet
              exact ⟨rfl, rfl⟩
            | true =>
              cases p4 with
              | false =>
                go_wp2_with (first
                  | (go_at_call 38; go_fit (rfrom_any m.a 1 2147483648 _); rintro e w2 ⟨rfl, rfl⟩; rw [HP.out.1])
                  | (go_at_call 38; go_fit (rfrom_any m.m 0 1048576 _); rintro e w2 ⟨rfl, rfl⟩; rw [HP.out.2.1])
                  | (go_at_call 38; go_fit (rfrom_any m.t 1 1048576 _); rintro e w2 ⟨rfl, rfl⟩; rw [HP.out.2.2.1])
                  | (go_at_call 38; go_fit (rfrom_any m.c 0 15 _); rintro e w2 ⟨rfl, rfl⟩; rw [HP.out.2.2.2]))
                go_meet
                exact ⟨rfl, rfl⟩
              | true =>
                go_wp2_with (first
                  | (go_at_call 38; go_fit (rfrom_any m.a 1 2147483648 _); rintro e w2 ⟨rfl, rfl⟩; rw [HP.out.1])
                  | (go_at_call 38; go_fit (rfrom_any m.m 0 1048576 _); rintro e w2 ⟨rfl, rfl⟩; rw [HP.out.2.1])
                  | (go_at_call 38; go_fit (rfrom_any m.t 1 1048576 _); rintro e w2 ⟨rfl, rfl⟩; rw [HP.out.2.2.1])
                  | (go_at_call 38; go_fit (rfrom_any m.c 0 15 _); rintro e w2 ⟨rfl, rfl⟩; rw [HP.out.2.2.2]))
                go_meet
                exact ⟨rfl, rfl⟩
      obtain ⟨rfl, rfl⟩ := hcut
      have HP := Lib.hid hp
      clear hp
      cases p with
      | false =>
        go_wp2_with fail
        go_ret
        exact ⟨ret_bool (by symm; rw [decide_eq_false_iff_not]; intro q; exact UpTo.not HM.out (fun z => of_decide_eq_false HP.out z.1.1) q.2), HBW.out⟩
      | true =>
        obtain ⟨q, hq⟩ : ∃ q, decide (RightP m.rides) = q := ⟨_, rfl⟩
        have HQ := Lib.hid hq
        clear hq
        cases q with
        | false =>
          go_wp2_with (go_at_call 26; refine (rright_any at_ m.rides.length ct m.rides _ HL.out HS.out).mono ?_; rintro e w3 ⟨rfl, hb3⟩; rw [HQ.out]; have HB3 := Lib.hid (HBW.out.trans (hb3.mono HBW.out.size)); clear hb3)
          go_ret
          exact ⟨ret_bool (by symm; rw [decide_eq_false_iff_not]; intro q; exact UpTo.not HM.out (fun z => of_decide_eq_false HQ.out z.1.2.2) q.2), HB3.out⟩
        | true =>
          go_wp2_with (go_at_call 26; refine (rright_any at_ m.rides.length ct m.rides _ HL.out HS.out).mono ?_; rintro e w3 ⟨rfl, hb3⟩; rw [HQ.out]; have HB3 := Lib.hid hb3; clear hb3)
          have hs3 := HB3.out.size
          have HBW3 : Hid (Below w.heap.size w w3) := HBW.out.trans (HB3.out.mono HBW.out.size)
          obtain ⟨ln, hln⟩ : ∃ ln, m.rides.length = ln := ⟨_, rfl⟩
          have HLN := Lib.hid hln
          have hlb : ln ≤ 1000000 := by have := HL.out; omega
          rw [hln] at HS y4 X0 ⊢
          clear hln y0 y1 y2 y3 y4 y5
          go_loopw [5] (fun i wx => ∃ q : Nat, i = .int .i64 ((q + 1 : Nat) : Int) ∧ (q = 0 ∨ q + 1 ≤ ln) ∧ Hid (∀ j r s, j < q → m.rides[j]? = some r → m.rides[j + 1]? = some s → ltR r s = true) ∧ Hid (Below W.heap.size W wx)) (fun i _ => ln + 1 - (intOf i).toNat)
          case atStart => exact ⟨0, rfl, .inl rfl, fun j r s hj => by omega, HB3.out⟩
          case round =>
            obtain ⟨q, rfl, hq, hlt', hB'⟩ := hrel
            obtain ⟨wy, rfl⟩ : ∃ wy : World, wy = wr := ⟨_, rfl⟩
            have hsy := hB'.out.size
            have X1 := Lib.hid (box_below X0.out hB'.out)
            have hz1 := box_lt X1.out
            have HBy : Hid (Below w.heap.size w wy) := HBW.out.trans (hB'.out.mono HBW.out.size)
            obtain ⟨y0, y1, y2, y3, y4, y5⟩ := box6_cells X1.out
            by_cases hq1 : q + 1 < ln
            · obtain ⟨b2, o2, r, rfl, hb2, hr, d0, d1, d2, d3⟩ := ride_at (HS.out.below hB'.out) (i := q) (by omega)
              obtain ⟨b2', o2', r', e', hb2', hr', d0', d1', d2', d3'⟩ := ride_at (HS.out.below hB'.out) (i := q + 1) (by omega)
              cases e'
              have HR := Lib.hid hr
              have HR' := Lib.hid hr'
              have r1 : IntKind.i64.wrap (((q + 1 : Nat) : Int) - 1) = (q : Int) := by rw [IntKind.wrap_i64]; omega
              have b2x : ((q + 1 : Nat) : Int) < (ln : Int) := by omega
              have b3x : (q : Int) < (ln : Int) := by omega
              have D0 := cell_regrown d0
              have D1 := cell_regrown d1
              have D2 := cell_regrown d2
              have D3 := cell_regrown d3
              have E0 := cell_regrown d0'
              have E1 := cell_regrown d1'
              have E2 := cell_regrown d2'
              have E3 := cell_regrown d3'
              have Y4 := cell_regrown y4
              obtain ⟨u, hu⟩ : ∃ u, ltR r r' = u := ⟨_, rfl⟩
              have q1 : ∀ nd osq, Calls Try.prog 39 #[.agg #[.int .i64 r.t, .int .i64 r.s, .int .i64 r.e, .int .i64 r.f], .agg #[.int .i64 r'.t, .int .i64 r'.s, .int .i64 r'.e, .int .i64 r'.f]] (Go.Sort.grow (redrawn wy nd) osq) fun e w' => e = .returned (.bool u) ∧ Below (Go.Sort.grow (redrawn wy nd) osq).heap.size (Go.Sort.grow (redrawn wy nd) osq) w' := fun nd osq => by
                have := rlt_any r r' (Go.Sort.grow (redrawn wy nd) osq)
                rwa [hu] at this
              have HU := Lib.hid hu
              go_upto_region 12 with fail
              clear hr hr' d0 d1 d2 d3 d0' d1' d2' d3' hu
              cases u with
              | false =>
                refine wp_region_quiet_below (by assumption) (by kernel_rfl) ?_
                repeat (go_big_quiet_step ((go_at_call 39; exact Calls.regrown_of (q1 _ _))))
                refine wpQuiet_nil ?_
                intro w9 hw9
                obtain ⟨⟨nd, osq⟩, rfl⟩ := hw9
                have hb9 := below_regrown wy nd osq
                have HB9 : Hid (Below w.heap.size w (Go.Sort.grow (redrawn wy nd) osq)) := HBy.out.trans (hb9.mono HBy.out.size)
                generalize Go.Sort.grow (redrawn wy nd) osq = w9 at HB9 ⊢
                clear hb9
                go_wp2_with fail
                go_ret
                exact ⟨ret_bool (by
                  symm; rw [decide_eq_false_iff_not]; intro z
                  refine UpTo.not HM.out (fun z1 => ?_) z.2
                  have h1 := (isort_up z1.1.2.2.2.2).1 z1.1.2.1 q r r' HR.out HR'.out
                  rw [HU.out] at h1; cases h1), HB9.out⟩
              | true =>
                refine wp_region_quiet_below (by assumption) (by kernel_rfl) ?_
                repeat (go_big_quiet_step ((go_at_call 39; exact Calls.regrown_of (q1 _ _))))
                refine wpQuiet_nil ?_
                intro w9 hw9
                obtain ⟨⟨nd, osq⟩, rfl⟩ := hw9
                have hb9 := below_regrown wy nd osq
                have HB9 : Hid (Below W.heap.size W (Go.Sort.grow (redrawn wy nd) osq)) := hB'.out.trans (hb9.mono hB'.out.size)
                generalize Go.Sort.grow (redrawn wy nd) osq = w9 at HB9 ⊢
                clear hb9
                go_wp2_with fail
                go_roundw
                case rel =>
                  refine ⟨q + 1, by go_num, .inr (by omega), fun j x y hj hx hy => ?_, HB9.out⟩
                  by_cases ej : j = q
                  · subst ej
                    have e1 := hx.symm.trans HR.out
                    have e2 := hy.symm.trans HR'.out
                    cases e1; cases e2
                    exact HU.out
                  · exact hlt'.out j x y (by omega) hx hy
                case measure => simp [intOf]; omega
            · have HUP : Hid (OneM m) := by
                have hR := of_decide_eq_true HQ.out
                refine ⟨of_decide_eq_true HP.out, (isort_up hR.2.2).2 (fun j x y hx hy => hlt'.out j x y ?_ hx hy), hR⟩
                have := (List.getElem?_eq_some_iff.1 hy).1
                have := HLN.out
                omega
              have b4x : ¬ ((q + 1 : Nat) : Int) < (ln : Int) := by omega
              go_upto_region 14 with fail
              clear b4x hq1
              cases k with
              | zero =>
                have Y0 := cell_regrown y0
                clear y0 y1 y2 y3 y4 y5
                refine wp_region_quiet_below (by assumption) (by kernel_rfl) ?_
                repeat (go_big_quiet_step (fail))
                refine wpQuiet_nil ?_
                intro w9 hw9
                obtain ⟨⟨nd, osq⟩, rfl⟩ := hw9
                have hb9 := below_regrown wy nd osq
                have HB9 : Hid (Below w.heap.size w (Go.Sort.grow (redrawn wy nd) osq)) := HBy.out.trans (hb9.mono HBy.out.size)
                generalize Go.Sort.grow (redrawn wy nd) osq = w9 at HB9 ⊢
                clear hb9
                go_wp2_with fail
                go_roundw
                case rel => exact ⟨1, by go_num, by omega, hup.out.step HM.out HUP.out (fun j p e => by omega), HB9.out⟩
                case measure => simp [intOf]; omega
              | succ j =>
                obtain ⟨b', off', at', ct', m', e', hbb', hm', -, ⟨c0, c1, c2, c3, c4, c5⟩, -⟩ := (h.below HBy.out).at (i := j) (by omega)
                cases e'
                have HM' := Lib.hid hm'
                have r1 : IntKind.i64.wrap ((↑(j + 1) : Int) - 1) = (j : Int) := by rw [IntKind.wrap_i64]; omega
                have b2 : (j : Int) < (n : Int) := by omega
                have b3 : (0 : Int) < (↑(j + 1) : Int) := by omega
                have Z0 := cell_regrown c0
                have Z1 := cell_regrown c1
                have Z2 := cell_regrown c2
                have Z3 := cell_regrown c3
                have Z4 := cell_regrown c4
                have Z5 := cell_regrown c5
                have Y0 := cell_regrown y0
                have Y1 := cell_regrown y1
                have Y2 := cell_regrown y2
                have Y3 := cell_regrown y3
                have Y4 := cell_regrown y4
                have Y5 := cell_regrown y5
                obtain ⟨u, hu⟩ : ∃ u, decide (aheadM m' m) = u := ⟨_, rfl⟩
                have HU := Lib.hid hu
                have q1 : ∀ nd osq, Calls Try.prog 40 #[.agg #[.int .i64 m'.a, .int .i64 m'.m, .int .i64 m'.t, .int .i64 m'.c, .slice at' m'.rides.length ct', .bool m'.z], .agg #[.int .i64 m.a, .int .i64 m.m, .int .i64 m.t, .int .i64 m.c, .slice at_ ln ct, .bool m.z]] (Go.Sort.grow (redrawn wy nd) osq) fun e w' => e = .returned (.bool u) ∧ Below (Go.Sort.grow (redrawn wy nd) osq).heap.size (Go.Sort.grow (redrawn wy nd) osq) w' := fun nd osq => by
                  have := rmahead_any m' m (.slice at' m'.rides.length ct') (.slice at_ ln ct) (Go.Sort.grow (redrawn wy nd) osq)
                  rwa [hu] at this
                clear y0 y1 y2 y3 y4 y5 c0 c1 c2 c3 c4 c5 hm' hu
                cases u with
                | false =>
                  refine wp_region_quiet_below (by assumption) (by kernel_rfl) ?_
                  repeat (go_big_quiet_step ((go_at_call 40; exact Calls.regrown_of (q1 _ _))))
                  refine wpQuiet_nil ?_
                  intro w9 hw9
                  obtain ⟨⟨nd, osq⟩, rfl⟩ := hw9
                  have hb9 := below_regrown wy nd osq
                  have HB9 : Hid (Below w.heap.size w (Go.Sort.grow (redrawn wy nd) osq)) := HBy.out.trans (hb9.mono HBy.out.size)
                  generalize Go.Sort.grow (redrawn wy nd) osq = w9 at HB9 ⊢
                  clear hb9
                  go_wp2_with fail
                  go_ret
                  exact ⟨ret_bool (by
                    symm; rw [decide_eq_false_iff_not]; intro z
                    exact UpTo.not HM.out (fun z1 => of_decide_eq_false HU.out (z1.2 j m' rfl HM'.out)) z.2), HB9.out⟩
                | true =>
                  refine wp_region_quiet_below (by assumption) (by kernel_rfl) ?_
                  repeat (go_big_quiet_step ((go_at_call 40; exact Calls.regrown_of (q1 _ _))))
                  refine wpQuiet_nil ?_
                  intro w9 hw9
                  obtain ⟨⟨nd, osq⟩, rfl⟩ := hw9
                  have hb9 := below_regrown wy nd osq
                  have HB9 : Hid (Below w.heap.size w (Go.Sort.grow (redrawn wy nd) osq)) := HBy.out.trans (hb9.mono HBy.out.size)
                  generalize Go.Sort.grow (redrawn wy nd) osq = w9 at HB9 ⊢
                  clear hb9
                  go_wp2_with fail
                  go_roundw
                  case rel =>
                    refine ⟨j + 1 + 1, by go_num, by omega, hup.out.step HM.out HUP.out (fun i p e hp => ?_), HB9.out⟩
                    have : i = j := by omega
                    subst this
                    have := hp.symm.trans HM'.out
                    cases this
                    exact of_decide_eq_true HU.out
                  case measure => simp [intOf]; omega
    · have hk' : k = n := by omega
      have HK := Lib.hid hk'
      clear hk'
      go_wp2_with fail
      go_ret
      exact ⟨ret_bool (by
        rw [Bool.eq_iff_iff]
        simp only [decide_eq_true_iff]
        exact ⟨fun q => ⟨by have := HN.out; omega, by rw [← HN.out, ← HK.out]; exact hup.out⟩, fun q => by have := q.1; have := HN.out; omega⟩), hB.out⟩
end Go.Proofs.Ytbdkhgenkekioaa
