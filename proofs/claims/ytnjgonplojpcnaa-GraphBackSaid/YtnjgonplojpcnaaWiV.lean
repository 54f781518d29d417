/- Networks as bytes: are two networks one: the document's, walked. -/
import Derived.Test.YtnjgonplojpcnaaWiK
import Derived.BigQuiet
import Derived.Deep.QuietTactic
namespace Go.Proofs.Ytnjgonplojpcnaa.Ne
open Go.RowKit Go.V Go.Proofs Go.Proofs.Ytnjgonplojpcnaa.Wi

theorem eqIn_stp (x y x2 y2 : Int) (w : World) : (Op.equalIn 10000 99 (.agg #[.int .i64 x, .int .i64 y]) (.agg #[.int .i64 x2, .int .i64 y2])).run Try.prog w = .ok (decide (x = x2 ∧ y = y2)) w := by
  by_cases h1 : x = x2
  · by_cases h2 : y = y2
    · rw [decide_eq_true ⟨h1, h2⟩]
      simp [go_sem, h1, h2]
    · rw [decide_eq_false (fun h => h2 h.2)]
      simp [go_sem, h1, h2]
  · rw [decide_eq_false (fun h => h1 h.1)]
    simp [go_sem, h1]
theorem neq_stp (x y x2 y2 : Int) (w : World) : (binOp .neq 99 (.agg #[.int .i64 x, .int .i64 y]) (.agg #[.int .i64 x2, .int .i64 y2])).run Try.prog w = .ok (.bool (!decide (x = x2 ∧ y = y2))) w := by
  rw [run_neq_struct, eqIn_stp]; rfl
theorem eqIn_lnk (x y z x2 y2 z2 : Int) (w : World) : (Op.equalIn 10000 63 (.agg #[.int .i64 x, .int .i64 y, .int .i64 z]) (.agg #[.int .i64 x2, .int .i64 y2, .int .i64 z2])).run Try.prog w = .ok (decide (x = x2 ∧ y = y2 ∧ z = z2)) w := by
  by_cases h1 : x = x2
  · by_cases h2 : y = y2
    · by_cases h3 : z = z2
      · rw [decide_eq_true ⟨h1, h2, h3⟩]
        simp [go_sem, h1, h2, h3]
      · rw [decide_eq_false (fun h => h3 h.2.2)]
        simp [go_sem, h1, h2, h3]
    · rw [decide_eq_false (fun h => h2 h.2.1)]
      simp [go_sem, h1, h2]
  · rw [decide_eq_false (fun h => h1 h.1)]
    simp [go_sem, h1]
theorem neq_lnk (x y z x2 y2 z2 : Int) (w : World) : (binOp .neq 63 (.agg #[.int .i64 x, .int .i64 y, .int .i64 z]) (.agg #[.int .i64 x2, .int .i64 y2, .int .i64 z2])).run Try.prog w = .ok (.bool (!decide (x = x2 ∧ y = y2 ∧ z = z2))) w := by
  rw [run_neq_struct, eqIn_lnk]; rfl

set_option maxHeartbeats 4000000 in
set_option maxRecDepth 100000 in
theorem nsame_any (n1 n2 : Net) (hs1 hl1 hs2 hl2 : Hdr) (w : World) (h1 : NetIn w n1 hs1 hl1) (h2 : NetIn w n2 hs2 hl2) :
    Calls Try.prog 25 #[n1.val hs1 hl1, n2.val hs2 hl2] w fun e w' => e = .returned (.bool (decide (n1 = n2))) ∧ Below w.heap.size w w' := by
  obtain ⟨s1, k1, sc1⟩ := hs1
  obtain ⟨l1, m1, lc1⟩ := hl1
  obtain ⟨s2, k2, sc2⟩ := hs2
  obtain ⟨l2, m2, lc2⟩ := hl2
  have HH1 := Lib.hid h1
  have HH2 := Lib.hid h2
  have HK1 : Hid (k1 = n1.stops.length) := h1.s.hlen
  have HK2 : Hid (k2 = n2.stops.length) := h2.s.hlen
  have HM1 : Hid (m1 = n1.links.length) := h1.l.hlen
  have HM2 : Hid (m2 = n2.links.length) := h2.l.hlen
  have g1 : k1 ≤ 9223372036854775807 := by have := h1.s.hcap; have := h1.s.hmax; unfold maxLen at this; simp only [] at *; omega
  have g2 : m1 ≤ 9223372036854775807 := by have := h1.l.hcap; have := h1.l.hmax; unfold maxLen at this; simp only [] at *; omega
  clear h1 h2
  have HX1 : Hid (((w.alloc (n1.box ⟨s1, k1, sc1⟩ ⟨l1, m1, lc1⟩)).alloc (n2.box ⟨s2, k2, sc2⟩ ⟨l2, m2, lc2⟩)).heap[w.heap.size]? = some (n1.box ⟨s1, k1, sc1⟩ ⟨l1, m1, lc1⟩)) := box_alloc (box_new w _)
  have HX2 : Hid (((w.alloc (n1.box ⟨s1, k1, sc1⟩ ⟨l1, m1, lc1⟩)).alloc (n2.box ⟨s2, k2, sc2⟩ ⟨l2, m2, lc2⟩)).heap[w.heap.size + 1]? = some (n2.box ⟨s2, k2, sc2⟩ ⟨l2, m2, lc2⟩)) := by
    show _ = _
    have := box_new (w.alloc (n1.box ⟨s1, k1, sc1⟩ ⟨l1, m1, lc1⟩)) (n2.box ⟨s2, k2, sc2⟩ ⟨l2, m2, lc2⟩)
    simpa using this
  have HB0 : Hid (Below w.heap.size w ((w.alloc (n1.box ⟨s1, k1, sc1⟩ ⟨l1, m1, lc1⟩)).alloc (n2.box ⟨s2, k2, sc2⟩ ⟨l2, m2, lc2⟩))) := ((Below.refl _ _).alloc (Nat.le_refl _) _).alloc (by simp) _
  obtain ⟨c0, c1, c2, -, -, -⟩ := box3_cells HX1.out
  obtain ⟨e0, e1, e2, -, -, -⟩ := box3_cells HX2.out
  by_cases hv : n1.ver = n2.ver
  · by_cases hk : k1 = k2
    · by_cases hm : m1 = m2
      · subst hk
        subst hm
        have hd1 : (n1.ver != n2.ver) = false := by rw [bne_eq_false_iff_eq]; exact hv
        have HV := Lib.hid hv
        clear hv
        go_enter Try.func25, Try.ntmps25
        go_upto_region 4 with fail
        clear c0 c1 c2 e0 e1 e2
        go_loopw [5] (fun vi wr => ∃ i : Nat, vi = .int .i64 ((i : Nat) : Int) ∧ i ≤ k1 ∧ Hid (n1.stops.take i = n2.stops.take i) ∧ Hid (wr.heap[w.heap.size]? = some (n1.box ⟨s1, k1, sc1⟩ ⟨l1, m1, lc1⟩)) ∧ Hid (wr.heap[w.heap.size + 1]? = some (n2.box ⟨s2, k1, sc2⟩ ⟨l2, m1, lc2⟩)) ∧ Hid (Below w.heap.size w wr)) (fun vi _ => k1 - (intOf vi).toNat)
        case atStart => exact ⟨0, rfl, by omega, by show _ = _; rw [List.take_zero, List.take_zero], HX1.out, HX2.out, HB0.out⟩
        case round =>
          obtain ⟨i, rfl, hi, HE, HY1, HY2, HB⟩ := hrel
          obtain ⟨c0, c1, c2, -, -, -⟩ := box3_cells HY1.out
          obtain ⟨e0, e1, e2, -, -, -⟩ := box3_cells HY2.out
          by_cases hlt : i < k1
          · have hii : (i : Int) < (k1 : Int) := by omega
            obtain ⟨b, off, r, q1, hbl, hr, t0, t1⟩ := stp_at (HH1.out.below HB.out).s hlt
            replace q1 : s1 = some ⟨b, off, none⟩ := q1
            subst q1
            obtain ⟨b', off', r', q2, hbl', hr', t0', t1'⟩ := stp_at (HH2.out.below HB.out).s hlt
            replace q2 : s2 = some ⟨b', off', none⟩ := q2
            subst q2
            have HR := Lib.hid hr
            have HR' := Lib.hid hr'
            clear hr hr'
            obtain ⟨x, y⟩ := r
            obtain ⟨x', y'⟩ := r'
            simp only [] at t0 t1 t0' t1'
            have hq1 := fun w => eqIn_stp x y x' y' w
            have hq2 := fun w => neq_stp x y x' y' w
            by_cases heq : x = x' ∧ y = y'
            · rw [decide_eq_true heq] at hq1 hq2
              have HQ := Lib.hid heq
              clear heq
              go_wp2_with fail
              go_quiet (fail)
              go_wp2_with fail
              go_roundw
              case rel => exact ⟨i + 1, by go_num, by omega, by show _ = _; rw [take_at HR.out, take_at HR'.out, HE.out, HQ.out.1, HQ.out.2], HY1.out, HY2.out, below_drewN HB.out _⟩
              case measure => simp [intOf]; omega
            · rw [decide_eq_false heq] at hq1 hq2
              have HQ := Lib.hid heq
              clear heq
              go_wp2_with fail
              go_quiet (fail)
              go_wp2_with fail
              go_ret
              exact ⟨ret_bool (by
                symm; rw [decide_eq_false_iff_not]
                intro h; apply HQ.out
                have a1 := HR.out; have a2 := HR'.out
                rw [h, a2] at a1
                have := Option.some.inj a1
                simp only [Stp.mk.injEq] at this
                exact ⟨this.1.symm, this.2.symm⟩), below_drewN HB.out _⟩
          · have hii : ¬ (i : Int) < (k1 : Int) := by omega
            have HSS : Hid (n1.stops = n2.stops) := by
              have e := HE.out
              rw [List.take_of_length_le (by have := HK1.out; omega), List.take_of_length_le (by have := HK2.out; omega)] at e
              exact e
            go_upto_region 9 with fail
            clear c0 c1 c2 e0 e1 e2
            go_loopw [6] (fun vi wr => ∃ i : Nat, vi = .int .i64 ((i : Nat) : Int) ∧ i ≤ m1 ∧ Hid (n1.links.take i = n2.links.take i) ∧ Hid (wr.heap[w.heap.size]? = some (n1.box ⟨s1, k1, sc1⟩ ⟨l1, m1, lc1⟩)) ∧ Hid (wr.heap[w.heap.size + 1]? = some (n2.box ⟨s2, k1, sc2⟩ ⟨l2, m1, lc2⟩)) ∧ Hid (Below w.heap.size w wr)) (fun vi _ => m1 - (intOf vi).toNat)
            case atStart => exact ⟨0, rfl, by omega, by show _ = _; rw [List.take_zero, List.take_zero], HY1.out, HY2.out, HB.out⟩
            case round =>
              obtain ⟨j, rfl, hj, HE, HY1, HY2, HB⟩ := hrel
              obtain ⟨c0, c1, c2, -, -, -⟩ := box3_cells HY1.out
              obtain ⟨e0, e1, e2, -, -, -⟩ := box3_cells HY2.out
              by_cases hlt : j < m1
              · have hjj : (j : Int) < (m1 : Int) := by omega
                obtain ⟨b, off, r, q1, hbl, hr, t0, t1, t2⟩ := lnk_at (HH1.out.below HB.out).l hlt
                replace q1 : l1 = some ⟨b, off, none⟩ := q1
                subst q1
                obtain ⟨b', off', r', q2, hbl', hr', t0', t1', t2'⟩ := lnk_at (HH2.out.below HB.out).l hlt
                replace q2 : l2 = some ⟨b', off', none⟩ := q2
                subst q2
                have HR := Lib.hid hr
                have HR' := Lib.hid hr'
                clear hr hr'
                obtain ⟨x, y, z⟩ := r
                obtain ⟨x', y', z'⟩ := r'
                simp only [] at t0 t1 t2 t0' t1' t2'
                have hq1 := fun w => eqIn_lnk x y z x' y' z' w
                have hq2 := fun w => neq_lnk x y z x' y' z' w
                by_cases heq : x = x' ∧ y = y' ∧ z = z'
                · rw [decide_eq_true heq] at hq1 hq2
                  have HQ := Lib.hid heq
                  clear heq
                  go_wp2_with fail
                  go_quiet (fail)
                  go_wp2_with fail
                  go_roundw
                  case rel => exact ⟨j + 1, by go_num, by omega, by show _ = _; rw [take_at HR.out, take_at HR'.out, HE.out, HQ.out.1, HQ.out.2.1, HQ.out.2.2], HY1.out, HY2.out, below_drewN HB.out _⟩
                  case measure => simp [intOf]; omega
                · rw [decide_eq_false heq] at hq1 hq2
                  have HQ := Lib.hid heq
                  clear heq
                  go_wp2_with fail
                  go_quiet (fail)
                  go_wp2_with fail
                  go_ret
                  exact ⟨ret_bool (by
                    symm; rw [decide_eq_false_iff_not]
                    intro h; apply HQ.out
                    have a1 := HR.out; have a2 := HR'.out
                    rw [h, a2] at a1
                    have := Option.some.inj a1
                    simp only [Lnk.mk.injEq] at this
                    exact ⟨this.1.symm, this.2.1.symm, this.2.2.symm⟩), below_drewN HB.out _⟩
              · have hjj : ¬ (j : Int) < (m1 : Int) := by omega
                have HLL : Hid (n1.links = n2.links) := by
                  have e := HE.out
                  rw [List.take_of_length_le (by have := HM1.out; omega), List.take_of_length_le (by have := HM2.out; omega)] at e
                  exact e
                have HN : Hid (decide (n1 = n2) = true) := by
                  refine decide_eq_true ?_
                  have e1 := HV.out; have e2 := HSS.out; have e3 := HLL.out
                  obtain ⟨a, b, c⟩ := n1
                  obtain ⟨a', b', c'⟩ := n2
                  simp only [] at e1 e2 e3
                  rw [e1, e2, e3]
                go_wp2_with fail
                go_ret
                exact ⟨by rw [HN.out]; rfl, HB.out⟩
      · have HN : Hid (decide (n1 = n2) = false) := decide_eq_false (fun q => hm (by rw [HM1.out, HM2.out, q]))
        have hd1 : (n1.ver != n2.ver) = false := by rw [bne_eq_false_iff_eq]; exact hv
        have hd2 : ((k1 : Int) != (k2 : Int)) = false := by rw [bne_eq_false_iff_eq]; omega
        have hd3 : ((m1 : Int) != (m2 : Int)) = true := by rw [bne_iff_ne]; omega
        clear hv hk hm
        go_enter Try.func25, Try.ntmps25
        go_wp2_with fail
        go_ret
        exact ⟨by rw [HN.out]; rfl, HB0.out⟩
    · have HN : Hid (decide (n1 = n2) = false) := decide_eq_false (fun q => hk (by rw [HK1.out, HK2.out, q]))
      have hd1 : (n1.ver != n2.ver) = false := by rw [bne_eq_false_iff_eq]; exact hv
      have hd2 : ((k1 : Int) != (k2 : Int)) = true := by rw [bne_iff_ne]; omega
      clear hv hk
      go_enter Try.func25, Try.ntmps25
      go_wp2_with fail
      go_ret
      exact ⟨by rw [HN.out]; rfl, HB0.out⟩
  · have HN : Hid (decide (n1 = n2) = false) := decide_eq_false (fun q => hv (by rw [q]))
    have hd1 : (n1.ver != n2.ver) = true := by rw [bne_iff_ne]; exact hv
    clear hv
    go_enter Try.func25, Try.ntmps25
    go_wp2_with fail
    go_ret
    exact ⟨by rw [HN.out]; rfl, HB0.out⟩
end Go.Proofs.Ytnjgonplojpcnaa.Ne
