/- Tariffs compared: ref32.SameTariff at one tariff, walked. -/
import Derived.Test.YtbdkhgenkekioaaPbP
import Derived.Test.YtbdkhgenkekioaaFaF
import Derived.BigQuiet
import Derived.Deep.QuietTactic
namespace Go.Proofs.Ytbdkhgenkekioaa.Pb
open Go.RowKit Go.V Go.Proofs Go.Sort Go.Proofs.Ytbdkhgenkekioaa.Wi
open Go.Proofs.Ytbdkhgenkekioaa.Ne (box_alloc box_new box_cell box_below box_lt)

theorem neq_pairB (x y : Int) (w : World) : (binOp .neq 112 (.agg #[.int .i64 x, .int .i64 y]) (.agg #[.int .i64 x, .int .i64 y])).run Try.prog w = .ok (.bool false) w := by
  have h : (Op.equalIn 10000 112 (.agg #[.int .i64 x, .int .i64 y]) (.agg #[.int .i64 x, .int .i64 y])).run Try.prog w = .ok true w := by simp [go_sem]
  rw [run_neq_struct, h]; rfl
theorem neq_pairR (x y : Int) (w : World) : (binOp .neq 114 (.agg #[.int .i64 x, .int .i64 y]) (.agg #[.int .i64 x, .int .i64 y])).run Try.prog w = .ok (.bool false) w := by
  have h : (Op.equalIn 10000 114 (.agg #[.int .i64 x, .int .i64 y]) (.agg #[.int .i64 x, .int .i64 y])).run Try.prog w = .ok true w := by simp [go_sem]
  rw [run_neq_struct, h]; rfl

set_option maxHeartbeats 8000000 in
set_option maxRecDepth 100000 in
theorem tsame_eq (t : Tar) (hb hs hr hb' hs' hr' : Hdr) (w : World) (hm : hb.n ≤ 1000000 ∧ hs.n ≤ 1000000 ∧ hr.n ≤ 1000000) (h : TarIn w t hb hs hr) (h' : TarIn w t hb' hs' hr') :
    Calls Try.prog 33 #[t.val hb hs hr, t.val hb' hs' hr'] w fun e w' => e = .returned (.bool true) ∧ Below w.heap.size w w' := by
  have mixed : Try.prog.follows .mixedOrders = true := by kernel_rfl
  obtain ⟨ba, bn, bc⟩ := hb
  obtain ⟨sa, sn, sc⟩ := hs
  obtain ⟨ra, rn, rc⟩ := hr
  obtain ⟨ba2, bn2, bc2⟩ := hb'
  obtain ⟨sa2, sn2, sc2⟩ := hs'
  obtain ⟨ra2, rn2, rc2⟩ := hr'
  have e1 : bn2 = bn := h'.b.hlen.trans h.b.hlen.symm
  have e2 : sn2 = sn := h'.s.hlen.trans h.s.hlen.symm
  have e3 : rn2 = rn := h'.r.hlen.trans h.r.hlen.symm
  subst e1
  subst e2
  subst e3
  obtain ⟨hb6, hs6, hr6⟩ := hm
  have hb6 : bn2 ≤ 1000000 := hb6
  have hs6 : sn2 ≤ 1000000 := hs6
  have hr6 : rn2 ≤ 1000000 := hr6
  have HH := Lib.hid h
  have HH2 := Lib.hid h'
  clear h h'
  have HB0 : Hid (Below w.heap.size w ((w.alloc (.cells #[.int .i64 t.ver, .slice ba bn2 bc, .int .i64 t.over, .int .i64 t.full, .slice sa sn2 sc, .int .i64 t.unit, .int .i64 t.window, .int .i64 t.chain, .slice ra rn2 rc] 61)).alloc (.cells #[.int .i64 t.ver, .slice ba2 bn2 bc2, .int .i64 t.over, .int .i64 t.full, .slice sa2 sn2 sc2, .int .i64 t.unit, .int .i64 t.window, .int .i64 t.chain, .slice ra2 rn2 rc2] 61))) := ((Below.refl _ _).alloc (Nat.le_refl _) _).alloc (by simp) _
  have HX1 : Hid (TarBox 61 ((w.alloc (.cells #[.int .i64 t.ver, .slice ba bn2 bc, .int .i64 t.over, .int .i64 t.full, .slice sa sn2 sc, .int .i64 t.unit, .int .i64 t.window, .int .i64 t.chain, .slice ra rn2 rc] 61)).alloc (.cells #[.int .i64 t.ver, .slice ba2 bn2 bc2, .int .i64 t.over, .int .i64 t.full, .slice sa2 sn2 sc2, .int .i64 t.unit, .int .i64 t.window, .int .i64 t.chain, .slice ra2 rn2 rc2] 61)) w.heap.size t ⟨ba, bn2, bc⟩ ⟨sa, sn2, sc⟩ ⟨ra, rn2, rc⟩) := box_alloc (box_new w _)
  have HX2 : Hid (TarBox 61 ((w.alloc (.cells #[.int .i64 t.ver, .slice ba bn2 bc, .int .i64 t.over, .int .i64 t.full, .slice sa sn2 sc, .int .i64 t.unit, .int .i64 t.window, .int .i64 t.chain, .slice ra rn2 rc] 61)).alloc (.cells #[.int .i64 t.ver, .slice ba2 bn2 bc2, .int .i64 t.over, .int .i64 t.full, .slice sa2 sn2 sc2, .int .i64 t.unit, .int .i64 t.window, .int .i64 t.chain, .slice ra2 rn2 rc2] 61)) (w.heap.size + 1) t ⟨ba2, bn2, bc2⟩ ⟨sa2, sn2, sc2⟩ ⟨ra2, rn2, rc2⟩) := by
    have := box_new (w.alloc (.cells #[.int .i64 t.ver, .slice ba bn2 bc, .int .i64 t.over, .int .i64 t.full, .slice sa sn2 sc, .int .i64 t.unit, .int .i64 t.window, .int .i64 t.chain, .slice ra rn2 rc] 61)) (.cells #[.int .i64 t.ver, .slice ba2 bn2 bc2, .int .i64 t.over, .int .i64 t.full, .slice sa2 sn2 sc2, .int .i64 t.unit, .int .i64 t.window, .int .i64 t.chain, .slice ra2 rn2 rc2] 61)
    show TarBox _ _ _ _ _ _ _
    unfold TarBox
    simpa using this
  obtain ⟨W, hW⟩ : ∃ W, (w.alloc (.cells #[.int .i64 t.ver, .slice ba bn2 bc, .int .i64 t.over, .int .i64 t.full, .slice sa sn2 sc, .int .i64 t.unit, .int .i64 t.window, .int .i64 t.chain, .slice ra rn2 rc] 61)).alloc (.cells #[.int .i64 t.ver, .slice ba2 bn2 bc2, .int .i64 t.over, .int .i64 t.full, .slice sa2 sn2 sc2, .int .i64 t.unit, .int .i64 t.window, .int .i64 t.chain, .slice ra2 rn2 rc2] 61) = W := ⟨_, rfl⟩
  rw [hW] at HB0 HX1 HX2
  have HW := Lib.hid hW
  clear hW
  unfold Tar.val
  go_enter Try.func33, Try.ntmps33
  go_upto_region 1 with fail
  rw [HW.out]
  obtain ⟨-, c0, c1, c2, c3, c4, c5, c6, c7, c8⟩ := TarBox.cells HX1.out
  obtain ⟨-, d0, d1, d2, d3, d4, d5, d6, d7, d8⟩ := TarBox.cells HX2.out
  go_upto_region 6 with fail
  clear c0 c1 c2 c3 c4 c5 c6 c7 c8 d0 d1 d2 d3 d4 d5 d6 d7 d8 HW
  go_loopw [5] (fun vi wr => ∃ i : Nat, vi = .int .i64 ((i : Nat) : Int) ∧ i ≤ bn2 ∧ Hid (Below W.heap.size W wr)) (fun vi _ => bn2 - (intOf vi).toNat)
  case atStart => exact ⟨0, rfl, Nat.zero_le _, Below.refl _ _⟩
  case round =>
    obtain ⟨i, rfl, hi, HBIi⟩ := hrel
    obtain ⟨-, -, c1, -, -, -, -, -, -, -⟩ := TarBox.cells (HX1.out.below HBIi.out)
    obtain ⟨-, -, d1, -, -, -, -, -, -, -⟩ := TarBox.cells (HX2.out.below HBIi.out)
    by_cases hlt : i < bn2
    · have hii : (i : Int) < (bn2 : Int) := by omega
      obtain ⟨b, off, r, e1, hbl, hr, s0, s1⟩ := pair_at ((HH.out.below HB0.out).b.below HBIi.out) hlt
      replace e1 : ba = some ⟨b, off, none⟩ := e1
      subst e1
      obtain ⟨b', off', r', e1, hbl', hr', s0', s1'⟩ := pair_at ((HH2.out.below HB0.out).b.below HBIi.out) hlt
      replace e1 : ba2 = some ⟨b', off', none⟩ := e1
      subst e1
      obtain rfl := Option.some.inj (hr.symm.trans hr')
      obtain ⟨rx, ry⟩ := r
      simp only [] at s0 s1 s0' s1'
      have hne := neq_pairB rx ry
      clear hr hr'
      go_upto_region 8 with fail
      go_quiet (fail)
      go_wp2_with fail
      go_roundw
      case rel => exact ⟨i + 1, by go_num, by omega, Below.trans HBIi.out (Go.Proofs.Ytbdkhgenkekioaa.Ne.below_drewN (Below.refl _ _) _)⟩
      case measure => simp [intOf]; omega
    · have hie : bn2 = i := by omega
      subst hie
      have hii : ¬ (bn2 : Int) < (bn2 : Int) := by omega
      go_upto_region 11 with fail
      clear c1 d1
      have HB0' := Lib.hid (HBIi.out)
      go_loopw [6] (fun vi wr => ∃ j : Nat, vi = .int .i64 ((j : Nat) : Int) ∧ j ≤ sn2 ∧ Hid (Below W.heap.size W wr)) (fun vi _ => sn2 - (intOf vi).toNat)
      case atStart => exact ⟨0, rfl, Nat.zero_le _, HB0'.out⟩
      case round =>
        obtain ⟨j, rfl, hj, HBIj⟩ := hrel
        obtain ⟨-, -, -, -, -, c4, -, -, -, -⟩ := TarBox.cells (HX1.out.below HBIj.out)
        obtain ⟨-, -, -, -, -, d4, -, -, -, -⟩ := TarBox.cells (HX2.out.below HBIj.out)
        by_cases hlt : j < sn2
        · have hii : (j : Int) < (sn2 : Int) := by omega
          obtain ⟨b, off, r, e1, hbl, hr, s0⟩ := int_at ((HH.out.below HB0.out).s.below HBIj.out) hlt
          replace e1 : sa = some ⟨b, off, none⟩ := e1
          subst e1
          obtain ⟨b', off', r', e1, hbl', hr', s0'⟩ := int_at ((HH2.out.below HB0.out).s.below HBIj.out) hlt
          replace e1 : sa2 = some ⟨b', off', none⟩ := e1
          subst e1
          obtain rfl := Option.some.inj (hr.symm.trans hr')
          clear hr hr'
          go_upto_region 13 with fail
          go_quiet (fail)
          go_wp2_with fail
          go_roundw
          case rel => exact ⟨j + 1, by go_num, by omega, Below.trans HBIj.out (Go.Proofs.Ytbdkhgenkekioaa.Ne.below_drewN (Below.refl _ _) _)⟩
          case measure => simp [intOf]; omega
        · have hie : sn2 = j := by omega
          subst hie
          have hii : ¬ (sn2 : Int) < (sn2 : Int) := by omega
          go_upto_region 16 with fail
          clear c4 d4
          have HB1' := Lib.hid (HBIj.out)
          go_loopw [7] (fun vi wr => ∃ q : Nat, vi = .int .i64 ((q : Nat) : Int) ∧ q ≤ rn2 ∧ Hid (Below W.heap.size W wr)) (fun vi _ => rn2 - (intOf vi).toNat)
          case atStart => exact ⟨0, rfl, Nat.zero_le _, HB1'.out⟩
          case round =>
            obtain ⟨q, rfl, hq, HBIq⟩ := hrel
            obtain ⟨-, -, -, -, -, -, -, -, -, c8⟩ := TarBox.cells (HX1.out.below HBIq.out)
            obtain ⟨-, -, -, -, -, -, -, -, -, d8⟩ := TarBox.cells (HX2.out.below HBIq.out)
            by_cases hlt : q < rn2
            · have hii : (q : Int) < (rn2 : Int) := by omega
              obtain ⟨b, off, r, e1, hbl, hr, s0, s1⟩ := pair_at ((HH.out.below HB0.out).r.below HBIq.out) hlt
              replace e1 : ra = some ⟨b, off, none⟩ := e1
              subst e1
              obtain ⟨b', off', r', e1, hbl', hr', s0', s1'⟩ := pair_at ((HH2.out.below HB0.out).r.below HBIq.out) hlt
              replace e1 : ra2 = some ⟨b', off', none⟩ := e1
              subst e1
              obtain rfl := Option.some.inj (hr.symm.trans hr')
              obtain ⟨rx, ry⟩ := r
              simp only [] at s0 s1 s0' s1'
              have hne := neq_pairR rx ry
              clear hr hr'
              go_upto_region 18 with fail
              go_quiet (fail)
              go_wp2_with fail
              go_roundw
              case rel => exact ⟨q + 1, by go_num, by omega, Below.trans HBIq.out (Go.Proofs.Ytbdkhgenkekioaa.Ne.below_drewN (Below.refl _ _) _)⟩
              case measure => simp [intOf]; omega
            · have hie : rn2 = q := by omega
              subst hie
              have hii : ¬ (rn2 : Int) < (rn2 : Int) := by omega
              go_wp2_with fail
              go_ret
              exact ⟨rfl, HB0.out.trans (HBIq.out.mono HB0.out.size)⟩
end Go.Proofs.Ytbdkhgenkekioaa.Pb
