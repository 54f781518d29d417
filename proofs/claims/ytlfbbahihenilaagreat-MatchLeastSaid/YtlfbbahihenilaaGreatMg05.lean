/- Ways: sameness; which rules may be; legs that follow each other: walked. -/
/- Ways: runs that rise; where the way leaves: walked. -/
/- An append to a row of the call's own, as a step of a region that draws; rows made shorter; what is kept beside. -/
/- Grids: maps with struct keys: 'm[k] = append(m[k], x)': the entry and its store; a cell as a key. -/
import Derived.Test.YtlfbbahihenilaaGreatMg03
import Derived.Test.YtlfbbahihenilaaGreatMg04
import Derived.Deep.RegionHeld3
import Derived.ScopeJumps
import Derived.BigQuiet
import Derived.Deep.QuietTactic
import Derived.Test.YtlfbbahihenilaaGreatMg00
import Derived.Deep.RegionLaw
import Derived.Maps.OwnSet
import Derived.Maps.OwnOps
import Derived.WideKeyEntry
import Derived.DeepKeys4
namespace Go.Proofs.YtlfbbahihenilaaGreat.Ne
open Go.RowKit Go.V Go.Proofs

set_option maxHeartbeats 2000000 in
theorem rnsame_true (a1 : Option Addr) (n1 cap1 : Nat) (xs : List Rn) (a2 : Option Addr) (cap2 : Nat) (w : World) (h1 : Sl Rn.cod w a1 n1 cap1 xs) (h2 : Sl Rn.cod w a2 n1 cap2 xs) :
    Calls Tryz.prog 33 #[.slice a1 n1 cap1, .slice a2 n1 cap2] w fun e w' => e = .returned (.bool true) ∧ Below w.heap.size w w' := by
  have hm : n1 ≤ 9223372036854775807 := by have := h1.hcap; have := h1.hmax; unfold maxLen at this; omega
  have H1 := Lib.hid h1
  have H2 := Lib.hid h2
  clear h1 h2
  go_enter Tryz.func33, Tryz.ntmps33
  go_wp2
  go_loopw [5] (fun i wr => ∃ (k : Nat), k ≤ n1 ∧ i = .int .i64 k ∧ Hid (Below w.heap.size w wr)) (fun i _ => n1 - (intOf i).toNat)
  case atStart => exact ⟨0, by omega, rfl, Below.refl _ _⟩
  case round =>
    obtain ⟨k, hk, rfl, hb⟩ := hrel
    by_cases hlt : k < n1
    · obtain ⟨b, off, ⟨x0, x1, x2⟩, rfl, -, hr, c0, c1, c2⟩ := rn_at (H1.out.below hb.out) hlt
      obtain ⟨b', off', r', rfl, -, hr', d0, d1, d2⟩ := rn_at (H2.out.below hb.out) hlt
      rw [hr] at hr'
      cases hr'
      simp only [] at c0 c1 c2 d0 d1 d2
      have hltz : (k : Int) < n1 := by omega
      clear hr
      go_wp2_with fail
      go_region_held3 (fun w' => w'.cell? ⟨b, off + k * 3, none⟩ = some (.int .i64 x0) ∧ w'.cell? ⟨b, off + k * 3 + 1, none⟩ = some (.int .i64 x1) ∧ w'.cell? ⟨b, off + k * 3 + 2, none⟩ = some (.int .i64 x2) ∧ w'.cell? ⟨b', off' + k * 3, none⟩ = some (.int .i64 x0) ∧ w'.cell? ⟨b', off' + k * 3 + 1, none⟩ = some (.int .i64 x1) ∧ w'.cell? ⟨b', off' + k * 3 + 2, none⟩ = some (.int .i64 x2)) (go_keep) (fail)
      all_goals
        go_wp2_with fail
        go_roundw
        case rel => exact ⟨k + 1, by omega, by go_num, Below.drew hb.out⟩
        case measure => simp [intOf]; omega
    · have hkn : k = n1 := by omega
      subst hkn
      go_wp2
      go_ret
      exact ⟨rfl, hb.out⟩
set_option maxHeartbeats 2000000 in
theorem lgsame_true (a1 : Option Addr) (n1 cap1 : Nat) (xs : List Lg) (a2 : Option Addr) (cap2 : Nat) (w : World) (h1 : Sl Lg.cod w a1 n1 cap1 xs) (h2 : Sl Lg.cod w a2 n1 cap2 xs) :
    Calls Tryz.prog 34 #[.slice a1 n1 cap1, .slice a2 n1 cap2] w fun e w' => e = .returned (.bool true) ∧ Below w.heap.size w w' := by
  have hm : n1 ≤ 9223372036854775807 := by have := h1.hcap; have := h1.hmax; unfold maxLen at this; omega
  have H1 := Lib.hid h1
  have H2 := Lib.hid h2
  clear h1 h2
  go_enter Tryz.func34, Tryz.ntmps34
  go_wp2
  go_loopw [5] (fun i wr => ∃ (k : Nat), k ≤ n1 ∧ i = .int .i64 k ∧ Hid (Below w.heap.size w wr)) (fun i _ => n1 - (intOf i).toNat)
  case atStart => exact ⟨0, by omega, rfl, Below.refl _ _⟩
  case round =>
    obtain ⟨k, hk, rfl, hb⟩ := hrel
    by_cases hlt : k < n1
    · obtain ⟨b, off, ⟨x0, x1, x2, x3⟩, rfl, -, hr, c0, c1, c2, c3⟩ := lg_at (H1.out.below hb.out) hlt
      obtain ⟨b', off', r', rfl, -, hr', d0, d1, d2, d3⟩ := lg_at (H2.out.below hb.out) hlt
      rw [hr] at hr'
      cases hr'
      simp only [] at c0 c1 c2 c3 d0 d1 d2 d3
      have hltz : (k : Int) < n1 := by omega
      clear hr
      go_wp2_with fail
      go_region_held3 (fun w' => w'.cell? ⟨b, off + k * 4, none⟩ = some (.int .i64 x0) ∧ w'.cell? ⟨b, off + k * 4 + 1, none⟩ = some (.int .i64 x1) ∧ w'.cell? ⟨b, off + k * 4 + 2, none⟩ = some (.int .i64 x2) ∧ w'.cell? ⟨b, off + k * 4 + 3, none⟩ = some (.int .i64 x3) ∧ w'.cell? ⟨b', off' + k * 4, none⟩ = some (.int .i64 x0) ∧ w'.cell? ⟨b', off' + k * 4 + 1, none⟩ = some (.int .i64 x1) ∧ w'.cell? ⟨b', off' + k * 4 + 2, none⟩ = some (.int .i64 x2) ∧ w'.cell? ⟨b', off' + k * 4 + 3, none⟩ = some (.int .i64 x3)) (go_keep) (fail)
      all_goals
        go_wp2_with fail
        go_roundw
        case rel => exact ⟨k + 1, by omega, by go_num, Below.drew hb.out⟩
        case measure => simp [intOf]; omega
    · have hkn : k = n1 := by omega
      subst hkn
      go_wp2
      go_ret
      exact ⟨rfl, hb.out⟩

/-- Rules. -/
structure Rul where
  f : Flt
  x : Wgh
  stay : Int
abbrev Rul.val (r : Rul) : Value := .agg #[.int .i64 r.f.speed, .int .i64 r.f.gap, .int .i64 r.x.reach, .int .i64 r.x.most, .int .i64 r.x.factor, .int .i64 r.x.change, .int .i64 r.stay]
abbrev Rul.box (r : Rul) : Obj := .cells #[.int .i64 r.f.speed, .int .i64 r.f.gap, .int .i64 r.x.reach, .int .i64 r.x.most, .int .i64 r.x.factor, .int .i64 r.x.change, .int .i64 r.stay] 31
def mayR (r : Rul) : Bool := mayF r.f && mayW r.x && wB r.stay 0 1099511627776
theorem box7_cells {w : World} {g : Nat} {e : TypeId} {u0 u1 u2 u3 u4 u5 u6 : Value} (h : w.heap[g]? = some (.cells #[u0, u1, u2, u3, u4, u5, u6] e (0, 0))) : w.cell? ⟨g, 0, none⟩ = some u0 ∧ w.cell? ⟨g, 1, none⟩ = some u1 ∧ w.cell? ⟨g, 2, none⟩ = some u2 ∧ w.cell? ⟨g, 3, none⟩ = some u3 ∧ w.cell? ⟨g, 4, none⟩ = some u4 ∧ w.cell? ⟨g, 5, none⟩ = some u5 ∧ w.cell? ⟨g, 6, none⟩ = some u6 :=
  ⟨(box_cell h 0).1, (box_cell h 1).1, (box_cell h 2).1, (box_cell h 3).1, (box_cell h 4).1, (box_cell h 5).1, (box_cell h 6).1⟩
set_option maxHeartbeats 4000000 in
set_option maxRecDepth 100000 in
theorem mtmay_any (r : Rul) (w : World) : Calls Tryz.prog 10 #[r.val] w fun e w' => e = .returned (.bool (mayR r)) ∧ Below w.heap.size w w' := by
  obtain ⟨⟨sp, gp⟩, ⟨xr, xm, xf, xc⟩, st⟩ := r
  have HX := Lib.hid (box_new w (Rul.mk ⟨sp, gp⟩ ⟨xr, xm, xf, xc⟩ st).box)
  have HB : Hid (Below w.heap.size w (w.alloc (Rul.mk ⟨sp, gp⟩ ⟨xr, xm, xf, xc⟩ st).box)) := (Below.refl _ _).alloc (Nat.le_refl _) _
  obtain ⟨c0, c1, c2, c3, c4, c5, c6⟩ := box7_cells HX.out
  obtain ⟨b1, e1⟩ : ∃ b, mayF ⟨sp, gp⟩ = b := ⟨_, rfl⟩
  obtain ⟨b2, e2⟩ : ∃ b, mayW ⟨xr, xm, xf, xc⟩ = b := ⟨_, rfl⟩
  have HM : Hid (mayR ⟨⟨sp, gp⟩, ⟨xr, xm, xf, xc⟩, st⟩ = (b1 && b2 && wB st 0 1099511627776)) := by show _ = _; unfold mayR; simp only []; rw [e1, e2]
  have E1 := Lib.hid e1
  have E2 := Lib.hid e2
  clear e1 e2
  cases b1 <;> cases b2 <;> by_cases h1 : 0 ≤ st
  all_goals
    go_enter Tryz.func10, Tryz.ntmps10
    go_wp2_with (first
      | (go_at_call 28; go_fit (fmay_any ⟨sp, gp⟩ _); rintro e w1 ⟨rfl, hb1⟩; rw [E1.out]; have HX1 := Lib.hid (box_below HX.out hb1); obtain ⟨c0, c1, c2, c3, c4, c5, c6⟩ := box7_cells HX1.out; have HB1 := Lib.hid (HB.out.trans (hb1.mono HB.out.size)); clear hb1)
      | (go_at_call 29; go_fit (cmay_any ⟨xr, xm, xf, xc⟩ _); rintro e w2 ⟨rfl, hb2⟩; rw [E2.out]; have HX2 := Lib.hid (box_below HX1.out hb2); obtain ⟨c0, c1, c2, c3, c4, c5, c6⟩ := box7_cells HX2.out; have HB2 := Lib.hid (HB1.out.trans (hb2.mono HB1.out.size)); clear hb2))
    go_ret
    refine ⟨?_, ?_⟩
    · rw [HM.out]
      exact ret_bool (by unfold wB; rw [Bool.eq_iff_iff]; simp [*] <;> omega)
    · first | exact HB2.out | exact HB1.out
set_option maxHeartbeats 4000000 in
set_option maxRecDepth 100000 in
theorem rmtmay_any (r : Rul) (w : World) : Calls Tryz.prog 11 #[r.val] w fun e w' => e = .returned (.bool (mayR r)) ∧ Below w.heap.size w w' := by
  obtain ⟨⟨sp, gp⟩, ⟨xr, xm, xf, xc⟩, st⟩ := r
  have HX := Lib.hid (box_new w (Rul.mk ⟨sp, gp⟩ ⟨xr, xm, xf, xc⟩ st).box)
  have HB : Hid (Below w.heap.size w (w.alloc (Rul.mk ⟨sp, gp⟩ ⟨xr, xm, xf, xc⟩ st).box)) := (Below.refl _ _).alloc (Nat.le_refl _) _
  obtain ⟨c0, c1, c2, c3, c4, c5, c6⟩ := box7_cells HX.out
  obtain ⟨b1, e1⟩ : ∃ b, mayF ⟨sp, gp⟩ = b := ⟨_, rfl⟩
  obtain ⟨b2, e2⟩ : ∃ b, mayW ⟨xr, xm, xf, xc⟩ = b := ⟨_, rfl⟩
  have HM : Hid (mayR ⟨⟨sp, gp⟩, ⟨xr, xm, xf, xc⟩, st⟩ = (b1 && b2 && wB st 0 1099511627776)) := by show _ = _; unfold mayR; simp only []; rw [e1, e2]
  have E1 := Lib.hid e1
  have E2 := Lib.hid e2
  clear e1 e2
  cases b1 <;> cases b2 <;> by_cases h1 : 0 ≤ st
  all_goals
    go_enter Tryz.func11, Tryz.ntmps11
    go_wp2_with (first
      | (go_at_call 30; go_fit (rfmay_any ⟨sp, gp⟩ _); rintro e w1 ⟨rfl, hb1⟩; rw [E1.out]; have HX1 := Lib.hid (box_below HX.out hb1); obtain ⟨c0, c1, c2, c3, c4, c5, c6⟩ := box7_cells HX1.out; have HB1 := Lib.hid (HB.out.trans (hb1.mono HB.out.size)); clear hb1)
      | (go_at_call 31; go_fit (rcmay_any ⟨xr, xm, xf, xc⟩ _); rintro e w2 ⟨rfl, hb2⟩; rw [E2.out]; have HX2 := Lib.hid (box_below HX1.out hb2); obtain ⟨c0, c1, c2, c3, c4, c5, c6⟩ := box7_cells HX2.out; have HB2 := Lib.hid (HB1.out.trans (hb2.mono HB1.out.size)); clear hb2))
    go_ret
    refine ⟨?_, ?_⟩
    · rw [HM.out]
      exact ret_bool (by unfold wB; rw [Bool.eq_iff_iff]; simp [*] <;> omega)
    · first | exact HB2.out | exact HB1.out
end Go.Proofs.YtlfbbahihenilaaGreat.Ne

namespace Go.Proofs.YtlfbbahihenilaaGreat.Ne
open Go.RowKit Go.V Go.Proofs

set_option maxHeartbeats 4000000 in
set_option maxRecDepth 100000 in
theorem dright_any (a : Option Addr) (n cap : Nat) (R : List Rn) (w : World) (h : Sl Rn.cod w a n cap R) (hr : RunsOk R) :
    Calls Tryz.prog 76 #[.slice a n cap] w fun e w' => e = .returned (.bool true) ∧ Below w.heap.size w w' := by
  have hm : n ≤ 9223372036854775807 := by have := h.hcap; have := h.hmax; unfold maxLen at this; omega
  have HS := Lib.hid h
  have HR := Lib.hid hr
  have mixed : Tryz.prog.follows .mixedOrders = true := by kernel_rfl
  clear h hr
  go_enter Tryz.func76, Tryz.ntmps76
  go_wp2_with fail
  go_loopw [7] (fun i wr => ∃ (j : Nat), j ≤ n ∧ i = .int .i64 j ∧ Hid (Below w.heap.size w wr)) (fun i _ => n - (intOf i).toNat)
  case atStart => exact ⟨0, by omega, rfl, Below.refl _ _⟩
  case round =>
    obtain ⟨j, hj, rfl, hb⟩ := hrel
    by_cases hlt : j < n
    · have hltz : (j : Int) < (n : Int) := by omega
      obtain ⟨ib, io, ⟨fs, ff, ft⟩, rfl, hib, hf, c0, c1, c2⟩ := rn_at (HS.out.below hb.out) hlt
      obtain ⟨a1, a2, a3, -, -⟩ := HR.out.each _ (List.mem_of_getElem? hf)
      simp only [] at a1 a2 a3
      have ha1 : decide (ff < 0) = false := decide_eq_false (by omega)
      have ha2 : decide (ft < ff) = false := decide_eq_false (by omega)
      have ha3 : decide (1099511627776 < ft) = false := decide_eq_false (by omega)
      have hba : Below wr.heap.size wr (wr.alloc (.cells #[.int .i64 fs, .int .i64 ff, .int .i64 ft] 57)) := (Below.refl _ _).alloc (Nat.le_refl _) _
      have hb9 : Hid (Below w.heap.size w (wr.alloc (.cells #[.int .i64 fs, .int .i64 ff, .int .i64 ft] 57))) := hb.out.trans (hba.mono hb.out.size)
      have HT9 := Lib.hid (box_new wr (.cells #[.int .i64 fs, .int .i64 ff, .int .i64 ft] 57))
      obtain ⟨t0, t1, t2, -, -, -⟩ := box3_cells HT9.out
      have T0 := cell_regrown t0
      have T1 := cell_regrown t1
      have T2 := cell_regrown t2
      have HF := Lib.hid hf
      clear a1 a2 a3 hf
      cases j with
      | zero =>
        simp only [Nat.zero_mul, Nat.add_zero] at c0 c1 c2
        go_upto_region 6 with fail
        refine wp_region_quiet_below (by assumption) (by kernel_rfl) ?_
        repeat (go_big_quiet_step (fail))
        refine wpQuiet_nil ?_
        intro w9 hw9
        obtain ⟨⟨nd, osq⟩, rfl⟩ := hw9
        have HB9 : Hid (Below w.heap.size w (Go.Sort.grow (redrawn (wr.alloc (.cells #[.int .i64 fs, .int .i64 ff, .int .i64 ft] 57)) nd) osq)) := hb9.out.trans ((below_regrown _ nd osq).mono hb9.out.size)
        clear T0 T1 T2 t0 t1 t2
        generalize Go.Sort.grow (redrawn (wr.alloc (.cells #[.int .i64 fs, .int .i64 ff, .int .i64 ft] 57)) nd) osq = w9 at HB9 ⊢
        go_wp2_with fail
        go_roundw
        case rel => exact ⟨0 + 1, by omega, by go_num, HB9.out⟩
        case measure => simp [intOf]; omega
      | succ i =>
        obtain ⟨b', off', ⟨gs, gf, gt⟩, hba', -, hg, g0, g1, g2⟩ := rn_at (HS.out.below hb9.out) (i := i) (by omega)
        cases hba'
        have G0 := cell_regrown g0
        have G2 := cell_regrown g2
        obtain ⟨o1, o2⟩ := HR.out.rise _ _ _ hg HF.out
        simp only [] at o1 o2
        have r1 : IntKind.i64.wrap ((↑(i + 1) : Int) - 1) = (i : Int) := by rw [IntKind.wrap_i64]; omega
        have b2 : (i : Int) < (n : Int) := by omega
        have b3 : (0 : Int) < (↑(i + 1) : Int) := by omega
        have ho1 : decide (ff ≤ gt) = false := decide_eq_false (by omega)
        have ho2 : (fs == gs) = false := by simp; exact fun e => o2 e.symm
        clear hg g0 g1 g2 o1 o2
        go_upto_region 6 with fail
        refine wp_region_quiet_below (by assumption) (by kernel_rfl) ?_
        repeat (go_big_quiet_step (fail))
        refine wpQuiet_nil ?_
        intro w9 hw9
        obtain ⟨⟨nd, osq⟩, rfl⟩ := hw9
        have HB9 : Hid (Below w.heap.size w (Go.Sort.grow (redrawn (wr.alloc (.cells #[.int .i64 fs, .int .i64 ff, .int .i64 ft] 57)) nd) osq)) := hb9.out.trans ((below_regrown _ nd osq).mono hb9.out.size)
        clear T0 T1 T2 t0 t1 t2 G0 G2
        generalize Go.Sort.grow (redrawn (wr.alloc (.cells #[.int .i64 fs, .int .i64 ff, .int .i64 ft] 57)) nd) osq = w9 at HB9 ⊢
        go_wp2_with fail
        go_roundw
        case rel => exact ⟨i + 1 + 1, by omega, by go_num, HB9.out⟩
        case measure => simp [intOf]; omega
    · go_wp2_with fail
      go_ret
      exact ⟨rfl, hb.out⟩
theorem mt_scope {P : Program} {a : Act} {w : World} {Q : Exit → Act → World → Prop} {c rest : Code} (l : Nat) (J : Act → World → Prop) (μ : Act → World → Nat) (hf : findLabel c l = some (Code.skip.seq rest))
    (first : (∀ a w, J a w → rest.wp P (Exit.jump l J Q) a w) → c.wp P (Exit.jump l J Q) a w)
    (pass : ∀ a w, J a w → rest.wp P (Exit.jump l (fun a' w' => J a' w' ∧ μ a' w' < μ a w) Q) a w) : (Code.scope c).wp P Q a w :=
  wp_scope_jumps l J μ hf (first fun a w h => Code.wp_mono (fun e a' w' hq => by
    cases e <;> first | exact ⟨hq.1, hq.2.1⟩ | exact hq) (pass a w h)) (fun a w h => wp_seq (wp_skip (pass a w h)))

theorem chkGo_at (least : Int) {R : List Rn} {k : Nat} {r : Rn} (h : R[k]? = some r) : chkGo least (R.drop k) k = if least ≤ r.til - r.frm then k else chkGo least (R.drop (k + 1)) (k + 1) := by
  obtain ⟨hl, e⟩ := List.getElem?_eq_some_iff.1 h
  rw [List.drop_eq_getElem_cons hl, e]
  rfl
set_option maxHeartbeats 4000000 in
set_option maxRecDepth 100000 in
theorem dcheck_any (a : Option Addr) (n cap : Nat) (R : List Rn) (least : Int) (w : World) (h : Sl Rn.cod w a n cap R) (hr : RunsOk R) (h1 : 1 < n) :
    Calls Tryz.prog 102 #[.slice a n cap, .int .i64 least] w fun e w' => e = .returned (.tuple #[.int .i64 (chkE R least : Nat), .bool true]) ∧ Below w.heap.size w w' := by
  have hm : n ≤ 9223372036854775807 := by have := h.hcap; have := h.hmax; unfold maxLen at this; omega
  have HS := Lib.hid h
  have HR := Lib.hid hr
  have HN : Hid (n = R.length) := h.hlen
  obtain ⟨m, hmn⟩ : ∃ m : Nat, n = m + 1 := ⟨n - 1, by omega⟩
  have hn1 : IntKind.i64.wrap ((n : Int) - 1) = (m : Int) := by rw [IntKind.wrap_i64]; omega
  have HMN := Lib.hid hmn
  have hn0 : ((n : Int) == 0) = false := by simp; omega
  have mixed : Tryz.prog.follows .mixedOrders = true := by kernel_rfl
  clear h hr hmn
  go_enter Tryz.func102, Tryz.ntmps102
  go_wp2_with fail
  refine mt_scope 0 (fun a' w' => ∃ (k : Nat) (u2 u3 u4 u5 u7 u8 u9 u10 u11 u12 u13 u14 u15 u16 u17 u18 u19 u20 u21 u22 u23 u24 u25 u26 u27 u28 u29 u30 u31 u32 u33 u34 u35 u36 : Value), a' = { tmps := #[.slice a n cap, .int .i64 least, u2, u3, u4, u5, .int .i64 k, u7, u8, u9, u10, u11, u12, u13, u14, u15, u16, u17, u18, u19, u20, u21, u22, u23, u24, u25, u26, u27, u28, u29, u30, u31, u32, u33, u34, u35, u36], defers := [] } ∧ 1 ≤ k ∧ k < n ∧ Hid (chkGo least (R.drop k) k = chkE R least) ∧ Hid (Below w.heap.size w w')) (fun a' _ => n - (intOf (a'.tmps.getD 6 undef)).toNat) rfl ?_ ?_
  · intro hpass
    have HPS := Lib.hid hpass
    clear hpass
    go_wp2_with fail
    go_step3
    simp only [Exit.then]
    refine (show ∀ (a : Act) (w : World), Code.wp Tryz.prog _ _ a w → _ from by assumption) _ _ ?_
    exact HPS.out _ _ ⟨1, _, _, _, _, _, _, _, _, _, _, _, _, _, _, _, _, _, _, _, _, _, _, _, _, _, _, _, _, _, _, _, _, _, _, rfl, Nat.le_refl _, h1, rfl, Below.refl _ _⟩
  · intro a1 w1 hJ1
    obtain ⟨k, u2, u3, u4, u5, u7, u8, u9, u10, u11, u12, u13, u14, u15, u16, u17, u18, u19, u20, u21, u22, u23, u24, u25, u26, u27, u28, u29, u30, u31, u32, u33, u34, u35, u36, ha1, hk1, hkn, hc, hb⟩ := hJ1
    subst ha1
    dsimp only
    go_hide hQ
    obtain ⟨ib, io, ⟨fs, ff, ft⟩, rfl, hib, hf, c0, c1, c2⟩ := rn_at (HS.out.below hb.out) hkn
    obtain ⟨a1, a2, a3, -, -⟩ := HR.out.each _ (List.mem_of_getElem? hf)
    simp only [] at a1 a2 a3
    have hw : IntKind.i64.wrap (ft - ff) = ft - ff := by rw [IntKind.wrap_i64]; omega
    have C1 := cell_regrown c1
    have C2 := cell_regrown c2
    have HG := Lib.hid (chkGo_at least hf)
    have hk9 : (k : Int) < (n : Int) := by omega
    clear a1 a2 a3 c0 c1 c2
    by_cases hk : k + 1 < n
    · have hkl : decide (k < m) = true := decide_eq_true (by have := HMN.out; omega)
      by_cases hl : ft - ff < least
      · have hld : decide (ft - ff < least) = true := decide_eq_true hl
        have HG2 : Hid (chkGo least (R.drop (k + 1)) (k + 1) = chkE R least) := by
          show _ = _
          rw [← hc.out, HG.out]
          show _ = if least ≤ ft - ff then _ else _
          rw [if_neg (by omega)]
        clear hl
        go_upto_region 4 with fail
        refine wp_region_quiet_below (by assumption) (by kernel_rfl) ?_
        repeat (go_big_quiet_step (fail))
        refine wpQuiet_nil ?_
        intro w9 hw9
        obtain ⟨⟨nd, osq⟩, rfl⟩ := hw9
        have HB9 : Hid (Below w.heap.size w (Go.Sort.grow (redrawn w1 nd) osq)) := hb.out.trans ((below_regrown _ nd osq).mono hb.out.size)
        clear C1 C2
        generalize Go.Sort.grow (redrawn w1 nd) osq = w9 at HB9 ⊢
        go_wp2_with fail
        subst hQ
        go_step3
        exact ⟨rfl, ⟨k + 1, _, _, _, _, _, _, _, _, _, _, _, _, _, _, _, _, _, _, _, _, _, _, _, _, _, _, _, _, _, _, _, _, _, _, rfl, by omega, by omega, HG2.out, HB9.out⟩, by simp [intOf]; omega⟩
      · have hld : decide (ft - ff < least) = false := decide_eq_false hl
        have HG2 : Hid (k = chkE R least) := by
          show _ = _
          rw [← hc.out, HG.out]
          show _ = if least ≤ ft - ff then _ else _
          rw [if_pos (by omega)]
        clear hl
        go_upto_region 4 with fail
        refine wp_region_quiet_below (by assumption) (by kernel_rfl) ?_
        repeat (go_big_quiet_step (fail))
        refine wpQuiet_nil ?_
        intro w9 hw9
        obtain ⟨⟨nd, osq⟩, rfl⟩ := hw9
        have HB9 : Hid (Below w.heap.size w (Go.Sort.grow (redrawn w1 nd) osq)) := hb.out.trans ((below_regrown _ nd osq).mono hb.out.size)
        clear C1 C2
        generalize Go.Sort.grow (redrawn w1 nd) osq = w9 at HB9 ⊢
        have hmin : (if (m : Int) < (k : Int) then (m : Int) else (k : Int)) = (k : Int) := if_neg (by have := HMN.out; omega)
        have hmin2 : min (k : Int) (m : Int) = (k : Int) := by have := HMN.out; omega
        go_wp2_with fail
        subst hQ
        simp only [Exit.jump]
        go_ret2
        exact ⟨by rw [← HG2.out]; rfl, HB9.out⟩
    · have hkm : k = m := by have := HMN.out; omega
      subst hkm
      have hkl : decide (k < k) = false := decide_eq_false (by omega)
      have HG2 : Hid (k = chkE R least) := by
        show _ = _
        rw [← hc.out, HG.out]
        split
        · rfl
        · rw [List.drop_eq_nil_of_le (by rw [← HN.out, HMN.out]; exact Nat.le_refl _)]; rfl
      go_upto_region 4 with fail
      refine wp_region_quiet_below (by assumption) (by kernel_rfl) ?_
      repeat (go_big_quiet_step (fail))
      refine wpQuiet_nil ?_
      intro w9 hw9
      obtain ⟨⟨nd, osq⟩, rfl⟩ := hw9
      have HB9 : Hid (Below w.heap.size w (Go.Sort.grow (redrawn w1 nd) osq)) := hb.out.trans ((below_regrown _ nd osq).mono hb.out.size)
      clear C1 C2
      generalize Go.Sort.grow (redrawn w1 nd) osq = w9 at HB9 ⊢
      have hmin : (if (k : Int) < (k : Int) then (k : Int) else (k : Int)) = (k : Int) := if_neg (by omega)
      have hmin2 : min (k : Int) (k : Int) = (k : Int) := by omega
      go_wp2_with fail
      subst hQ
      simp only [Exit.jump]
      go_ret2
      exact ⟨by rw [← HG2.out]; rfl, HB9.out⟩
set_option maxHeartbeats 4000000 in
set_option maxRecDepth 100000 in
theorem rcheck24_any (a : Option Addr) (n cap : Nat) (R : List Rn) (least : Int) (w : World) (h : Sl Rn.cod w a n cap R) (hr : RunsOk R) (h1 : 1 < n) :
    Calls Tryz.prog 65 #[.slice a n cap, .int .i64 least] w fun e w' => e = .returned (.tuple #[.int .i64 (chkE R least : Nat), .bool true]) ∧ Below w.heap.size w w' := by
  have hm : n ≤ 9223372036854775807 := by have := h.hcap; have := h.hmax; unfold maxLen at this; omega
  have HS := Lib.hid h
  have HR := Lib.hid hr
  have HN : Hid (n = R.length) := h.hlen
  obtain ⟨m, hmn⟩ : ∃ m : Nat, n = m + 1 := ⟨n - 1, by omega⟩
  have hn1 : IntKind.i64.wrap ((n : Int) - 1) = (m : Int) := by rw [IntKind.wrap_i64]; omega
  have HMN := Lib.hid hmn
  have hn0 : ((n : Int) == 0) = false := by simp; omega
  have mixed : Tryz.prog.follows .mixedOrders = true := by kernel_rfl
  clear h hr hmn
  go_enter Tryz.func65, Tryz.ntmps65
  go_wp2_with fail
  go_loopw [6] (fun i wr => ∃ (k : Nat), 1 ≤ k ∧ k ≤ n ∧ i = .int .i64 k ∧ Hid (chkGo least (R.drop k) k = chkE R least) ∧ Hid (Below w.heap.size w wr)) (fun i _ => n - (intOf i).toNat)
  case atStart => exact ⟨1, by omega, by omega, rfl, rfl, Below.refl _ _⟩
  case round =>
    obtain ⟨k, hk1, hkn, rfl, hc, hb⟩ := hrel
    by_cases hlt : k < n
    · have hltz : (k : Int) < (n : Int) := by omega
      obtain ⟨ib, io, ⟨fs, ff, ft⟩, rfl, hib, hf, c0, c1, c2⟩ := rn_at (HS.out.below hb.out) hlt
      obtain ⟨a1, a2, a3, -, -⟩ := HR.out.each _ (List.mem_of_getElem? hf)
      simp only [] at a1 a2 a3
      have hw : IntKind.i64.wrap (ft - ff) = ft - ff := by rw [IntKind.wrap_i64]; omega
      have C1 := cell_regrown c1
      have C2 := cell_regrown c2
      have HG := Lib.hid (chkGo_at least hf)
      clear a1 a2 a3 c0 c1 c2
      by_cases hl : least ≤ ft - ff
      · have HG2 : Hid (k = chkE R least) := by
          show _ = _
          rw [← hc.out, HG.out]
          show _ = if least ≤ ft - ff then _ else _
          rw [if_pos hl]
        have hld : decide (least ≤ ft - ff) = true := decide_eq_true hl
        clear hl
        go_upto_region 4 with fail
        refine wp_region_quiet_below (by assumption) (by kernel_rfl) ?_
        repeat (go_big_quiet_step (fail))
        refine wpQuiet_nil ?_
        intro w9 hw9
        obtain ⟨⟨nd, osq⟩, rfl⟩ := hw9
        have HB9 : Hid (Below w.heap.size w (Go.Sort.grow (redrawn wr nd) osq)) := hb.out.trans ((below_regrown _ nd osq).mono hb.out.size)
        clear C1 C2
        generalize Go.Sort.grow (redrawn wr nd) osq = w9 at HB9 ⊢
        go_wp2_with fail
        go_ret2
        exact ⟨by rw [← HG2.out]; rfl, HB9.out⟩
      · have HG2 : Hid (chkGo least (R.drop (k + 1)) (k + 1) = chkE R least) := by
          show _ = _
          rw [← hc.out, HG.out]
          show _ = if least ≤ ft - ff then _ else _
          rw [if_neg hl]
        have hld : decide (least ≤ ft - ff) = false := decide_eq_false hl
        clear hl
        go_upto_region 4 with fail
        refine wp_region_quiet_below (by assumption) (by kernel_rfl) ?_
        repeat (go_big_quiet_step (fail))
        refine wpQuiet_nil ?_
        intro w9 hw9
        obtain ⟨⟨nd, osq⟩, rfl⟩ := hw9
        have HB9 : Hid (Below w.heap.size w (Go.Sort.grow (redrawn wr nd) osq)) := hb.out.trans ((below_regrown _ nd osq).mono hb.out.size)
        clear C1 C2
        generalize Go.Sort.grow (redrawn wr nd) osq = w9 at HB9 ⊢
        go_wp2_with fail
        go_roundw
        case rel => exact ⟨k + 1, by omega, by omega, by go_num, HG2.out, HB9.out⟩
        case measure => simp [intOf]; omega
    · have hk : k = n := by omega
      have HK := Lib.hid hk
      clear hk
      go_wp2_with fail
      go_ret2
      refine ⟨?_, hb.out⟩
      have := hc.out
      rw [HK.out, List.drop_eq_nil_of_le (by rw [HN.out]; exact Nat.le_refl _)] at this
      rw [← this]
      show _ = Ending.returned (.tuple #[.int .i64 ((n - 1 : Nat) : Int), .bool true])
      rw [show n - 1 = m by have := HMN.out; omega]
      rfl
end Go.Proofs.YtlfbbahihenilaaGreat.Ne

namespace Go.V
open Go.RowKit

theorem step_app_at {α : Type} {e : TypeId} {c : Cod α} {base : Nat} {w : World} {P : Program} {t : TypeId} {bytes : Nat} (E : Elt P t e c bytes) {ops : Array Oper} {o : Oper} {a : Act} {K : Act → World → Prop} {Q : Exit → Act → World → Prop} {Z : Prop} (hgd : o.guard = none) (s x : Operand)
    (ho : o.op = Op.call { callee := Callee.builtin Builtin.append, args := #[s, x], argTypes := #[t, t] }) (v : Value) (xs : List α) (hs : a.eval s = v) (hown : Own e c base w v xs)
    (d : Addr) (m cx : Nat) (ys : List α) (hx : a.eval x = .slice (some d) m cx) (hsl : Sl c w (some d) m cx ys) (hm : xs.length + m ≤ maxLen) (hb : (xs.length + m) * bytes ≤ 140737488355328) (hbase : base ≤ w.heap.size)
    (h : ∀ v' w', Own e c base w' v' (xs ++ ys) → w.grownBy w' v.ownBlock → (v'.ownBlock = v.ownBlock ∨ v'.ownBlock = some w.heap.size) → K (a.put o.dst v') w') :
    if Region.wanted o (yielded ops a.tmps) = true then Oper.wp P o a w K Q else Z := by
  have hw : Region.wanted o (yielded ops a.tmps) = true := by simp [Region.wanted, hgd]
  rw [if_pos hw]
  obtain ⟨i, z, h1, h2, h3, h4, h5⟩ := E.row
  obtain ⟨v', w', hrun, k1, k2, -, k3⟩ := run_append_own_at (P := P) w base t o.type e i z c.k bytes E.ht h1 h2 h3 h4 h5 E.pos v xs.length _ hown d m cx (ys.flatMap c.enc) (by rw [flat_len, hsl.hlen]) hsl.src (fun u hu => by obtain ⟨y, -, hy⟩ := List.mem_flatMap.1 hu; exact c.one y u hy) hm hb hbase
  unfold Oper.wp
  simp [execOp, ho, resolve, invoke, builtin, hs, hx, hrun, Result.andThen]
  refine h v' w' ?_ k2 k3
  unfold Own
  rw [List.length_append, List.flatMap_append, ← hsl.hlen]; exact k1

section
variable {α : Type} {e : TypeId} {c : Cod α} {base : Nat} {w : World} {xs : List α}
/-- A row made shorter. -/
theorem Own.cut {g n cap m : Nat} (h : Own e c base w (.slice (some ⟨g, 0, none⟩) n cap) xs) (hn : n = xs.length) (hm : m ≤ n) : Own e c base w (.slice (some ⟨g, 0, none⟩) m cap) (xs.take m) := by
  subst hn
  obtain ⟨h1, h2⟩ := h
  rcases h2 with ⟨h2, -⟩ | ⟨g', cap', cur, h2, h3, h4, h5, h6, h7, h8⟩
  · cases h2
  · cases h2
    have hl : (xs.take m).length = m := by rw [List.length_take]; omega
    refine ⟨by rw [flat_len, hl], .inr ⟨g, cap, cur, by rw [hl], h3, h4, by rw [hl]; omega, h6, h7, ?_⟩⟩
    rw [hl]
    have e1 : xs.flatMap c.enc = (xs.take m).flatMap c.enc ++ (xs.drop m).flatMap c.enc := by rw [← List.flatMap_append, List.take_append_drop]
    have e2 : cur.toList.take (m * c.k) = (cur.toList.take (xs.length * c.k)).take (m * c.k) := by
      rw [List.take_take, Nat.min_eq_left (Nat.mul_le_mul_right _ hm)]
    rw [e2, h8, e1, List.take_append_of_le_length (by rw [flat_len, hl]; exact Nat.le_refl _), List.take_of_length_le (by rw [flat_len, hl]; exact Nat.le_refl _)]
/-- A cell of it. -/
theorem Own.at {g n cap : Nat} (h : Own e c base w (.slice (some ⟨g, 0, none⟩) n cap) xs) (hn : n = xs.length) {i : Nat} {x : α} (hi : xs[i]? = some x) : (∀ j u, (c.enc x)[j]? = some u → w.cell? ⟨g, i * c.k + j, none⟩ = some u) ∧ ∀ j, w.frozen? ⟨g, j, none⟩ = false := by
  subst hn
  have h' : w.ownsRow base e c.k (.slice (some ⟨g, 0, none⟩) xs.length cap) xs.length (xs.flatMap c.enc) := h
  refine ⟨fun j u hu => ?_, fun j => h'.frozenAt j⟩
  have hj : j < c.k := by rw [← c.len x]; exact (List.getElem?_eq_some_iff.1 hu).1
  have hl := (List.getElem?_eq_some_iff.1 hi).1
  have hlt : i * c.k + j < xs.length * c.k := by
    have : (i + 1) * c.k ≤ xs.length * c.k := Nat.mul_le_mul_right _ hl
    rw [Nat.add_mul] at this; omega
  rw [h'.cellAt _ hlt, flat_get c xs i j hj, hi]; exact hu
/-- One of its cells is put anew. -/
theorem Own.put {g n cap : Nat} (h : Own e c base w (.slice (some ⟨g, 0, none⟩) n cap) xs) (hn : n = xs.length) (j : Nat) (u : Value) (ys : List α) (hy : ys.length = xs.length) (he : (xs.flatMap c.enc).set j u = ys.flatMap c.enc) :
    Own e c base (w.setCell ⟨g, j, none⟩ u) (.slice (some ⟨g, 0, none⟩) n cap) ys ∧ w.grownBy (w.setCell ⟨g, j, none⟩ u) (some g) := by
  subst hn
  have h' : w.ownsRow base e c.k (.slice (some ⟨g, 0, none⟩) xs.length cap) xs.length (xs.flatMap c.enc) := h
  obtain ⟨h1, h2⟩ := h'.stored j u
  refine ⟨?_, h2⟩
  unfold Own
  rw [hy, ← he]; exact h1
end

/-- All is kept but two blocks and what is new. -/
structure Chg (w w' : World) (g : Nat) (r : Option Nat) : Prop where
  os : w'.os = w.os
  tape : w'.tape = w.tape
  output : w'.output = w.output
  size : w.heap.size ≤ w'.heap.size
  block : ∀ k, k < w.heap.size → k ≠ g → some k ≠ r → w'.heap[k]? = w.heap[k]?
section
variable {w w' w'' : World} {g : Nat} {r : Option Nat}
theorem Chg.refl (w : World) (g : Nat) (r : Option Nat) : Chg w w g r := ⟨rfl, rfl, rfl, Nat.le_refl _, fun _ _ _ _ => rfl⟩
theorem Chg.of_below (h : Below w.heap.size w w') (g : Nat) (r : Option Nat) : Chg w w' g r := ⟨h.os, h.tape, h.output, h.size, fun k hk _ _ => h.block k hk⟩
theorem Chg.of_grown {row : Option Nat} (h : w.grownBy w' row) (g : Nat) (r : Option Nat) (hr : ∀ k, row = some k → k = g ∨ some k = r) : Chg w w' g r :=
  ⟨h.os, h.tape, h.output, h.size, fun k hk h1 h2 => h.block k hk (fun e => by rcases hr k e.symm with q | q; exact h1 q; exact h2 q)⟩
/-- One after the other; the second row is the first one, or a new one. -/
theorem Chg.trans {r' : Option Nat} (h : Chg w w' g r) (h' : Chg w' w'' g r') (hr : r' = r ∨ ∃ k, r' = some k ∧ w.heap.size ≤ k) : Chg w w'' g r :=
  ⟨h'.os.trans h.os, h'.tape.trans h.tape, h'.output.trans h.output, Nat.le_trans h.size h'.size, fun k hk h1 h2 => (h'.block k (Nat.lt_of_lt_of_le hk h.size) h1 (fun e => by
    rcases hr with q | ⟨j, q, q2⟩
    · exact h2 (e.trans q)
    · rw [q] at e; have := Option.some.inj e; omega)).trans (h.block k hk h1 h2)⟩
theorem Chg.below {B : Nat} (h : Chg w w' g r) (hg : B ≤ g) (hr : ∀ k, r = some k → B ≤ k) (hB : B ≤ w.heap.size) : Below B w w' :=
  ⟨h.os, h.tape, h.output, h.size, fun k hk => h.block k (by omega) (by omega) (fun e => by have := hr k e.symm; omega)⟩
theorem Chg.box {k : Nat} {ob : Obj} (h : Chg w w' g r) (hk : w.heap[k]? = some ob) (h1 : k ≠ g) (h2 : some k ≠ r) : w'.heap[k]? = some ob :=
  (h.block k (Array.getElem?_eq_some_iff.1 hk).1 h1 h2).trans hk
end
end Go.V

namespace Go.Proofs.YtlfbbahihenilaaGreat.Gr
open Go.RowKit Go.V Go.Proofs Go.Maps Go.WideElems Go.WideMaps
open Go.ChangeMaps (setBlock heap_setBlock_same heap_setBlock_other)

/-- What a map has, as it lies. -/
def heldG (v : Value) : Option (DataW Value × List MemPlace) := some (.held v, [])
theorem setBlock_grown {w : World} {b : Nat} {es : Array MapEntry} {clock : Nat} (hb : w.heap[b]? = some (.map es clock)) (o : Obj) : w.grownBy (setBlock w b o) (some b) :=
  ⟨rfl, rfl, rfl, by simp [setBlock], fun i _ hi => heap_setBlock_other hb _ (fun e => hi (by rw [e]))⟩
/-- The entry is taken, something is done elsewhere, the entry is stored. -/
theorem entry_own {P : Program} {k t e : TypeId} {w : World} {b n : Nat} {D : DataW Value} (L : KeyLaw P k) (ht : P.underlying t = some (.map k e)) {z : Value} (hz : ∀ u : World, (zeroValue e).run P u = .ok z u) (h : w.ownsMap P k heldG b n D) (hn : n < maxLen) {key : Value} {kl : Lit} (hkey : keyOf P k key = some kl) :
    ∃ (v0 : Value) (st : Nat) (w1 : World), (Instr.mapEntry t (.map (some b)) key).run P w = .ok (.tuple #[v0, goInt st]) w1 ∧ D.atKey kl (.held z) = .held v0 ∧ (Maps.has D kl = false → v0 = z) ∧ w.grownBy w1 (some b) ∧
      ∀ (w2 : World) (val : Value), w2.heap[b]? = w1.heap[b]? → ∃ w3, (Instr.entryStore t (.map (some b)) (goInt st) val).run P w2 = .ok () w3 ∧ w3.ownsMap P k heldG b (n + 1) (D.put kl (.held val)) ∧ w2.grownBy w3 (some b) := by
  have K := Keyed.of_law L
  have h0 := h
  obtain ⟨es, clock, hb, F, hs, hD⟩ := h
  obtain ⟨v0, st, es1, clock1, hrun, hcase, hstore⟩ := entry_then_store L ht hz hb F hkey
  have hb1 : (setBlock w b (.map es1 clock1)).heap[b]? = some (.map es1 clock1) := heap_setBlock_same hb _
  refine ⟨v0, st, _, hrun, ?_, ?_, setBlock_grown hb _, fun w2 val hw2 => ?_⟩
  · rw [hD]
    rcases hcase with ⟨e0, hm0, hk0, rfl⟩ | ⟨hno, rfl⟩
    · obtain ⟨y, hy⟩ := F.reads e0 hm0
      obtain ⟨zz, hz1, hz2⟩ := rd_val hy
      have m1 := rd_key hy
      rw [hk0, hkey] at m1
      have hat := Go.WideShapes.atKey_sorted (es.toList.map (rg P k heldG)) (fit_rising K F) kl (K.key hkey)
      have := hat.2 (rg P k heldG e0) (List.mem_map.2 ⟨e0, hm0, rfl⟩) (by rw [rg_of hy]; exact (Option.some.inj m1).symm) (.held z)
      rw [this, rg_of hy, hz2]
      unfold heldG at hz1
      cases hz1
      rfl
    · rcases Maps.fit_look false K ht (hz w) hb F hkey with ⟨-, -, hat⟩ | ⟨e0, y, h1, h2, -⟩
      · exact hat _
      · exact absurd h2 (hno e0 h1)
  · intro hh
    rcases hcase with ⟨e0, hm0, hk0, rfl⟩ | ⟨-, h2⟩
    · exfalso
      obtain ⟨y, hy⟩ := F.reads e0 hm0
      have m1 := rd_key hy
      rw [hk0, hkey] at m1
      have hat := Go.WideShapes.atKey_sorted (es.toList.map (rg P k heldG)) (fit_rising K F) kl (K.key hkey)
      have hu := fun zz => hat.2 (rg P k heldG e0) (List.mem_map.2 ⟨e0, hm0, rfl⟩) (by rw [rg_of hy]; exact (Option.some.inj m1).symm) zz
      have a1 := hu .nil
      have a2 := hu (.held z)
      rw [← hD, Maps.atKey_of_not_has hh] at a1 a2
      rw [← a1] at a2
      cases a2
    · exact h2
  · rw [hb1] at hw2
    obtain ⟨es', clock', hr1, hr2⟩ := hstore w2 val hw2
    obtain ⟨w', hu1, hu2, -⟩ := h0.update K ht hn hkey (show heldG val = some (.held val, []) from rfl)
    rw [hr2] at hu1
    have he : setBlock w b (.map es' clock') = w' := by cases hu1; rfl
    have hbb : (setBlock w b (.map es' clock')).heap[b]? = some (.map es' clock') := heap_setBlock_same hb _
    refine ⟨_, hr1, ?_, setBlock_grown hw2 _⟩
    obtain ⟨fs, c, q1, q2, q3, q4⟩ := hu2
    rw [← he, hbb] at q1
    cases q1
    exact ⟨_, _, heap_setBlock_same hw2 _, q2, q3, q4⟩
/-! ### A cell as a key -/
theorem laidOut : laidOutB Tryz.prog = true := by kernel_rfl
set_option maxRecDepth 100000 in
theorem rowCell : (151 : TypeId) < Tryz.prog.types.size := of_decide_eq_true (by kernel_rfl)
theorem wideCell : (match Tryz.prog.underlying 151 with | some (.array _ _) | some (.struct _) => true | _ => false) = true := by rw [Tryz.underlying151]
set_option maxRecDepth 100000 in
theorem lawCell : KeyLaw Tryz.prog 151 := deep_law_laid laidOut (m := 3) (by omega) rowCell (by kernel_rfl) wideCell
abbrev cellV (x y : Int) : Value := .agg #[.int .i64 x, .int .i64 y]
def cellK (x y : Int) : Lit := .string (keyBytes [.int .i64 x, .int .i64 y])
set_option maxRecDepth 100000 in
theorem keyOf_cell {x y : Int} (wx : (Lit.int .i64 x).wf = true) (wy : (Lit.int .i64 y).wf = true) : keyOf Tryz.prog 151 (cellV x y) = some (cellK x y) := by
  have hkt : Tryz.prog.keyType 151 = true := by kernel_rfl
  have hf : (cellV x y).formed Tryz.prog 151 = true := by
    have hc : Tryz.prog.cellsOf 151 = 2 := by kernel_rfl
    simp [Value.formed, Tryz.underlying151, hc]
  obtain ⟨m, hm⟩ : ∃ m, Tryz.prog.types.size = m + 1 := ⟨_, (Nat.succ_pred_eq_of_pos (Nat.lt_of_le_of_lt (Nat.zero_le _) rowCell)).symm⟩
  unfold keyOf
  simp only [Tryz.underlying151]
  rw [if_pos (by rw [hkt, hf]; rfl), hm]
  have hci : Tryz.prog.cellsOf 3 = 1 := by kernel_rfl
  have hc : Tryz.prog.cellsOf 151 = 2 := by kernel_rfl
  unfold Program.keyLits
  simp only [Tryz.underlying151, Value.cells]
  rw [if_pos (by simp [hc])]
  simp [hci, Program.keyLits, Tryz.underlying3, wx, wy, cellK]
set_option maxRecDepth 100000 in
theorem cellK_inj {x y x' y' : Int} (wx : (Lit.int .i64 x).wf = true) (wy : (Lit.int .i64 y).wf = true) (wx' : (Lit.int .i64 x').wf = true) (wy' : (Lit.int .i64 y').wf = true) (h : cellK x y = cellK x' y') : x = x' ∧ y = y' := by
  have h1 := keyOf_cell wx wy
  have h2 := keyOf_cell wx' wy'
  rw [← h] at h2
  have := (Keyed.of_law lawCell).inj h1 h2
  simp at this
  exact this
end Go.Proofs.YtlfbbahihenilaaGreat.Gr
