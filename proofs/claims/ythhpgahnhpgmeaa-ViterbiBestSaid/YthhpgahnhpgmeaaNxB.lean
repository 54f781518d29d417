/- Networks: viterbi: whether rows may be, walked. -/
import Derived.Test.YthhpgahnhpgmeaaNxA
import Derived.Test.YthhpgahnhpgmeaaNoD
namespace Go.Proofs.Ythhpgahnhpgmeaa.Ne
open Go.RowKit Go.V Go.Proofs Go.Sort Go.Maps

def sqOk (p : Pnt) : Bool := decide (0 ≤ p.sq ∧ p.sq ≤ 1099511627776)
def rowOk (r : List Pnt) : Bool := decide (r.length ≤ 16) && r.all sqOk
def vmayE (x : Wgh) (gs : List (List Pnt)) : Int := if mayW x = true then (if 2048 < gs.length then 3 else if gs.all rowOk = true then (if gs.length = 0 then 31 else 0) else 2) else 2
theorem all_take_snoc {α : Type} {f : α → Bool} {xs : List α} {j : Nat} {x : α} (h : xs[j]? = some x) (hx : f x = true) (hh : (xs.take j).all f = true) : (xs.take (j + 1)).all f = true := by
  rw [take_at h, List.all_append, hh]; simp [hx]
theorem all_no {α : Type} {f : α → Bool} {xs : List α} {j : Nat} {x : α} (h : xs[j]? = some x) (hx : f x = false) : xs.all f = false := by
  rw [Bool.eq_false_iff]
  intro hh
  have := List.all_eq_true.1 hh x (List.mem_of_getElem? h)
  rw [hx] at this; cases this

set_option maxHeartbeats 2000000 in
set_option maxRecDepth 100000 in
theorem vmay_any (x : Wgh) (pa : Option Addr) (pn pc : Nat) (gs : List (List Pnt)) (w : World) (h : PtsIn w pa pn pc gs) :
    Calls Try.prog 49 #[x.val, .slice pa pn pc] w fun e w' => e = .returned (.int .i64 (vmayE x gs)) ∧ Below w.heap.size w w' := by
  have HP := Lib.hid h
  obtain ⟨hl, hn⟩ := h.len
  have HL := Lib.hid hl
  obtain ⟨xr, xm, xf, xc⟩ := x
  obtain ⟨mw, hmw⟩ : ∃ mw, mayW ⟨xr, xm, xf, xc⟩ = mw := ⟨_, rfl⟩
  obtain ⟨ve, hve⟩ : ∃ ve, vmayE ⟨xr, xm, xf, xc⟩ gs = ve := ⟨_, rfl⟩
  have HMW := Lib.hid hmw
  have HVE := Lib.hid hve
  rw [hve]
  clear h hl hmw hve
  have HX0 := Lib.hid (box_new w (Wgh.mk xr xm xf xc).box)
  have HB0 : Hid (Below w.heap.size w (w.alloc (Wgh.mk xr xm xf xc).box)) := (Below.refl _ _).alloc (Nat.le_refl _) _
  obtain ⟨c0, c1, c2, c3⟩ := box4_cells HX0.out
  cases mw with
  | false =>
    have hz : 2 = ve := by rw [← HVE.out]; exact (if_neg (by rw [HMW.out]; simp)).symm
    subst hz
    go_enter Try.func49, Try.ntmps49
    go_wp2_with (go_at_call 78; go_loud (refine (cmay_any ⟨xr, xm, xf, xc⟩ _).mono ?_); rintro e w1 ⟨rfl, hb1⟩; rw [HMW.out]; have HB1 := Lib.hid (HB0.out.trans (hb1.mono HB0.out.size)); clear hb1)
    go_ret
    exact ⟨rfl, HB1.out⟩
  | true =>
    by_cases hbig : (2048 : Int) < (pn : Int)
    · have hz : 3 = ve := by rw [← HVE.out]; unfold vmayE; rw [if_pos HMW.out, if_pos (by have := HL.out; omega)]
      subst hz
      go_enter Try.func49, Try.ntmps49
      go_wp2_with (go_at_call 78; go_loud (refine (cmay_any ⟨xr, xm, xf, xc⟩ _).mono ?_); rintro e w1 ⟨rfl, hb1⟩; rw [HMW.out]; have HB1 := Lib.hid (HB0.out.trans (hb1.mono HB0.out.size)); clear hb1)
      go_ret
      exact ⟨rfl, HB1.out⟩
    · have hp2 : pn ≤ 2048 := by omega
      have HEV : Hid (∀ b, gs.all rowOk = b → (if b = true then (if gs.length = 0 then 31 else 0) else 2) = ve) := by
        intro b hb
        rw [← HVE.out]; unfold vmayE
        have k1 : ¬ (2048 < gs.length) := by have := HL.out; omega
        rw [if_pos HMW.out, if_neg k1, hb]
      go_enter Try.func49, Try.ntmps49
      go_wp2_with (go_at_call 78; go_loud (refine (cmay_any ⟨xr, xm, xf, xc⟩ _).mono ?_); rintro e w1 ⟨rfl, hb1⟩; rw [HMW.out]; have HB1 := Lib.hid (HB0.out.trans (hb1.mono HB0.out.size)); clear hb1)
      go_loopw [19] (fun i wr => ∃ j : Nat, i = .int .i64 j ∧ j ≤ pn ∧ Hid (Below w.heap.size w wr) ∧ Hid ((gs.take j).all rowOk = true)) (fun i _ => pn - (intOf i).toNat)
      case atStart => exact ⟨0, by go_num, by omega, HB1.out, rfl⟩
      case round =>
        clear HB1 c0 c1 c2 c3
        obtain ⟨j, rfl, hj, HBr, HAL⟩ := hrel
        by_cases hlt : j < pn
        · obtain ⟨b, off, hd, g, e1, hbl, hg, p0, hsl⟩ := (HP.out.below HBr.out).at hlt
          have e1 : pa = _ := e1
          subst e1
          obtain ⟨ra, rn, rc⟩ := hd
          have hji : (j : Int) < (pn : Int) := by omega
          have HG := Lib.hid hg
          have HS := Lib.hid hsl
          have HRL : Hid (rn = g.length) := hsl.hlen
          clear hg hsl
          by_cases h16 : (16 : Int) < (rn : Int)
          · have hz : 2 = ve := by
              have := HEV.out false (all_no HG.out (by unfold rowOk; rw [decide_eq_false (by have := HRL.out; omega)]; rfl))
              exact this
            subst hz
            go_wp2_with fail
            go_ret
            exact ⟨rfl, HBr.out⟩
          · have hr16 : rn ≤ 16 := by omega
            go_wp2_with fail
            go_loopw [28] (fun i wq => ∃ k : Nat, i = .int .i64 k ∧ k ≤ rn ∧ Hid (Below wr.heap.size wr wq) ∧ Hid ((g.take k).all sqOk = true)) (fun i _ => rn - (intOf i).toNat)
            case atStart => exact ⟨0, by go_num, by omega, Below.refl _ _, rfl⟩
            case round =>
              obtain ⟨k, rfl, hk, HBq, HAK⟩ := hrel
              by_cases hltk : k < rn
              · obtain ⟨b2, off2, q, e2, hbl2, hq, q0, q1⟩ := pnt_at (HS.out.below HBq.out) hltk
                have e2 : ra = _ := e2
                subst e2
                have hki : (k : Int) < (rn : Int) := by omega
                have HQ := Lib.hid hq
                clear hq
                obtain ⟨st, sq⟩ := q
                have hbw := HBq.out.size
                have HBW : Hid (Below w.heap.size w _) := HBr.out.trans (HBq.out.mono HBr.out.size)
                have hbw2 := HBW.out.size
                by_cases x1 : sq < 0
                · have hz : 2 = ve := HEV.out false (all_no HG.out (by unfold rowOk; rw [all_no HQ.out (show sqOk ⟨st, sq⟩ = false from decide_eq_false (by show ¬ (0 ≤ sq ∧ sq ≤ _); omega))]; simp))
                  subst hz
                  go_wp2_with fail
                  go_ret
                  exact ⟨rfl, HBW.out.alloc hbw2 _⟩
                · by_cases x2 : 1099511627776 < sq
                  · have hz : 2 = ve := HEV.out false (all_no HG.out (by unfold rowOk; rw [all_no HQ.out (show sqOk ⟨st, sq⟩ = false from decide_eq_false (by show ¬ (0 ≤ sq ∧ sq ≤ _); omega))]; simp))
                    subst hz
                    go_wp2_with fail
                    go_ret
                    exact ⟨rfl, HBW.out.alloc hbw2 _⟩
                  · have HK : Hid (sqOk ⟨st, sq⟩ = true) := decide_eq_true (by show 0 ≤ sq ∧ sq ≤ _; omega)
                    go_wp2_with fail
                    go_roundw
                    case rel => exact ⟨k + 1, by go_num, by omega, HBq.out.alloc hbw _, all_take_snoc HQ.out HK.out HAK.out⟩
                    case measure => simp [intOf]; omega
              · have hkr : rn = k := by omega
                subst hkr
                have HRO : Hid (rowOk g = true) := by
                  have := HAK.out
                  rw [List.take_of_length_le (by rw [← HRL.out]; exact Nat.le_refl _)] at this
                  show _ = _
                  unfold rowOk; rw [decide_eq_true (by have := HRL.out; omega), this]; rfl
                have HBW := Lib.hid (HBr.out.trans (HBq.out.mono HBr.out.size))
                go_wp2_with fail
                go_roundw
                case rel => exact ⟨j + 1, by go_num, by omega, HBW.out, all_take_snoc HG.out HRO.out HAL.out⟩
                case measure => simp [intOf]; omega
        · have hjn : pn = j := by omega
          subst hjn
          have hall : gs.all rowOk = true := by
            have := HAL.out
            rwa [List.take_of_length_le (by rw [← HL.out]; exact Nat.le_refl _)] at this
          have HVA := Lib.hid (HEV.out true hall)
          by_cases h0 : pn = 0
          · have hz : 31 = ve := by rw [← HVA.out, if_pos rfl, if_pos (by have := HL.out; omega)]
            subst hz
            have h0b : ((pn : Int) == 0) = true := by simp; omega
            clear hall
            go_wp2_with fail
            go_ret
            exact ⟨rfl, HBr.out⟩
          · have hz : 0 = ve := by rw [← HVA.out, if_pos rfl, if_neg (by have := HL.out; omega)]
            subst hz
            have h0b : ((pn : Int) == 0) = false := by simp; omega
            clear hall
            go_wp2_with fail
            go_ret
            exact ⟨rfl, HBr.out⟩
end Go.Proofs.Ythhpgahnhpgmeaa.Ne
