/- Costs: the example; a table costs what the document says: the law walked. -/
import Derived.Test.YteihffnmgacfpaaNoE
import Derived.Test.YteihffnmgacfpaaNeZ
import Derived.Test.YteihffnmgacfpaaNeE
namespace Go.Proofs.Yteihffnmgacfpaa.Ne
open Go.RowKit Go.V Go.Proofs Go.Sort Go.Maps

def exC : Net := ⟨1, [⟨0, 0⟩, ⟨0, 0⟩], [⟨0, 1, 10⟩]⟩
theorem exC_ok : checkE exC = 0 := by decide
theorem exC_step : stepE exC 2 ⟨0, 1, 2, 5⟩ 0 1 = 25 ∧ stepE exC 2 ⟨0, 1, 2, 5⟩ 1 1 = 0 := by decide +kernel

set_option maxHeartbeats 4000000 in
set_option maxRecDepth 100000 in
theorem awake22_any (w : World) : Calls Try.prog 31 #[] w fun e w' => e = .returned (.bool true) ∧ Below w.heap.size w w' := by
  have hmk : ∀ w, (Instr.makeSlice 22 (.int .i64 2) (.int .i64 2)).run Try.prog w = .ok (.slice (some ⟨w.heap.size, 0, none⟩) 2 2) (w.alloc (.cells #[.int .i64 0, .int .i64 0, .int .i64 0, .int .i64 0] 99)) := fun w => by
    have h := make_stops 2 (by omega) w
    have e : madeCells #[.int .i64 0, .int .i64 0] (2 * 2) = #[.int .i64 0, .int .i64 0, .int .i64 0, .int .i64 0] := by kernel_rfl
    rw [e] at h
    exact h
  go_enter Try.func31, Try.ntmps31
  have HN : Hid (NetIn ((w.alloc (.cells #[.int .i64 0, .int .i64 0, .int .i64 0, .int .i64 0] 99)).alloc (.cells #[.int .i64 0, .int .i64 1, .int .i64 10] 49)) exC ⟨some ⟨w.heap.size, 0, none⟩, 2, 2⟩ ⟨some ⟨w.heap.size + 1, 0, none⟩, 1, 1⟩) :=
    ⟨(sl_new (c := Stp.cod) w _ _ exC.stops 2 rfl (by unfold maxLen; omega) rfl).below ((Below.refl _ _).alloc (Nat.le_refl _) _), by have := sl_new (c := lcod) (w.alloc (.cells #[.int .i64 0, .int .i64 0, .int .i64 0, .int .i64 0] 99)) #[.int .i64 0, .int .i64 1, .int .i64 10] 49 exC.links 1 rfl (by unfold maxLen; omega) rfl; simpa using this⟩
  have HB0 : Hid (Below w.heap.size w ((w.alloc (.cells #[.int .i64 0, .int .i64 0, .int .i64 0, .int .i64 0] 99)).alloc (.cells #[.int .i64 0, .int .i64 1, .int .i64 10] 49))) := ((Below.refl _ _).alloc (Nat.le_refl _) _).alloc (by simp) _
  go_upto_region 2 with (go_at_call 17; go_loud (refine (tnew_any exC ⟨some ⟨w.heap.size, 0, none⟩, 2, 2⟩ ⟨some ⟨w.heap.size + 1, 0, none⟩, 1, 1⟩ _ ⟨by show 2 ≤ 1000000; omega, by show 1 ≤ 1000000; omega⟩ HN.out).mono ?_); rintro e w1 ⟨hb, -, hf⟩; obtain ⟨tg, rfl, mg, ht, hne⟩ := hf exC_ok; have HB1 := Lib.hid (HB0.out.trans (hb.mono HB0.out.size)); have HT := Lib.hid ht; have HNE := Lib.hid hne; clear hb hf ht hne)
  have HX := Lib.hid (box_new w1 (Wgh.mk 0 1 2 5).box)
  have HB2 : Hid (Below w.heap.size w (w1.alloc (Wgh.mk 0 1 2 5).box)) := HB1.out.alloc HB1.out.size _
  have HT2 := Lib.hid (HT.out.below ((Below.refl _ _).alloc (Nat.le_refl _) (Wgh.mk 0 1 2 5).box))
  have HMG : Hid (mg < w1.heap.size ∧ w.heap.size ≤ mg) := ⟨HT.out.mg_lt, by have := HT.out.bm; have := HB0.out.size; omega⟩
  go_upto_region 3 with fail
  obtain ⟨c0, c1, c2, c3⟩ := box4_cells HX.out
  go_wp2_with (first
    | (go_at_call 33; go_fit (cstep_any _ _ tg mg 0 exC ⟨some ⟨w.heap.size, 0, none⟩, 2, 2⟩ ⟨some ⟨w.heap.size + 1, 0, none⟩, 1, 1⟩ ⟨0, 1, 2, 5⟩ 0 1 HT2.out exC_ok (by show 2 ≤ 60; omega) (by show 1 ≤ 120; omega) (by omega) HNE.out); rintro e w2 ⟨rfl, ht2, hc2⟩; rw [exC_step.1]; have HT3 := Lib.hid ht2; have HC3 := Lib.hid hc2; have HX3 := Lib.hid (hc2.box HX.out (by have := HMG.out.1; omega) (by simp)); obtain ⟨d0, d1, d2, d3⟩ := box4_cells HX3.out; clear ht2 hc2)
    | (go_at_call 33; go_fit (cstep_any _ _ tg mg 1 exC ⟨some ⟨w.heap.size, 0, none⟩, 2, 2⟩ ⟨some ⟨w.heap.size + 1, 0, none⟩, 1, 1⟩ ⟨0, 1, 2, 5⟩ 1 1 HT3.out exC_ok (by show 2 ≤ 60; omega) (by show 1 ≤ 120; omega) (by omega) HNE.out); rintro e w4 ⟨rfl, ht4, hc4⟩; rw [exC_step.2]; have HC4 := Lib.hid (HC3.out.trans hc4 (.inl rfl)); clear ht4 hc4))
  go_ret
  exact ⟨rfl, HB2.out.trans (HC4.out.below HMG.out.2 (by simp) HB2.out.size)⟩

def fewG (g : List Pnt) : Bool := decide (g.length ≤ 30)
def fewP (gs : List (List Pnt)) : Bool := gs.all fewG && decide (gs.length ≤ 40)
set_option maxHeartbeats 1000000 in
theorem fewP_any (a : Option Addr) (n cap : Nat) (gs : List (List Pnt)) (w : World) (h : PtsIn w a n cap gs) :
    Calls Try.prog 32 #[.slice a n cap] w fun e w' => e = .returned (.bool (fewP gs)) ∧ w = w' := by
  have hn := h.len.2
  have HL := Lib.hid h.len.1
  have HH := Lib.hid h
  obtain ⟨r, hr⟩ : ∃ r, fewP gs = r := ⟨_, rfl⟩
  have HR := Lib.hid hr
  rw [hr]
  clear h hr
  go_enter Try.func32, Try.ntmps32
  go_wp2_with fail
  go_loop [7] (fun i => ∃ k : Nat, i = .int .i64 k ∧ k ≤ n ∧ Hid ((gs.take k).all fewG = true)) (fun i => n - (intOf i).toNat)
  case atStart => exact ⟨0, by go_num, by omega, rfl⟩
  case round =>
    obtain ⟨k, rfl, hk, HK⟩ := hrel
    by_cases hlt : k < n
    · obtain ⟨b, off, x, g, rfl, hbl, hg, hc, hq⟩ := HH.out.at hlt
      have hx9 : x.n ≤ 9223372036854775807 := by have := hq.hcap; have := hq.hmax; unfold maxLen at this; omega
      have HXG := Lib.hid hq.hlen
      have HG := Lib.hid hg
      clear hg hq
      by_cases hs : (30 : Int) < (x.n : Int)
      · have HF : Hid (r = false) := by
          show _ = _
          rw [← HR.out]
          cases hh : fewP gs
          · rfl
          · unfold fewP at hh
            rw [Bool.and_eq_true] at hh
            have h1 := List.all_eq_true.1 hh.1 g (List.mem_of_getElem? HG.out)
            unfold fewG at h1
            have h2 := of_decide_eq_true h1
            have := HXG.out
            omega
        go_wp2_with fail
        go_ret
        exact ⟨by rw [HF.out]; rfl, rfl⟩
      · have hs' : decide ((30 : Int) < (x.n : Int)) = false := decide_eq_false hs
        have HK2 : Hid ((gs.take (k + 1)).all fewG = true) := by
          show _ = _
          rw [take_at HG.out, List.all_append, HK.out]
          have : fewG g = true := decide_eq_true (by have := HXG.out; omega)
          simp [this]
        go_wp2_with fail
        go_round
        case rel => exact ⟨k + 1, by go_num, by omega, HK2.out⟩
        case measure => simp [intOf]; omega
    · have hk' : n = k := by omega
      subst hk'
      have HA : Hid (gs.all fewG = true) := by
        show _ = _
        have := HK.out
        rw [List.take_of_length_le (by have := HL.out; omega)] at this; exact this
      by_cases h4 : (n : Int) ≤ 40
      · have HF : Hid (r = true) := by show _ = _; rw [← HR.out]; unfold fewP; rw [HA.out, decide_eq_true (by have := HL.out; omega)]; rfl
        go_wp2_with fail
        go_ret
        exact ⟨by rw [HF.out]; rfl, rfl⟩
      · have h4' : decide ((n : Int) ≤ 40) = false := decide_eq_false h4
        have HF : Hid (r = false) := by show _ = _; rw [← HR.out]; unfold fewP; rw [HA.out, decide_eq_false (by have := HL.out; omega)]; rfl
        go_wp2_with fail
        go_ret
        exact ⟨by rw [HF.out]; rfl, rfl⟩
end Go.Proofs.Yteihffnmgacfpaa.Ne
