/- Networks: few stops and links; few points. -/
import Derived.Test.YthhpgahnhpgmeaaNeW
import Derived.Test.YthhpgahnhpgmeaaNoD
import Derived.Test.YthhpgahnhpgmeaaNfB
namespace Go.Proofs.Ythhpgahnhpgmeaa.Ne
open Go.RowKit Go.V Go.Proofs Go.Sort Go.Maps

def fewG (g : List Pnt) : Bool := decide (g.length ≤ 30)
def fewP (gs : List (List Pnt)) : Bool := gs.all fewG && decide (gs.length ≤ 40)
set_option maxHeartbeats 1000000 in
theorem fewP_any (a : Option Addr) (n cap : Nat) (gs : List (List Pnt)) (w : World) (h : PtsIn w a n cap gs) :
    Calls Try.prog 19 #[.slice a n cap] w fun e w' => e = .returned (.bool (fewP gs)) ∧ w = w' := by
  have hn := h.len.2
  have HL := Lib.hid h.len.1
  have HH := Lib.hid h
  obtain ⟨r, hr⟩ : ∃ r, fewP gs = r := ⟨_, rfl⟩
  have HR := Lib.hid hr
  rw [hr]
  clear h hr
  go_enter Try.func19, Try.ntmps19
  go_wp2_with fail
  go_loop [7] (fun i => ∃ k : Nat, i = .int .i64 k ∧ k ≤ n ∧ Hid ((gs.take k).all fewG = true)) (fun i => n - (intOf i).toNat)
  case atStart => exact ⟨0, by go_num, by omega, rfl⟩
  case round =>
    obtain ⟨k, rfl, hk, HK⟩ := hrel
    by_cases hlt : k < n
    · obtain ⟨b, off, x, g, rfl, hbl, hg, hc, hq⟩ := HH.out.at hlt
      have hx9 : x.n ≤ 9223372036854775807 := by have := hq.hcap; have := hq.hmax; unfold maxLen at this; omega
      have HXG := Lib.hid hq.hlen
      have HG := Lib.hid hg
      clear hg hq
      by_cases hs : (30 : Int) < (x.n : Int)
      · have HF : Hid (r = false) := by
          show _ = _
          rw [← HR.out]
          cases hh : fewP gs
          · rfl
          · unfold fewP at hh
            rw [Bool.and_eq_true] at hh
            have h1 := List.all_eq_true.1 hh.1 g (List.mem_of_getElem? HG.out)
            unfold fewG at h1
            have h2 := of_decide_eq_true h1
            have := HXG.out
            omega
        go_wp2_with fail
        go_ret
        exact ⟨by rw [HF.out]; rfl, rfl⟩
      · have hs' : decide ((30 : Int) < (x.n : Int)) = false := decide_eq_false hs
        have HK2 : Hid ((gs.take (k + 1)).all fewG = true) := by
          show _ = _
          rw [take_at HG.out, List.all_append, HK.out]
          have : fewG g = true := decide_eq_true (by have := HXG.out; omega)
          simp [this]
        go_wp2_with fail
        go_round
        case rel => exact ⟨k + 1, by go_num, by omega, HK2.out⟩
        case measure => simp [intOf]; omega
    · have hk' : n = k := by omega
      subst hk'
      have HA : Hid (gs.all fewG = true) := by
        show _ = _
        have := HK.out
        rw [List.take_of_length_le (by have := HL.out; omega)] at this; exact this
      by_cases h4 : (n : Int) ≤ 40
      · have HF : Hid (r = true) := by show _ = _; rw [← HR.out]; unfold fewP; rw [HA.out, decide_eq_true (by have := HL.out; omega)]; rfl
        go_wp2_with fail
        go_ret
        exact ⟨by rw [HF.out]; rfl, rfl⟩
      · have h4' : decide ((n : Int) ≤ 40) = false := decide_eq_false h4
        have HF : Hid (r = false) := by show _ = _; rw [← HR.out]; unfold fewP; rw [HA.out, decide_eq_false (by have := HL.out; omega)]; rfl
        go_wp2_with fail
        go_ret
        exact ⟨by rw [HF.out]; rfl, rfl⟩
end Go.Proofs.Ythhpgahnhpgmeaa.Ne
