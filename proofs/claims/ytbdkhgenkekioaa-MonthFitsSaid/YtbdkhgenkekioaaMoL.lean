/- Months: which a play goes through with; one closed: walked. -/
import Derived.Test.YtbdkhgenkekioaaMoK
namespace Go.Proofs.Ytbdkhgenkekioaa
open Go.RowKit Go.V Go.Sort Go.Shelf Go.Proofs Go.Maps
open Go.Proofs.Ytbdkhgenkekioaa.Ne (box_alloc box_new box_cell box_below box_lt box2_cells)

def FewM (ms : List Mon) : Prop := (∀ m ∈ ms, m.rides.length ≤ 50) ∧ ms.length ≤ 20
instance (ms : List Mon) : Decidable (FewM ms) := inferInstanceAs (Decidable (_ ∧ _))
set_option maxHeartbeats 2000000 in
theorem few37_any (a : Option Addr) (n cap : Nat) (hs : List Hdr) (ms : List Mon) (w : World) (h : MonIn w a n cap hs ms) :
    Calls Try.prog 8 #[.slice a n cap] w fun e w' => e = .returned (.bool (decide (FewM ms))) ∧ Below w.heap.size w w' := by
  have HN := Lib.hid h.n_eq
  have hnm : n ≤ 9223372036854775807 := by have := h.hd.hcap; have := h.hd.hmax; unfold maxLen at this; omega
  go_enter Try.func8, Try.ntmps8
  go_wp2_with fail
  go_loopw [7] (fun i wr => ∃ k : Nat, i = .int .i64 k ∧ k ≤ n ∧ Hid (∀ i m, i < k → ms[i]? = some m → m.rides.length ≤ 50) ∧ Hid (Below w.heap.size w wr)) (fun i _ => n - (intOf i).toNat)
  case atStart => exact ⟨0, rfl, by omega, fun i m hi => by omega, Below.refl _ _⟩
  case round =>
    obtain ⟨k, rfl, hk, hf, hB⟩ := hrel
    have hbs := hB.out.size
    by_cases hlt : k < n
    · obtain ⟨b, off, at_, ct, m, rfl, hbb, hm, -, ⟨c0, c1, c2, c3, c4, c5⟩, hrd⟩ := (h.below hB.out).at hlt
      have HM := Lib.hid hm
      have b1 : (k : Int) < (n : Int) := by omega
      have hln : m.rides.length ≤ 9223372036854775807 := by have := hrd.hcap; have := hrd.hmax; unfold maxLen at this; omega
      have HRD := Lib.hid hrd
      clear hm hrd
      by_cases hbig : 50 < m.rides.length
      · go_wp2_with fail
        go_ret
        exact ⟨ret_bool (by symm; rw [decide_eq_false_iff_not]; intro q; have := q.1 m (List.mem_of_getElem? HM.out); omega), hB.out.alloc hbs _⟩
      · go_wp2_with fail
        go_roundw
        case rel =>
          refine ⟨k + 1, by go_num, by omega, fun i x hi hx => ?_, hB.out.alloc hbs _⟩
          by_cases e : i = k
          · subst e
            have := hx.symm.trans HM.out
            cases this
            omega
          · exact hf.out i x (by omega) hx
        case measure => simp [intOf]; omega
    · have hk' : k = n := by omega
      subst hk'
      go_wp2_with fail
      go_ret
      refine ⟨ret_bool ?_, hB.out⟩
      rw [Bool.eq_iff_iff]
      simp only [decide_eq_true_iff]
      have hN := HN.out
      constructor
      · intro q
        refine ⟨fun m hm => ?_, by omega⟩
        obtain ⟨i, hi⟩ := List.mem_iff_getElem?.1 hm
        exact hf.out i m (by have := (List.getElem?_eq_some_iff.1 hi).1; omega) hi
      · intro q
        have := q.2
        omega
end Go.Proofs.Ytbdkhgenkekioaa
