/- The transfer layer: lists of groups held against one another. -/
import Derived.Test.YtdkgjheldpdohaaTrH
import Derived.Test.YtdkgjheldpdohaaBase2
namespace Go.Proofs.Ytdkgjheldpdohaa
open Go.RowKit Go.V Go.Sort Go.Shelf Go.Proofs Go.Maps

set_option maxHeartbeats 1000000 in
theorem lsame_any (a1 : Option Addr) (n1 cap1 : Nat) (hs1 : List Hdr) (xs : List (List Ride)) (a2 : Option Addr) (n2 cap2 : Nat) (hs2 : List Hdr) (ys : List (List Ride)) (w : World) (hm : n1 ≤ 1000000) (hl : ∀ x ∈ xs, x.length ≤ 1000000)
    (h1 : Sls Ride.cod w a1 n1 cap1 hs1 xs) (h2 : Sls Ride.cod w a2 n2 cap2 hs2 ys) :
    Calls Try.prog 7 #[.slice a1 n1 cap1, .slice a2 n2 cap2] w fun e w' => e = .returned (.bool (decide (xs = ys))) ∧ Below w.heap.size w w' := by
  have hN := Lib.hid h1.n_eq
  have hM := Lib.hid h2.n_eq
  have mixed : Try.prog.follows .mixedOrders = true := by kernel_rfl
  by_cases hlen : n1 = n2
  · subst hlen
    go_enter Try.func7, Try.ntmps7
    go_wp2_with fail
    go_loopw [13] (fun i wr => ∃ (k : Nat), k ≤ n1 ∧ i = .int .i64 k ∧ Hid (xs.take k = ys.take k) ∧ Below w.heap.size w wr) (fun i _ => n1 - (intOf i).toNat)
    case atStart => exact ⟨0, by omega, rfl, by show _ = _; rw [List.take_zero, List.take_zero], Below.refl _ _⟩
    case round =>
      obtain ⟨k, hk, rfl, he, hb⟩ := hrel
      by_cases hlt : k < n1
      · obtain ⟨b, off, g, x, rfl, hbl, hg, hx, hc, hsx⟩ := (h1.below hb).at hlt
        obtain ⟨b', off', g', y, rfl, hbl', hg', hy, hc', hsy⟩ := (h2.below hb).at hlt
        have HX := Lib.hid hx
        have HY := Lib.hid hy
        have HB := Lib.hid hb
        have hbs := hb.size
        have HSX := Lib.hid hsx
        have HSY := Lib.hid hsy
        have hgn : g.n ≤ 1000000 := by have := hl x (List.mem_of_getElem? hx); have := hsx.hlen; omega
        have C := cell_regrown hc
        have C' := cell_regrown hc'
        have b1 : (k : Int) < (n1 : Int) := by omega
        clear hx hy hb hg hg' hsx hsy hc hc'
        go_wp2_with fail
        refine wp_region_quiet_below (by assumption) (by kernel_rfl) ?_
        repeat (quiet_step (first | (go_at_call 8; exact Calls.regrown_of (same_any _ _ _ x _ _ _ y _ hgn (HSX.out.below (below_regrown _ _ _)) (HSY.out.below (below_regrown _ _ _))))))
        refine wpQuiet_nil ?_
        intro w2 hw2
        obtain ⟨⟨nd, osq⟩, rfl⟩ := hw2
        have hb2 := below_regrown wr nd osq
        generalize grow (redrawn wr nd) osq = w2 at hb2 ⊢
        have HB3 : Hid (Below w.heap.size w w2) := HB.out.trans (hb2.mono hbs)
        clear hb2 C C'
        obtain ⟨bb, hbb⟩ : ∃ bb, decide (x = y) = bb := ⟨_, rfl⟩
        rw [hbb]
        cases bb with
        | true =>
          have HE := Lib.hid (of_decide_eq_true hbb)
          clear hbb
          go_wp2_with fail
          go_roundw
          case rel => exact ⟨k + 1, by omega, by go_num, by show _ = _; rw [take_at HX.out, take_at HY.out, he.out, HE.out], HB3.out⟩
          case measure => simp [intOf]; omega
        | false =>
          have HE := Lib.hid (of_decide_eq_false hbb)
          clear hbb
          go_wp2_with fail
          go_ret
          exact ⟨ret_bool (by
            symm; rw [decide_eq_false_iff_not]
            intro h; apply HE.out
            have a1 := HX.out; have a2 := HY.out
            rw [h, a2] at a1; exact (Option.some.inj a1).symm), HB3.out⟩
      · have hk' : k = n1 := by omega
        have HK := Lib.hid hk'; clear hk'
        go_wp2
        go_ret
        exact ⟨ret_bool (by
          have e := he.out
          rw [HK.out, List.take_of_length_le (by rw [← hN.out]; omega), List.take_of_length_le (by rw [← hM.out]; omega)] at e
          simp [e]), hb⟩
  · have hl : (((n1 : Int)) != (n2 : Int)) = true := by simp; omega
    have HL := Lib.hid hlen
    clear hlen
    go_enter Try.func7, Try.ntmps7
    go_wp2
    go_ret
    exact ⟨ret_bool (by
      have := HL.out
      symm; rw [decide_eq_false_iff_not]
      intro h; apply this; rw [hN.out, hM.out, h]), Below.refl _ _⟩
end Go.Proofs.Ytdkgjheldpdohaa
