/- Shares: the example; the law walked. -/
import Derived.Test.YtjejpaladjfegaaApG
import Derived.Test.YtjejpaladjfegaaIs
namespace Go.Proofs.Ytjejpaladjfegaa.Ap
open Go.RowKit Go.V Go.Proofs Go.Sort Go.Shelf
open Go.Proofs.Ytjejpaladjfegaa.Ne (icod int_at box_new box_cell)
open Go.Proofs.Ytjejpaladjfegaa.Ir Go.Proofs.Ytjejpaladjfegaa.Is

theorem ex_filled {S : List Pty} {out : List Int} (hP : S.Perm (ptys 10 3 [1, 1, 1])) (hW : Whole S 3) (hF : Filled S 3 1 out) : out = [4, 3, 3] := by
  have hall : ∀ (i : Nat) (p : Pty), S[i]? = some p → p.share = 3 ∧ p.rest = 1 := by
    intro i p hi
    have hm := hP.mem_iff.1 (List.mem_of_getElem? hi)
    have e : ptys 10 3 [1, 1, 1] = [⟨0, 3, 1⟩, ⟨1, 3, 1⟩, ⟨2, 3, 1⟩] := by simp [ptys, ptyAt, List.mapIdx_cons]
    rw [e] at hm
    simp at hm
    rcases hm with h | h | h <;> subst h <;> exact ⟨rfl, rfl⟩
  have h0 : ∀ (i : Nat) (p : Pty), S[i]? = some p → p.place = 0 → i = 0 := by
    intro i p hi hp
    rcases Nat.eq_zero_or_pos i with h | h
    · exact h
    · exfalso
      have hl := (List.getElem?_eq_some_iff.1 hi).1
      have hq : S[0]? = some S[0] := List.getElem?_eq_getElem (by omega)
      have hs := hW.sorted 0 i _ p hq hi h
      obtain ⟨l0, -, -⟩ := hW.low 0 _ hq
      have r1 := (hall 0 _ hq).2
      have r2 := (hall i p hi).2
      unfold ltP at hs; omega
  refine hF.same hW ⟨rfl, fun i p hi => ?_⟩
  obtain ⟨p0, p1, -⟩ := hW.low i p hi
  obtain ⟨s1, -⟩ := hall i p hi
  rw [s1]
  have hcase : p.place = 0 ∨ p.place = 1 ∨ p.place = 2 := by omega
  have hi0 : p.place ≠ 0 → ¬ i < 1 := by
    intro hne hlt
    obtain ⟨j, q, hj, hq⟩ := hW.all 0 (by omega)
    have := h0 j q hj hq
    have : i = j := by omega
    subst this
    rw [hj] at hi; cases hi
    exact hne (by omega)
  rcases hcase with e | e | e
  · rw [e, h0 i p hi e]; rfl
  · rw [e, if_neg (hi0 (by omega))]; rfl
  · rw [e, if_neg (hi0 (by omega))]; rfl

set_option maxHeartbeats 1000000 in
theorem awake55_any (w : World) : Calls Try.prog 47 #[] w fun e w' => e = .returned (.bool true) ∧ RowKit.Below w.heap.size w w' := by
  have HS0 := Lib.hid (sl_new (c := icod) w #[.int .i64 1, .int .i64 1, .int .i64 1] 3 [1, 1, 1] 3 rfl (by unfold maxLen; omega) rfl)
  have HB0 : Hid (RowKit.Below w.heap.size w (w.alloc (.cells #[.int .i64 1, .int .i64 1, .int .i64 1] 3))) := (Below.refl _ _).alloc (Nat.le_refl _) _
  have HM : Hid (shMay 10 [1, 1, 1] = true) := by show _ = _; decide
  go_enter Try.func47, Try.ntmps47
  go_upto_region 2 with (go_at_call 48; go_loud (refine (shares_any 10 (some ⟨w.heap.size, 0, none⟩) 3 3 [1, 1, 1] _ (by omega) HS0.out).mono ?_); rintro e w1 ⟨-, hy, hb⟩; obtain ⟨v, out, S, rfl, ho, hP, hW, hF⟩ := hy HM.out; have he := ex_filled hP hW hF; subst he; have HO := Lib.hid ho; have HB1 := Lib.hid (HB0.out.trans (hb.mono HB0.out.size)); clear hy hb ho hP hW hF)
  obtain ⟨a, c, hv, hs, -⟩ := HO.out.slice
  subst hv
  have HSL := Lib.hid hs
  clear hs
  go_wp2_with (go_at_call 23; go_loud (refine (isame_any a 3 c [4, 3, 3] _ _ _ [4, 3, 3] _ (HSL.out.below ((Below.refl _ _).alloc (Nat.le_refl _) _)) (sl_new (c := icod) _ #[.int .i64 4, .int .i64 3, .int .i64 3] 3 [4, 3, 3] 3 rfl (by unfold maxLen; omega) rfl)).mono ?_); rintro e w2 ⟨rfl, hb2⟩; have HB2 := Lib.hid ((HB1.out.alloc HB1.out.size (.cells #[.int .i64 4, .int .i64 3, .int .i64 3] 3)).trans (hb2.mono (by have := HB1.out.size; simp; omega))); clear hb2)
  go_ret
  exact ⟨rfl, HB2.out⟩

set_option maxHeartbeats 1000000 in
theorem ashares_law (amount : Int) (a : Option Addr) (n cap : Nat) (ws : List Int) (w : World) (h : Sl icod w a n cap ws) :
    Calls Try.prog 8 #[.int .i64 amount, .slice a n cap] w fun e w' => e = .returned (.bool true) ∧ RowKit.Below w.heap.size w w' := by
  have HH := Lib.hid h
  have hcap := h.hcap
  have hmax := h.hmax
  unfold maxLen at hmax
  clear h
  by_cases h200 : (200 : Int) < (n : Int)
  · go_enter Try.func8, Try.ntmps8
    go_wp2_with (go_at_call 47; refine (awake55_any _).mono ?_; rintro e w1 ⟨rfl, hb⟩; have HB1 := Lib.hid hb; clear hb)
    go_ret
    exact ⟨rfl, HB1.out⟩
  · have hn : n ≤ 200 := by omega
    cases hm : shMay amount ws with
    | false =>
      have HM := Lib.hid hm
      clear hm
      go_enter Try.func8, Try.ntmps8
      go_wp2_with (first
        | (go_at_call 47; refine (awake55_any _).mono ?_; rintro e w1 ⟨rfl, hb⟩; have HB1 := Lib.hid hb; clear hb)
        | (go_at_call 48; refine (shares_any amount a n cap ws _ hn (HH.out.below HB1.out)).mono ?_; rintro e w2 ⟨hno, -, hb⟩; have he := hno HM.out; subst he; have HB2 := Lib.hid (HB1.out.trans (hb.mono HB1.out.size)); clear hno hb)
        | (go_at_call 49; refine (rmay_any amount a n cap ws _ hn (HH.out.below HB2.out)).mono ?_; rintro e w3 ⟨rfl, rfl⟩; rw [HM.out]))
      go_ret
      exact ⟨rfl, HB2.out⟩
    | true =>
      have HM := Lib.hid hm
      clear hm
      go_enter Try.func8, Try.ntmps8
      go_upto_region 8 with (first
        | (go_at_call 47; refine (awake55_any _).mono ?_; rintro e w1 ⟨rfl, hb⟩; have HB1 := Lib.hid hb; clear hb)
        | (go_at_call 48; refine (shares_any amount a n cap ws _ hn (HH.out.below HB1.out)).mono ?_; rintro e w2 ⟨-, hy, hb⟩; obtain ⟨v, out, S, rfl, ho, hP, hW, hF⟩ := hy HM.out; have HB2 := Lib.hid (HB1.out.trans (hb.mono HB1.out.size)); have HO2 := Lib.hid ho; have HP := Lib.hid hP; have HW := Lib.hid hW; have HF := Lib.hid hF; clear hy hb ho hP hW hF)
        | (go_at_call 49; refine (rmay_any amount a n cap ws _ hn (HH.out.below HB2.out)).mono ?_; rintro e w3 ⟨rfl, rfl⟩; rw [HM.out]))
      obtain ⟨va, vc, hv, hs, -⟩ := HO2.out.slice
      subst hv
      have HSL := Lib.hid hs
      obtain ⟨ol, hol⟩ : ∃ ol, out.length = ol := ⟨_, rfl⟩
      rw [hol] at HSL HO2 ⊢
      clear hs hol
      go_wp2_with (first
        | (go_at_call 50; go_loud (refine (rshares_any amount a n cap ws S _ (HH.out.below HB2.out) HM.out HP.out HW.out).mono ?_); rintro e w4 ⟨u, out2, rfl, ho, hF, hb⟩; have he := hF.same HW.out HF.out; subst he; obtain ⟨ua, uc, hu, hs, -⟩ := ho.slice; subst hu; have HS4 := Lib.hid hs; have HSL4 := Lib.hid (HSL.out.below hb); have HB4 := Lib.hid (HB2.out.trans (hb.mono HB2.out.size)); clear ho hF hb hs)
        | (go_at_call 23; go_loud (refine (isame_any va ol vc _ ua _ uc _ _ HSL4.out HS4.out).mono ?_); rintro e w5 ⟨rfl, hb⟩; have HB5 := Lib.hid (HB4.out.trans (hb.mono HB4.out.size)); clear hb))
      go_ret
      exact ⟨ret_bool (by simp), HB5.out⟩
end Go.Proofs.Ytjejpaladjfegaa.Ap
