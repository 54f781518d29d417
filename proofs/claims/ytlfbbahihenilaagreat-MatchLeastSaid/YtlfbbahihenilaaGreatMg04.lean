/- Ways: filters; who can: walked. -/
/- Ways: who can, the document's word: walked. -/
/- Are two lists one: the document's, walked. -/
import Derived.Test.YtlfbbahihenilaaGreatMg03
import Derived.Test.YtlfbbahihenilaaGreatMg00
import Derived.BigQuiet
import Derived.Deep.QuietTactic
namespace Go.Proofs.YtlfbbahihenilaaGreat.Ne
open Go.RowKit Go.V Go.Proofs

theorem mayF_iff (f : Flt) (b : Bool) (h : b = true ↔ (1 ≤ f.speed ∧ f.speed ≤ 1024) ∧ 0 ≤ f.gap ∧ f.gap ≤ 1099511627776) : b = mayF f := by
  rw [Bool.eq_iff_iff, h]
  unfold mayF wB
  simp only [Bool.and_eq_true, decide_eq_true_eq]
theorem mayF_in {f : Flt} (h : mayF f = true) : (1 ≤ f.speed ∧ f.speed ≤ 1024) ∧ 0 ≤ f.gap ∧ f.gap ≤ 1099511627776 := by
  unfold mayF wB at h
  simp only [Bool.and_eq_true, decide_eq_true_eq] at h
  exact h
set_option maxHeartbeats 2000000 in
theorem fmay_any (f : Flt) (w : World) : Calls Tryz.prog 28 #[f.val] w fun e w' => e = .returned (.bool (mayF f)) ∧ Below w.heap.size w w' := by
  obtain ⟨sp, gp⟩ := f
  have HX := Lib.hid (box_new w (Flt.mk sp gp).box)
  obtain ⟨c0, c1, -, -⟩ := box2_cells HX.out
  have HB : Hid (Below w.heap.size w (w.alloc (Flt.mk sp gp).box)) := (Below.refl _ _).alloc (Nat.le_refl _) _
  have HS : Hid (∀ b, (b = true ↔ (1 ≤ sp ∧ sp ≤ 1024) ∧ 0 ≤ gp ∧ gp ≤ 1099511627776) → b = mayF ⟨sp, gp⟩) := fun b h => mayF_iff ⟨sp, gp⟩ b h
  by_cases h1 : 1 ≤ sp
  · by_cases h2 : sp ≤ 1024
    · by_cases h3 : 0 ≤ gp
      all_goals
        go_enter Tryz.func28, Tryz.ntmps28
        go_wp2
        go_ret
        exact ⟨ret_bool (HS.out _ (by simp [*] <;> omega)), HB.out⟩
    · go_enter Tryz.func28, Tryz.ntmps28
      go_wp2
      go_ret
      exact ⟨ret_bool (HS.out _ (by simp [*] <;> omega)), HB.out⟩
  · go_enter Tryz.func28, Tryz.ntmps28
    go_wp2
    go_ret
    exact ⟨ret_bool (HS.out _ (by simp <;> omega)), HB.out⟩
set_option maxHeartbeats 2000000 in
theorem rfmay_any (f : Flt) (w : World) : Calls Tryz.prog 30 #[f.val] w fun e w' => e = .returned (.bool (mayF f)) ∧ Below w.heap.size w w' := by
  obtain ⟨sp, gp⟩ := f
  have HX := Lib.hid (box_new w (Flt.mk sp gp).box)
  obtain ⟨c0, c1, -, -⟩ := box2_cells HX.out
  have HB : Hid (Below w.heap.size w (w.alloc (Flt.mk sp gp).box)) := (Below.refl _ _).alloc (Nat.le_refl _) _
  have HS : Hid (∀ b, (b = true ↔ (1 ≤ sp ∧ sp ≤ 1024) ∧ 0 ≤ gp ∧ gp ≤ 1099511627776) → b = mayF ⟨sp, gp⟩) := fun b h => mayF_iff ⟨sp, gp⟩ b h
  by_cases h1 : 1 ≤ sp
  · by_cases h2 : sp ≤ 1024
    · by_cases h3 : 0 ≤ gp
      all_goals
        go_enter Tryz.func30, Tryz.ntmps30
        go_wp2
        go_ret
        exact ⟨ret_bool (HS.out _ (by simp [*] <;> omega)), HB.out⟩
    · go_enter Tryz.func30, Tryz.ntmps30
      go_wp2
      go_ret
      exact ⟨ret_bool (HS.out _ (by simp [*] <;> omega)), HB.out⟩
  · go_enter Tryz.func30, Tryz.ntmps30
    go_wp2
    go_ret
    exact ⟨ret_bool (HS.out _ (by simp <;> omega)), HB.out⟩

theorem canE_no {f : Flt} {a b : Smp} (h : mayF f = false ∨ smpB a = false ∨ smpB b = false ∨ b.t < a.t) : canE f a b = false := by
  unfold canE
  rcases h with h | h | h | h
  · rw [h]; simp
  · rw [h]; simp
  · rw [h]; simp
  · rw [show decide (a.t ≤ b.t) = false from decide_eq_false (by omega)]; simp
theorem canE_yes {f : Flt} {a b : Smp} (h1 : mayF f = true) (h2 : smpB a = true) (h3 : smpB b = true) (h4 : a.t ≤ b.t) : canE f a b = decide (sqG ⟨a.x, a.y⟩ ⟨b.x, b.y⟩ ≤ farS f a b * farS f a b) := by
  unfold canE
  rw [h1, h2, h3, decide_eq_true h4]
  simp
theorem smp_in {s : Smp} (h : smpB s = true) : (0 ≤ s.t ∧ s.t ≤ 1099511627776) ∧ (0 ≤ s.x ∧ s.x ≤ 67108863) ∧ 0 ≤ s.y ∧ s.y ≤ 67108863 := by
  unfold smpB wB at h
  simp only [Bool.and_eq_true, decide_eq_true_eq] at h
  exact ⟨h.1.1, h.1.2, h.2⟩
set_option maxHeartbeats 4000000 in
set_option maxRecDepth 100000 in
theorem can_any (f : Flt) (a b : Smp) (w : World) : Calls Tryz.prog 79 #[f.val, a.val, b.val] w fun e w' => e = .returned (.bool (canE f a b)) ∧ Below w.heap.size w w' := by
  obtain ⟨sp, gp⟩ := f
  obtain ⟨at_, ax, ay⟩ := a
  obtain ⟨bt, bx, by_⟩ := b
  have HX0 := Lib.hid (box_alloc (o := .cells #[.int .i64 bt, .int .i64 bx, .int .i64 by_] 73) (box_alloc (o := .cells #[.int .i64 at_, .int .i64 ax, .int .i64 ay] 73) (box_new w (Flt.mk sp gp).box)))
  have HY0 := Lib.hid (box_alloc (o := .cells #[.int .i64 bt, .int .i64 bx, .int .i64 by_] 73) (box_new (w.alloc (Flt.mk sp gp).box) (.cells #[.int .i64 at_, .int .i64 ax, .int .i64 ay] 73)))
  have HZ0 := Lib.hid (box_new ((w.alloc (Flt.mk sp gp).box).alloc (.cells #[.int .i64 at_, .int .i64 ax, .int .i64 ay] 73)) (.cells #[.int .i64 bt, .int .i64 bx, .int .i64 by_] 73))
  have HB0 : Hid (Below w.heap.size w (((w.alloc (Flt.mk sp gp).box).alloc (.cells #[.int .i64 at_, .int .i64 ax, .int .i64 ay] 73)).alloc (.cells #[.int .i64 bt, .int .i64 bx, .int .i64 by_] 73))) := (((Below.refl _ _).alloc (Nat.le_refl _) _).alloc (by simp) _).alloc (by simp; omega) _
  rw [World.size_alloc] at HY0
  rw [World.size_alloc, World.size_alloc] at HZ0
  obtain ⟨x0, x1, -, -⟩ := box2_cells HX0.out
  obtain ⟨y0, y1, y2, -, -, -⟩ := box3_cells HY0.out
  obtain ⟨z0, z1, z2, -, -, -⟩ := box3_cells HZ0.out
  obtain ⟨b1, e1⟩ : ∃ b, mayF ⟨sp, gp⟩ = b := ⟨_, rfl⟩
  obtain ⟨b2, e2⟩ : ∃ b, smpB ⟨at_, ax, ay⟩ = b := ⟨_, rfl⟩
  obtain ⟨b3, e3⟩ : ∃ b, smpB ⟨bt, bx, by_⟩ = b := ⟨_, rfl⟩
  have E1 := Lib.hid e1
  have E2 := Lib.hid e2
  have E3 := Lib.hid e3
  clear e1 e2 e3
  cases b1 with
  | false =>
    go_enter Tryz.func79, Tryz.ntmps79
    go_wp2_with (go_at_call 28; go_fit (fmay_any ⟨sp, gp⟩ _); rintro e w1 ⟨rfl, hb1⟩; rw [E1.out]; have HB1 := Lib.hid (HB0.out.trans (hb1.mono HB0.out.size)); clear hb1)
    go_ret
    exact ⟨ret_bool (canE_no (.inl E1.out)).symm, HB1.out⟩
  | true =>
  cases b2 with
  | false =>
    go_enter Tryz.func79, Tryz.ntmps79
    go_wp2_with (first
      | (go_at_call 28; go_fit (fmay_any ⟨sp, gp⟩ _); rintro e w1 ⟨rfl, hb1⟩; rw [E1.out]; have HY1 := Lib.hid (box_below HY0.out hb1); obtain ⟨y0, y1, y2, -, -, -⟩ := box3_cells HY1.out; have HB1 := Lib.hid (HB0.out.trans (hb1.mono HB0.out.size)); clear hb1)
      | (go_at_call 50; go_fit (smay_any ⟨at_, ax, ay⟩ _); rintro e w2 ⟨rfl, hb2⟩; rw [E2.out]; have HB2 := Lib.hid (HB1.out.trans (hb2.mono HB1.out.size)); clear hb2))
    go_ret
    exact ⟨ret_bool (canE_no (.inr (.inl E2.out))).symm, HB2.out⟩
  | true =>
  cases b3 with
  | false =>
    go_enter Tryz.func79, Tryz.ntmps79
    go_wp2_with (first
      | (go_at_call 28; go_fit (fmay_any ⟨sp, gp⟩ _); rintro e w1 ⟨rfl, hb1⟩; rw [E1.out]; have HY1 := Lib.hid (box_below HY0.out hb1); have HZ1 := Lib.hid (box_below HZ0.out hb1); obtain ⟨y0, y1, y2, -, -, -⟩ := box3_cells HY1.out; have HB1 := Lib.hid (HB0.out.trans (hb1.mono HB0.out.size)); clear hb1)
      | (go_at_call 50; go_fit (smay_any ⟨at_, ax, ay⟩ _); rintro e w2 ⟨rfl, hb2⟩; rw [E2.out]; have HZ2 := Lib.hid (box_below HZ1.out hb2); obtain ⟨z0, z1, z2, -, -, -⟩ := box3_cells HZ2.out; have HB2 := Lib.hid (HB1.out.trans (hb2.mono HB1.out.size)); clear hb2)
      | (go_at_call 50; go_fit (smay_any ⟨bt, bx, by_⟩ _); rintro e w3 ⟨rfl, hb3⟩; rw [E3.out]; have HB3 := Lib.hid (HB2.out.trans (hb3.mono HB2.out.size)); clear hb3))
    go_ret
    exact ⟨ret_bool (canE_no (.inr (.inr (.inl E3.out)))).symm, HB3.out⟩
  | true =>
  by_cases ht : bt < at_
  · go_enter Tryz.func79, Tryz.ntmps79
    go_wp2_with (first
      | (go_at_call 28; go_fit (fmay_any ⟨sp, gp⟩ _); rintro e w1 ⟨rfl, hb1⟩; rw [E1.out]; have HY1 := Lib.hid (box_below HY0.out hb1); have HZ1 := Lib.hid (box_below HZ0.out hb1); obtain ⟨y0, y1, y2, -, -, -⟩ := box3_cells HY1.out; have HB1 := Lib.hid (HB0.out.trans (hb1.mono HB0.out.size)); clear hb1)
      | (go_at_call 50; go_fit (smay_any ⟨at_, ax, ay⟩ _); rintro e w2 ⟨rfl, hb2⟩; rw [E2.out]; have HY2 := Lib.hid (box_below HY1.out hb2); have HZ2 := Lib.hid (box_below HZ1.out hb2); obtain ⟨z0, z1, z2, -, -, -⟩ := box3_cells HZ2.out; have HB2 := Lib.hid (HB1.out.trans (hb2.mono HB1.out.size)); clear hb2)
      | (go_at_call 50; go_fit (smay_any ⟨bt, bx, by_⟩ _); rintro e w3 ⟨rfl, hb3⟩; rw [E3.out]; have HY3 := Lib.hid (box_below HY2.out hb3); have HZ3 := Lib.hid (box_below HZ2.out hb3); obtain ⟨y0, y1, y2, -, -, -⟩ := box3_cells HY3.out; obtain ⟨z0, z1, z2, -, -, -⟩ := box3_cells HZ3.out; have HB3 := Lib.hid (HB2.out.trans (hb3.mono HB2.out.size)); clear hb3))
    go_ret
    exact ⟨ret_bool (canE_no (.inr (.inr (.inr ht)))).symm, HB3.out⟩
  · have htd : decide (bt < at_) = false := decide_eq_false ht
    have HE : Hid (canE ⟨sp, gp⟩ ⟨at_, ax, ay⟩ ⟨bt, bx, by_⟩ = decide (sqG ⟨ax, ay⟩ ⟨bx, by_⟩ ≤ farS ⟨sp, gp⟩ ⟨at_, ax, ay⟩ ⟨bt, bx, by_⟩ * farS ⟨sp, gp⟩ ⟨at_, ax, ay⟩ ⟨bt, bx, by_⟩)) := canE_yes E1.out E2.out E3.out (by show at_ ≤ bt; omega)
    obtain ⟨⟨k1, k2⟩, -⟩ := mayF_in E1.out
    obtain ⟨⟨a1, a2⟩, -⟩ := smp_in E2.out
    obtain ⟨⟨c1, c2⟩, -⟩ := smp_in E3.out
    have hws : IntKind.i64.wrap (bt - at_) = bt - at_ := by rw [IntKind.wrap_i64]; simp at a1 a2 c1 c2; omega
    have hp : 0 ≤ sp * (bt - at_) ∧ sp * (bt - at_) ≤ 1024 * 1099511627776 := ⟨Int.mul_nonneg (by simp at k1; omega) (by omega), Int.mul_le_mul k2 (by simp at a1 c2; omega) (by omega) (by decide)⟩
    have hwp : IntKind.i64.wrap (sp * (bt - at_)) = sp * (bt - at_) := by rw [IntKind.wrap_i64]; omega
    obtain ⟨fr, hfr⟩ : ∃ fr, farS ⟨sp, gp⟩ ⟨at_, ax, ay⟩ ⟨bt, bx, by_⟩ = fr := ⟨_, rfl⟩
    obtain ⟨pr, hpr⟩ : ∃ pr, sp * (bt - at_) = pr := ⟨_, rfl⟩
    have hfr2 : min pr 134217728 = fr := by rw [← hfr, ← hpr]; rfl
    have hfr3 : (if 134217728 < pr then 134217728 else pr) = fr := by rw [← hfr2]; split <;> omega
    have hf : 0 ≤ fr ∧ fr ≤ 134217728 := by omega
    have hff : 0 ≤ fr * fr ∧ fr * fr ≤ 134217728 * 134217728 := ⟨Int.mul_nonneg hf.1 hf.1, Int.mul_le_mul hf.2 hf.2 hf.1 (by decide)⟩
    have hwf : IntKind.i64.wrap (fr * fr) = fr * fr := by rw [IntKind.wrap_i64]; omega
    rw [hfr] at HE
    rw [hpr] at hwp
    obtain ⟨sq, hsq⟩ : ∃ sq, sqG ⟨ax, ay⟩ ⟨bx, by_⟩ = sq := ⟨_, rfl⟩
    rw [hsq] at HE
    have HSQ := Lib.hid hsq
    have HFR2 := Lib.hid hfr2
    have HFR3 := Lib.hid hfr3
    clear hp hff hf hfr hfr2 hsq k1 k2 a1 a2 c1 c2
    have HPR := Lib.hid hpr
    clear hfr3
    go_enter Tryz.func79, Tryz.ntmps79
    go_upto_region 4 with (first
      | (go_at_call 28; go_fit (fmay_any ⟨sp, gp⟩ _); rintro e w1 ⟨rfl, hb1⟩; rw [E1.out]; have HX1 := Lib.hid (box_below HX0.out hb1); have HY1 := Lib.hid (box_below HY0.out hb1); have HZ1 := Lib.hid (box_below HZ0.out hb1); obtain ⟨y0, y1, y2, -, -, -⟩ := box3_cells HY1.out; have HB1 := Lib.hid (HB0.out.trans (hb1.mono HB0.out.size)); clear hb1)
      | (go_at_call 50; go_fit (smay_any ⟨at_, ax, ay⟩ _); rintro e w2 ⟨rfl, hb2⟩; rw [E2.out]; have HX2 := Lib.hid (box_below HX1.out hb2); have HY2 := Lib.hid (box_below HY1.out hb2); have HZ2 := Lib.hid (box_below HZ1.out hb2); obtain ⟨z0, z1, z2, -, -, -⟩ := box3_cells HZ2.out; have HB2 := Lib.hid (HB1.out.trans (hb2.mono HB1.out.size)); clear hb2)
      | (go_at_call 50; go_fit (smay_any ⟨bt, bx, by_⟩ _); rintro e w3 ⟨rfl, hb3⟩; rw [E3.out]; have HX3 := Lib.hid (box_below HX2.out hb3); have HY3 := Lib.hid (box_below HY2.out hb3); have HZ3 := Lib.hid (box_below HZ2.out hb3); obtain ⟨x0, x1, -, -⟩ := box2_cells HX3.out; obtain ⟨y0, y1, y2, -, -, -⟩ := box3_cells HY3.out; obtain ⟨z0, z1, z2, -, -, -⟩ := box3_cells HZ3.out; have HB3 := Lib.hid (HB2.out.trans (hb3.mono HB2.out.size)); clear hb3))
    go_upto_region 5 with fail
    first | rw [HFR3.out] | rw [HFR2.out]
    by_cases hle : sq ≤ fr * fr
    all_goals
      go_wp2_with (go_at_call 103; go_fit (gsq_any ⟨ax, ay⟩ ⟨bx, by_⟩ _); rintro e w4 ⟨rfl, hb4⟩; rw [HSQ.out]; have HB4 := Lib.hid (HB3.out.trans (hb4.mono HB3.out.size)); clear hb4)
      go_ret
      exact ⟨by rw [HE.out]; exact ret_bool (by simp [hle]), HB4.out⟩
end Go.Proofs.YtlfbbahihenilaaGreat.Ne

namespace Go.Proofs.YtlfbbahihenilaaGreat.Ne
open Go.RowKit Go.V Go.Proofs

theorem sqG_smp {a b : Smp} (ha : smpB a = true) (hb : smpB b = true) : sqG ⟨a.x, a.y⟩ ⟨b.x, b.y⟩ = (a.x - b.x) * (a.x - b.x) + (a.y - b.y) * (a.y - b.y) := by
  obtain ⟨-, ⟨a3, a4⟩, a5, a6⟩ := smp_in ha
  obtain ⟨-, ⟨c3, c4⟩, c5, c6⟩ := smp_in hb
  unfold sqG stpB
  rw [if_pos ⟨decide_eq_true (by simp only []; omega), decide_eq_true (by simp only []; omega)⟩]
set_option maxHeartbeats 4000000 in
set_option maxRecDepth 100000 in
theorem rcan_any (f : Flt) (a b : Smp) (w : World) : Calls Tryz.prog 60 #[f.val, a.val, b.val] w fun e w' => e = .returned (.bool (canE f a b)) ∧ Below w.heap.size w w' := by
  obtain ⟨sp, gp⟩ := f
  obtain ⟨at_, ax, ay⟩ := a
  obtain ⟨bt, bx, by_⟩ := b
  have HX0 := Lib.hid (box_alloc (o := .cells #[.int .i64 bt, .int .i64 bx, .int .i64 by_] 73) (box_alloc (o := .cells #[.int .i64 at_, .int .i64 ax, .int .i64 ay] 73) (box_new w (Flt.mk sp gp).box)))
  have HY0 := Lib.hid (box_alloc (o := .cells #[.int .i64 bt, .int .i64 bx, .int .i64 by_] 73) (box_new (w.alloc (Flt.mk sp gp).box) (.cells #[.int .i64 at_, .int .i64 ax, .int .i64 ay] 73)))
  have HZ0 := Lib.hid (box_new ((w.alloc (Flt.mk sp gp).box).alloc (.cells #[.int .i64 at_, .int .i64 ax, .int .i64 ay] 73)) (.cells #[.int .i64 bt, .int .i64 bx, .int .i64 by_] 73))
  have HB0 : Hid (Below w.heap.size w (((w.alloc (Flt.mk sp gp).box).alloc (.cells #[.int .i64 at_, .int .i64 ax, .int .i64 ay] 73)).alloc (.cells #[.int .i64 bt, .int .i64 bx, .int .i64 by_] 73))) := (((Below.refl _ _).alloc (Nat.le_refl _) _).alloc (by simp) _).alloc (by simp; omega) _
  rw [World.size_alloc] at HY0
  rw [World.size_alloc, World.size_alloc] at HZ0
  obtain ⟨x0, x1, -, -⟩ := box2_cells HX0.out
  obtain ⟨y0, y1, y2, -, -, -⟩ := box3_cells HY0.out
  obtain ⟨z0, z1, z2, -, -, -⟩ := box3_cells HZ0.out
  obtain ⟨b1, e1⟩ : ∃ b, mayF ⟨sp, gp⟩ = b := ⟨_, rfl⟩
  obtain ⟨b2, e2⟩ : ∃ b, smpB ⟨at_, ax, ay⟩ = b := ⟨_, rfl⟩
  obtain ⟨b3, e3⟩ : ∃ b, smpB ⟨bt, bx, by_⟩ = b := ⟨_, rfl⟩
  have E1 := Lib.hid e1
  have E2 := Lib.hid e2
  have E3 := Lib.hid e3
  clear e1 e2 e3
  cases b1 with
  | false =>
    go_enter Tryz.func60, Tryz.ntmps60
    go_wp2_with (go_at_call 30; go_fit (rfmay_any ⟨sp, gp⟩ _); rintro e w1 ⟨rfl, hb1⟩; rw [E1.out]; have HB1 := Lib.hid (HB0.out.trans (hb1.mono HB0.out.size)); clear hb1)
    go_ret
    exact ⟨ret_bool (canE_no (.inl E1.out)).symm, HB1.out⟩
  | true =>
  cases b2 with
  | false =>
    go_enter Tryz.func60, Tryz.ntmps60
    go_wp2_with (first
      | (go_at_call 30; go_fit (rfmay_any ⟨sp, gp⟩ _); rintro e w1 ⟨rfl, hb1⟩; rw [E1.out]; have HY1 := Lib.hid (box_below HY0.out hb1); obtain ⟨y0, y1, y2, -, -, -⟩ := box3_cells HY1.out; have HB1 := Lib.hid (HB0.out.trans (hb1.mono HB0.out.size)); clear hb1)
      | (go_at_call 89; go_fit (rsmay_any ⟨at_, ax, ay⟩ _); rintro e w2 ⟨rfl, hb2⟩; rw [E2.out]; have HB2 := Lib.hid (HB1.out.trans (hb2.mono HB1.out.size)); clear hb2))
    go_ret
    exact ⟨ret_bool (canE_no (.inr (.inl E2.out))).symm, HB2.out⟩
  | true =>
  cases b3 with
  | false =>
    go_enter Tryz.func60, Tryz.ntmps60
    go_wp2_with (first
      | (go_at_call 30; go_fit (rfmay_any ⟨sp, gp⟩ _); rintro e w1 ⟨rfl, hb1⟩; rw [E1.out]; have HY1 := Lib.hid (box_below HY0.out hb1); have HZ1 := Lib.hid (box_below HZ0.out hb1); obtain ⟨y0, y1, y2, -, -, -⟩ := box3_cells HY1.out; have HB1 := Lib.hid (HB0.out.trans (hb1.mono HB0.out.size)); clear hb1)
      | (go_at_call 89; go_fit (rsmay_any ⟨at_, ax, ay⟩ _); rintro e w2 ⟨rfl, hb2⟩; rw [E2.out]; have HZ2 := Lib.hid (box_below HZ1.out hb2); obtain ⟨z0, z1, z2, -, -, -⟩ := box3_cells HZ2.out; have HB2 := Lib.hid (HB1.out.trans (hb2.mono HB1.out.size)); clear hb2)
      | (go_at_call 89; go_fit (rsmay_any ⟨bt, bx, by_⟩ _); rintro e w3 ⟨rfl, hb3⟩; rw [E3.out]; have HB3 := Lib.hid (HB2.out.trans (hb3.mono HB2.out.size)); clear hb3))
    go_ret
    exact ⟨ret_bool (canE_no (.inr (.inr (.inl E3.out)))).symm, HB3.out⟩
  | true =>
  by_cases ht : bt < at_
  · go_enter Tryz.func60, Tryz.ntmps60
    go_wp2_with (first
      | (go_at_call 30; go_fit (rfmay_any ⟨sp, gp⟩ _); rintro e w1 ⟨rfl, hb1⟩; rw [E1.out]; have HY1 := Lib.hid (box_below HY0.out hb1); have HZ1 := Lib.hid (box_below HZ0.out hb1); obtain ⟨y0, y1, y2, -, -, -⟩ := box3_cells HY1.out; have HB1 := Lib.hid (HB0.out.trans (hb1.mono HB0.out.size)); clear hb1)
      | (go_at_call 89; go_fit (rsmay_any ⟨at_, ax, ay⟩ _); rintro e w2 ⟨rfl, hb2⟩; rw [E2.out]; have HY2 := Lib.hid (box_below HY1.out hb2); have HZ2 := Lib.hid (box_below HZ1.out hb2); obtain ⟨z0, z1, z2, -, -, -⟩ := box3_cells HZ2.out; have HB2 := Lib.hid (HB1.out.trans (hb2.mono HB1.out.size)); clear hb2)
      | (go_at_call 89; go_fit (rsmay_any ⟨bt, bx, by_⟩ _); rintro e w3 ⟨rfl, hb3⟩; rw [E3.out]; have HY3 := Lib.hid (box_below HY2.out hb3); have HZ3 := Lib.hid (box_below HZ2.out hb3); obtain ⟨y0, y1, y2, -, -, -⟩ := box3_cells HY3.out; obtain ⟨z0, z1, z2, -, -, -⟩ := box3_cells HZ3.out; have HB3 := Lib.hid (HB2.out.trans (hb3.mono HB2.out.size)); clear hb3))
    go_ret
    exact ⟨ret_bool (canE_no (.inr (.inr (.inr ht)))).symm, HB3.out⟩
  · have htd : decide (bt < at_) = false := decide_eq_false ht
    have HE : Hid (canE ⟨sp, gp⟩ ⟨at_, ax, ay⟩ ⟨bt, bx, by_⟩ = decide (sqG ⟨ax, ay⟩ ⟨bx, by_⟩ ≤ farS ⟨sp, gp⟩ ⟨at_, ax, ay⟩ ⟨bt, bx, by_⟩ * farS ⟨sp, gp⟩ ⟨at_, ax, ay⟩ ⟨bt, bx, by_⟩)) := canE_yes E1.out E2.out E3.out (by show at_ ≤ bt; omega)
    obtain ⟨⟨k1, k2⟩, -⟩ := mayF_in E1.out
    obtain ⟨⟨a1, a2⟩, ⟨a3, a4⟩, a5, a6⟩ := smp_in E2.out
    obtain ⟨⟨c1, c2⟩, ⟨c3, c4⟩, c5, c6⟩ := smp_in E3.out
    simp only [] at k1 k2 a1 a2 a3 a4 a5 a6 c1 c2 c3 c4 c5 c6
    have hq := sqG_smp E2.out E3.out
    simp only [] at hq
    have hxx := sq_in (a := ax) (b := bx) (by omega) (by omega)
    have hyy := sq_in (a := ay) (b := by_) (by omega) (by omega)
    have hws : IntKind.i64.wrap (bt - at_) = bt - at_ := by rw [IntKind.wrap_i64]; omega
    have hwx : IntKind.i64.wrap (ax - bx) = ax - bx := by rw [IntKind.wrap_i64]; omega
    have hwy : IntKind.i64.wrap (ay - by_) = ay - by_ := by rw [IntKind.wrap_i64]; omega
    have hp : 0 ≤ sp * (bt - at_) ∧ sp * (bt - at_) ≤ 1024 * 1099511627776 := ⟨Int.mul_nonneg (by omega) (by omega), Int.mul_le_mul k2 (by omega) (by omega) (by decide)⟩
    have hpt : bt - at_ ≤ sp * (bt - at_) := by
      have := Int.mul_le_mul k1 (Int.le_refl (bt - at_)) (by omega) (by omega)
      rwa [Int.one_mul] at this
    have hwp : IntKind.i64.wrap (sp * (bt - at_)) = sp * (bt - at_) := by rw [IntKind.wrap_i64]; omega
    obtain ⟨tt, htt⟩ : ∃ tt, bt - at_ = tt := ⟨_, rfl⟩
    obtain ⟨xx, hxe⟩ : ∃ xx, ax - bx = xx := ⟨_, rfl⟩
    obtain ⟨yy, hye⟩ : ∃ yy, ay - by_ = yy := ⟨_, rfl⟩
    rw [htt] at hws hp hpt hwp
    rw [hxe] at hwx hxx hq
    rw [hye] at hwy hyy hq
    obtain ⟨pr, hpr⟩ : ∃ pr, sp * tt = pr := ⟨_, rfl⟩
    rw [hpr] at hp hpt hwp
    have hfr : farS ⟨sp, gp⟩ ⟨at_, ax, ay⟩ ⟨bt, bx, by_⟩ = min pr 134217728 := by rw [← hpr, ← htt]; rfl
    rw [hfr, hq] at HE
    obtain ⟨x2, hx2⟩ : ∃ x2, xx * xx = x2 := ⟨_, rfl⟩
    obtain ⟨y2, hy2⟩ : ∃ y2, yy * yy = y2 := ⟨_, rfl⟩
    rw [hx2, hy2] at HE
    rw [hx2] at hxx
    rw [hy2] at hyy
    have hwx2 : IntKind.i64.wrap x2 = x2 := by rw [IntKind.wrap_i64]; omega
    have hwy2 : IntKind.i64.wrap y2 = y2 := by rw [IntKind.wrap_i64]; omega
    have hwxy : IntKind.i64.wrap (x2 + y2) = x2 + y2 := by rw [IntKind.wrap_i64]; omega
    by_cases ht28 : 268435456 < tt
    · have HT : Hid (canE ⟨sp, gp⟩ ⟨at_, ax, ay⟩ ⟨bt, bx, by_⟩ = true) := by
        show _ = _
        rw [HE.out, show min pr 134217728 = 134217728 by omega]
        exact decide_eq_true (by omega)
      clear hp hxx hyy hq hfr hpt k1 k2 a1 a2 a3 a4 a5 a6 c1 c2 c3 c4 c5 c6
      go_enter Tryz.func60, Tryz.ntmps60
      go_wp2_with (first
        | (go_at_call 30; go_fit (rfmay_any ⟨sp, gp⟩ _); rintro e w1 ⟨rfl, hb1⟩; rw [E1.out]; have HX1 := Lib.hid (box_below HX0.out hb1); have HY1 := Lib.hid (box_below HY0.out hb1); have HZ1 := Lib.hid (box_below HZ0.out hb1); obtain ⟨y0, y1, y2, -, -, -⟩ := box3_cells HY1.out; have HB1 := Lib.hid (HB0.out.trans (hb1.mono HB0.out.size)); clear hb1)
        | (go_at_call 89; go_fit (rsmay_any ⟨at_, ax, ay⟩ _); rintro e w2 ⟨rfl, hb2⟩; rw [E2.out]; have HX2 := Lib.hid (box_below HX1.out hb2); have HY2 := Lib.hid (box_below HY1.out hb2); have HZ2 := Lib.hid (box_below HZ1.out hb2); obtain ⟨z0, z1, z2, -, -, -⟩ := box3_cells HZ2.out; have HB2 := Lib.hid (HB1.out.trans (hb2.mono HB1.out.size)); clear hb2)
        | (go_at_call 89; go_fit (rsmay_any ⟨bt, bx, by_⟩ _); rintro e w3 ⟨rfl, hb3⟩; rw [E3.out]; have HX3 := Lib.hid (box_below HX2.out hb3); have HY3 := Lib.hid (box_below HY2.out hb3); have HZ3 := Lib.hid (box_below HZ2.out hb3); obtain ⟨x0, x1, -, -⟩ := box2_cells HX3.out; obtain ⟨y0, y1, y2, -, -, -⟩ := box3_cells HY3.out; obtain ⟨z0, z1, z2, -, -, -⟩ := box3_cells HZ3.out; have HB3 := Lib.hid (HB2.out.trans (hb3.mono HB2.out.size)); clear hb3))
      go_ret
      exact ⟨by rw [HT.out]; rfl, HB3.out⟩
    have htd28 : decide (268435456 < tt) = false := decide_eq_false ht28
    by_cases hp28 : 268435456 < pr
    · have HT : Hid (canE ⟨sp, gp⟩ ⟨at_, ax, ay⟩ ⟨bt, bx, by_⟩ = true) := by
        show _ = _
        rw [HE.out, show min pr 134217728 = 134217728 by omega]
        exact decide_eq_true (by omega)
      clear hp hxx hyy hq hfr hpt k1 k2 a1 a2 a3 a4 a5 a6 c1 c2 c3 c4 c5 c6 ht28
      go_enter Tryz.func60, Tryz.ntmps60
      go_wp2_with (first
        | (go_at_call 30; go_fit (rfmay_any ⟨sp, gp⟩ _); rintro e w1 ⟨rfl, hb1⟩; rw [E1.out]; have HX1 := Lib.hid (box_below HX0.out hb1); have HY1 := Lib.hid (box_below HY0.out hb1); have HZ1 := Lib.hid (box_below HZ0.out hb1); obtain ⟨y0, y1, y2, -, -, -⟩ := box3_cells HY1.out; have HB1 := Lib.hid (HB0.out.trans (hb1.mono HB0.out.size)); clear hb1)
        | (go_at_call 89; go_fit (rsmay_any ⟨at_, ax, ay⟩ _); rintro e w2 ⟨rfl, hb2⟩; rw [E2.out]; have HX2 := Lib.hid (box_below HX1.out hb2); have HY2 := Lib.hid (box_below HY1.out hb2); have HZ2 := Lib.hid (box_below HZ1.out hb2); obtain ⟨z0, z1, z2, -, -, -⟩ := box3_cells HZ2.out; have HB2 := Lib.hid (HB1.out.trans (hb2.mono HB1.out.size)); clear hb2)
        | (go_at_call 89; go_fit (rsmay_any ⟨bt, bx, by_⟩ _); rintro e w3 ⟨rfl, hb3⟩; rw [E3.out]; have HX3 := Lib.hid (box_below HX2.out hb3); have HY3 := Lib.hid (box_below HY2.out hb3); have HZ3 := Lib.hid (box_below HZ2.out hb3); obtain ⟨x0, x1, -, -⟩ := box2_cells HX3.out; obtain ⟨y0, y1, y2, -, -, -⟩ := box3_cells HY3.out; obtain ⟨z0, z1, z2, -, -, -⟩ := box3_cells HZ3.out; have HB3 := Lib.hid (HB2.out.trans (hb3.mono HB2.out.size)); clear hb3))
      go_ret
      exact ⟨by rw [HT.out]; rfl, HB3.out⟩
    have hpd28 : decide (268435456 < pr) = false := decide_eq_false hp28
    have hpp : 0 ≤ pr * pr ∧ pr * pr ≤ 268435456 * 268435456 := ⟨Int.mul_nonneg hp.1 hp.1, Int.mul_le_mul (by omega) (by omega) hp.1 (by decide)⟩
    have hwpp : IntKind.i64.wrap (pr * pr) = pr * pr := by rw [IntKind.wrap_i64]; omega
    have HT : Hid (canE ⟨sp, gp⟩ ⟨at_, ax, ay⟩ ⟨bt, bx, by_⟩ = decide (x2 + y2 ≤ pr * pr)) := by
      show _ = _
      rw [HE.out]
      by_cases h27 : pr ≤ 134217728
      · rw [show min pr 134217728 = pr by omega]
      · have h54 : (134217728 : Int) * 134217728 ≤ pr * pr := Int.mul_le_mul (by omega) (by omega) (by decide) (by omega)
        rw [show min pr 134217728 = 134217728 by omega, decide_eq_true (by omega), decide_eq_true (by omega)]
    clear hp hxx hyy hq hfr hpt k1 k2 a1 a2 a3 a4 a5 a6 c1 c2 c3 c4 c5 c6 ht28 hp28 hpp
    by_cases hle : x2 + y2 ≤ pr * pr
    all_goals
      go_enter Tryz.func60, Tryz.ntmps60
      go_wp2_with (first
        | (go_at_call 30; go_fit (rfmay_any ⟨sp, gp⟩ _); rintro e w1 ⟨rfl, hb1⟩; rw [E1.out]; have HX1 := Lib.hid (box_below HX0.out hb1); have HY1 := Lib.hid (box_below HY0.out hb1); have HZ1 := Lib.hid (box_below HZ0.out hb1); obtain ⟨y0, y1, y2, -, -, -⟩ := box3_cells HY1.out; have HB1 := Lib.hid (HB0.out.trans (hb1.mono HB0.out.size)); clear hb1)
        | (go_at_call 89; go_fit (rsmay_any ⟨at_, ax, ay⟩ _); rintro e w2 ⟨rfl, hb2⟩; rw [E2.out]; have HX2 := Lib.hid (box_below HX1.out hb2); have HY2 := Lib.hid (box_below HY1.out hb2); have HZ2 := Lib.hid (box_below HZ1.out hb2); obtain ⟨z0, z1, z2, -, -, -⟩ := box3_cells HZ2.out; have HB2 := Lib.hid (HB1.out.trans (hb2.mono HB1.out.size)); clear hb2)
        | (go_at_call 89; go_fit (rsmay_any ⟨bt, bx, by_⟩ _); rintro e w3 ⟨rfl, hb3⟩; rw [E3.out]; have HX3 := Lib.hid (box_below HX2.out hb3); have HY3 := Lib.hid (box_below HY2.out hb3); have HZ3 := Lib.hid (box_below HZ2.out hb3); obtain ⟨x0, x1, -, -⟩ := box2_cells HX3.out; obtain ⟨y0, y1, y2, -, -, -⟩ := box3_cells HY3.out; obtain ⟨z0, z1, z2, -, -, -⟩ := box3_cells HZ3.out; have HB3 := Lib.hid (HB2.out.trans (hb3.mono HB2.out.size)); clear hb3))
      go_ret
      exact ⟨by rw [HT.out]; exact ret_bool (by simp [hle]), HB3.out⟩
end Go.Proofs.YtlfbbahihenilaaGreat.Ne

namespace Go.Proofs.YtlfbbahihenilaaGreat.Is
open Go.RowKit Go.V Go.Proofs
open Go.Proofs.YtlfbbahihenilaaGreat.Ne (icod int_at below_drewN)

set_option maxHeartbeats 1000000 in
theorem isame_any (a1 : Option Addr) (n1 cap1 : Nat) (xs : List Int) (a2 : Option Addr) (n2 cap2 : Nat) (ys : List Int) (w : World) (h1 : Sl icod w a1 n1 cap1 xs) (h2 : Sl icod w a2 n2 cap2 ys) :
    Calls Tryz.prog 32 #[.slice a1 n1 cap1, .slice a2 n2 cap2] w fun e w' => e = .returned (.bool (decide (xs = ys))) ∧ Below w.heap.size w w' := by
  have hN := Lib.hid h1.hlen
  have hM := Lib.hid h2.hlen
  have hm : n1 ≤ 9223372036854775807 := by have := h1.hcap; have := h1.hmax; unfold maxLen at this; omega
  by_cases hlen : n1 = n2
  · subst hlen
    go_enter Tryz.func32, Tryz.ntmps32
    go_wp2
    go_loopw [5] (fun i wr => ∃ (k : Nat), k ≤ n1 ∧ i = .int .i64 k ∧ Hid (xs.take k = ys.take k) ∧ Below w.heap.size w wr) (fun i _ => n1 - (intOf i).toNat)
    case atStart => exact ⟨0, by omega, rfl, by show _ = _; rw [List.take_zero, List.take_zero], Below.refl _ _⟩
    case round =>
      obtain ⟨k, hk, rfl, he, hb⟩ := hrel
      by_cases hlt : k < n1
      · obtain ⟨b, off, r, rfl, -, hr, c0⟩ := int_at (h1.below hb) hlt
        obtain ⟨b', off', r', rfl, -, hr', c0'⟩ := int_at (h2.below hb) hlt
        have HR := Lib.hid hr
        have HR' := Lib.hid hr'
        have HB := Lib.hid hb
        have hltz : (k : Int) < n1 := by omega
        clear hr hr' hb
        by_cases heq : r = r'
        · subst heq
          go_wp2_with fail
          go_quiet (fail)
          go_wp2_with fail
          go_roundw
          case rel => exact ⟨k + 1, by omega, by go_num, by show _ = _; rw [take_at HR.out, take_at HR'.out, he.out], below_drewN HB.out _⟩
          case measure => simp [intOf]; omega
        · have hq : (r != r') = true := by simpa using heq
          have hq2 : (r == r') = false := by simpa using heq
          have HE := Lib.hid heq
          clear heq
          go_wp2_with fail
          go_quiet (fail)
          go_wp2_with fail
          go_ret
          exact ⟨ret_bool (by
            symm; rw [decide_eq_false_iff_not]
            intro h; apply HE.out
            have a1 := HR.out; have a2 := HR'.out
            rw [h, a2] at a1; exact (Option.some.inj a1).symm), below_drewN HB.out _⟩
      · have hk' : k = n1 := by omega
        have HK := Lib.hid hk'; clear hk'
        go_wp2
        go_ret
        exact ⟨ret_bool (by
          have e := he.out
          rw [HK.out, List.take_of_length_le (by rw [← hN.out]; omega), List.take_of_length_le (by rw [← hM.out]; omega)] at e
          simp [e]), hb⟩
  · have hl : (((n1 : Int)) != (n2 : Int)) = true := by simp; omega
    have HL := Lib.hid hlen
    clear hlen
    go_enter Tryz.func32, Tryz.ntmps32
    go_wp2
    go_ret
    exact ⟨ret_bool (by
      have := HL.out
      symm; rw [decide_eq_false_iff_not]
      intro h; apply this; rw [hN.out, hM.out, h]), Below.refl _ _⟩

end Go.Proofs.YtlfbbahihenilaaGreat.Is
