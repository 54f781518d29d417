/- Networks: the chapter's example, walked. -/
import Derived.Test.YtnjgonplojpcnaaNuT
import Derived.Test.YtnjgonplojpcnaaNfB
import Derived.Test.YtnjgonplojpcnaaIs
namespace Go.Proofs.Ytnjgonplojpcnaa.Ne
open Go.RowKit Go.V Go.Proofs Go.Sort
open Go.Proofs.Ytnjgonplojpcnaa.Is (isame_any)

def exQ : Net := ⟨1, [⟨0, 0⟩, ⟨0, 0⟩, ⟨0, 0⟩], [⟨0, 2, 1⟩]⟩
theorem exQ_ok : checkE exQ = 0 := by decide
theorem exQ_parts : lst (sprdN exQ.links id 3) 3 = [0, 1, 0] := by decide +kernel

set_option maxHeartbeats 2000000 in
set_option maxRecDepth 100000 in
theorem awake15_any (w : World) : Calls Try.prog 17 #[] w fun e w' => e = .returned (.bool true) ∧ Below w.heap.size w w' := by
  have hmk : ∀ w, (Instr.makeSlice 43 (.int .i64 3) (.int .i64 3)).run Try.prog w = .ok (.slice (some ⟨w.heap.size, 0, none⟩) 3 3) (w.alloc (.cells #[.int .i64 0, .int .i64 0, .int .i64 0, .int .i64 0, .int .i64 0, .int .i64 0] 99)) := fun w => by
    have h := make_stops 3 (by omega) w
    have e : madeCells #[.int .i64 0, .int .i64 0] (3 * 2) = #[.int .i64 0, .int .i64 0, .int .i64 0, .int .i64 0, .int .i64 0, .int .i64 0] := by kernel_rfl
    rw [e] at h
    exact h
  go_enter Try.func17, Try.ntmps17
  have HN : Hid (NetIn ((w.alloc (.cells #[.int .i64 0, .int .i64 0, .int .i64 0, .int .i64 0, .int .i64 0, .int .i64 0] 99)).alloc (.cells #[.int .i64 0, .int .i64 2, .int .i64 1] 63)) exQ ⟨some ⟨w.heap.size, 0, none⟩, 3, 3⟩ ⟨some ⟨w.heap.size + 1, 0, none⟩, 1, 1⟩) :=
    ⟨(sl_new (c := Stp.cod) w _ _ exQ.stops 3 rfl (by unfold maxLen; omega) rfl).below ((Below.refl _ _).alloc (Nat.le_refl _) _), by have := sl_new (c := lcod) (w.alloc (.cells #[.int .i64 0, .int .i64 0, .int .i64 0, .int .i64 0, .int .i64 0, .int .i64 0] 99)) #[.int .i64 0, .int .i64 2, .int .i64 1] 63 exQ.links 1 rfl (by unfold maxLen; omega) rfl; simpa using this⟩
  have HB0 : Hid (Below w.heap.size w ((w.alloc (.cells #[.int .i64 0, .int .i64 0, .int .i64 0, .int .i64 0, .int .i64 0, .int .i64 0] 99)).alloc (.cells #[.int .i64 0, .int .i64 2, .int .i64 1] 63))) := ((Below.refl _ _).alloc (Nat.le_refl _) _).alloc (by simp) _
  go_wp2_with (first
    | (go_at_call 26; go_loud (refine (parts_any exQ ⟨some ⟨w.heap.size, 0, none⟩, 3, 3⟩ ⟨some ⟨w.heap.size + 1, 0, none⟩, 1, 1⟩ _ ⟨by show 3 ≤ 1000000; omega, by show 1 ≤ 1000000; omega⟩ HN.out).mono ?_); rintro e w1 ⟨hb, -, hf⟩; obtain ⟨v, rfl, ho⟩ := hf exQ_ok; obtain ⟨va, vc, hv, hsl, -⟩ := ho.slice; subst hv; rw [lst_len] at hsl ⊢; have HB1 := Lib.hid (HB0.out.trans (hb.mono HB0.out.size)); have HSL : Hid (Sl icod w1 va 3 vc [0, 1, 0]) := (by have := hsl; rw [exQ_parts] at this; exact this); clear hb hf ho hsl)
    | (go_at_call 47; go_loud (refine (isame_any va 3 vc [0, 1, 0] _ _ _ [0, 1, 0] _ (HSL.out.below ((Below.refl _ _).alloc (Nat.le_refl _) _)) (sl_new (c := icod) _ #[.int .i64 0, .int .i64 1, .int .i64 0] 3 [0, 1, 0] 3 rfl (by unfold maxLen; omega) rfl)).mono ?_); rintro e w2 ⟨rfl, hb2⟩; have HB2 := Lib.hid ((HB1.out.alloc HB1.out.size (.cells #[.int .i64 0, .int .i64 1, .int .i64 0] 3)).trans (hb2.mono (by have := HB1.out.size; simp; omega))); clear hb2))
  go_ret
  exact ⟨rfl, HB2.out⟩

end Go.Proofs.Ytnjgonplojpcnaa.Ne
