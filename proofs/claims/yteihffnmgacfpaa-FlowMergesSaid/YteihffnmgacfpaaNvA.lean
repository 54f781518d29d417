/- Networks: the paths' example walked; what path.From and path.Way hand back, in one form. -/
import Derived.Test.YteihffnmgacfpaaNsD
import Derived.Test.YteihffnmgacfpaaNeZ
import Derived.Test.YteihffnmgacfpaaNuQ
namespace Go.Proofs.Yteihffnmgacfpaa.Ne
open Go.RowKit Go.V Go.Proofs Go.Sort

def exW : Net := ⟨1, [⟨0, 0⟩, ⟨0, 0⟩, ⟨0, 0⟩], [⟨0, 1, 4⟩, ⟨1, 2, 6⟩]⟩
theorem exW_ok : wayErr exW 3 0 2 = 0 ∧ wayFar exW 3 0 2 = 10 := by decide +kernel
theorem exW_way : wayL exW.links 3 0 2 = [0, 1, 2] := by decide +kernel

set_option maxHeartbeats 2000000 in
set_option maxRecDepth 100000 in
theorem awake17_any (w : World) : Calls Try.prog 43 #[] w fun e w' => e = .returned (.bool true) ∧ Below w.heap.size w w' := by
  have hmk : ∀ w, (Instr.makeSlice 22 (.int .i64 3) (.int .i64 3)).run Try.prog w = .ok (.slice (some ⟨w.heap.size, 0, none⟩) 3 3) (w.alloc (.cells #[.int .i64 0, .int .i64 0, .int .i64 0, .int .i64 0, .int .i64 0, .int .i64 0] 99)) := fun w => by
    have h := make_stops 3 (by omega) w
    have e : madeCells #[.int .i64 0, .int .i64 0] (3 * 2) = #[.int .i64 0, .int .i64 0, .int .i64 0, .int .i64 0, .int .i64 0, .int .i64 0] := by kernel_rfl
    rw [e] at h
    exact h
  go_enter Try.func43, Try.ntmps43
  have HN : Hid (NetIn ((w.alloc (.cells #[.int .i64 0, .int .i64 0, .int .i64 0, .int .i64 0, .int .i64 0, .int .i64 0] 99)).alloc (.cells #[.int .i64 0, .int .i64 1, .int .i64 4, .int .i64 1, .int .i64 2, .int .i64 6] 49)) exW ⟨some ⟨w.heap.size, 0, none⟩, 3, 3⟩ ⟨some ⟨w.heap.size + 1, 0, none⟩, 2, 2⟩) :=
    ⟨(sl_new (c := Stp.cod) w _ _ exW.stops 3 rfl (by unfold maxLen; omega) rfl).below ((Below.refl _ _).alloc (Nat.le_refl _) _), by have := sl_new (c := lcod) (w.alloc (.cells #[.int .i64 0, .int .i64 0, .int .i64 0, .int .i64 0, .int .i64 0, .int .i64 0] 99)) #[.int .i64 0, .int .i64 1, .int .i64 4, .int .i64 1, .int .i64 2, .int .i64 6] 49 exW.links 2 rfl (by unfold maxLen; omega) rfl; simpa using this⟩
  have HB0 : Hid (Below w.heap.size w ((w.alloc (.cells #[.int .i64 0, .int .i64 0, .int .i64 0, .int .i64 0, .int .i64 0, .int .i64 0] 99)).alloc (.cells #[.int .i64 0, .int .i64 1, .int .i64 4, .int .i64 1, .int .i64 2, .int .i64 6] 49))) := ((Below.refl _ _).alloc (Nat.le_refl _) _).alloc (by simp) _
  go_wp2_with (first
    | (go_at_call 45; go_loud (refine (pway_any exW ⟨some ⟨w.heap.size, 0, none⟩, 3, 3⟩ ⟨some ⟨w.heap.size + 1, 0, none⟩, 2, 2⟩ 0 2 _ (by show 3 ≤ 60; omega) (by show 2 ≤ 120; omega) (HN.out.below ((Below.refl _ _).alloc (Nat.le_refl _) _))).mono ?_); rintro e w1 ⟨v, rfl, ho, hb⟩; have ho2 := ho.yes exW_ok.1; rw [exW_way] at ho2; obtain ⟨va, vc, hv, hsl, -⟩ := ho2.slice; subst hv; rw [exW_ok.1, exW_ok.2]; have HB1 := Lib.hid ((HB0.out.alloc HB0.out.size _).trans (hb.mono (by simp; omega))); have HSL : Hid (Sl icod w1 va 3 vc [0, 1, 2]) := hsl; clear hb ho ho2 hsl)
    | (go_at_call 27; go_loud (refine (isame_any va 3 vc [0, 1, 2] _ _ _ [0, 1, 2] _ (HSL.out.below ((Below.refl _ _).alloc (Nat.le_refl _) _)) (sl_new (c := icod) _ #[.int .i64 0, .int .i64 1, .int .i64 2] 3 [0, 1, 2] 3 rfl (by unfold maxLen; omega) rfl)).mono ?_); rintro e w2 ⟨rfl, hb2⟩; have HB2 := Lib.hid ((HB1.out.alloc HB1.out.size (.cells #[.int .i64 0, .int .i64 1, .int .i64 2] 3)).trans (hb2.mono (by have := HB1.out.size; simp; omega))); clear hb2))
  go_ret
  exact ⟨rfl, HB2.out⟩

theorem pfrom_gen (n : Net) (hs hl : Hdr) (s : Int) (w : World) (hm : hs.n ≤ 1000000 ∧ hl.n ≤ 1000000) (h : NetIn w n hs hl) :
    Calls Try.prog 44 #[n.val hs hl, .int .i64 s] w fun e w' => ∃ fa fn fc, e = .returned (.tuple #[.slice fa fn fc, .int .i64 (fromE n s)]) ∧ (fromE n s ≠ 0 → fn = 0) ∧ (fromE n s = 0 → Sl icod w' fa fn fc (bf n.links hs.n s) ∧ fn = hs.n) ∧ Below w.heap.size w w' := by
  refine (pfrom_any n hs hl s w hm h).mono fun e w' hh => ?_
  obtain ⟨hb, h1, h2⟩ := hh
  have hk : hs.n = n.stops.length := h.s.hlen
  by_cases hf : fromE n s = 0
  · obtain ⟨o, cap, e1, ho⟩ := h2 hf
    rw [← hk] at ho
    exact ⟨_, _, _, by rw [e1, hf], fun q => absurd hf q, fun _ => ⟨(own_sl ho).1, rfl⟩, hb⟩
  · exact ⟨_, _, _, h1 hf, fun _ => rfl, fun q => absurd q hf, hb⟩
theorem pway_gen (n : Net) (hs hl : Hdr) (a b : Int) (w : World) (h60 : hs.n ≤ 60) (h120 : hl.n ≤ 120) (h : NetIn w n hs hl) :
    Calls Try.prog 45 #[n.val hs hl, .int .i64 a, .int .i64 b] w fun e w' => ∃ va vn vc, e = .returned (.tuple #[.slice va vn vc, .int .i64 (wayFar n hs.n a b), .int .i64 (wayErr n hs.n a b)]) ∧ (wayErr n hs.n a b ≠ 0 → vn = 0) ∧ (wayErr n hs.n a b = 0 → Sl icod w' va vn vc (wayL n.links hs.n a b) ∧ vn = (wayL n.links hs.n a b).length) ∧ Below w.heap.size w w' := by
  refine (pway_any n hs hl a b w h60 h120 h).mono fun e w' hh => ?_
  obtain ⟨v, e1, ho, hb⟩ := hh
  by_cases hf : wayErr n hs.n a b = 0
  · obtain ⟨va, vc, hv, hsl, -⟩ := (ho.yes hf).slice
    subst hv
    exact ⟨_, _, _, e1, fun q => absurd hf q, fun _ => ⟨hsl, rfl⟩, hb⟩
  · have hv := ho.no hf
    subst hv
    exact ⟨_, _, _, e1, fun _ => rfl, fun q => absurd q hf, hb⟩
end Go.Proofs.Yteihffnmgacfpaa.Ne
