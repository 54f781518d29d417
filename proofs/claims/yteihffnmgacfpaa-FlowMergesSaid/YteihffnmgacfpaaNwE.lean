/- Networks: flows: the example, walked. -/
import Derived.Test.YteihffnmgacfpaaNwC
namespace Go.Proofs.Yteihffnmgacfpaa.Ne
open Go.RowKit Go.V Go.Proofs Go.Sort Go.Maps

/-- What comes of a count. -/
def flowE (n : Net) (m k : Nat) (ps : List Pr2) : Fl := if checkE n = 0 then (cntF n k ps Fw.zero).fl m k else ⟨[], [], [], 0⟩
theorem flowE_yes {n : Net} {m k : Nat} {ps : List Pr2} (h : checkE n = 0) : flowE n m k ps = (cntF n k ps Fw.zero).fl m k := if_pos h
theorem sl_none {α : Type} {c : Cod α} (w : World) : Sl c w none 0 0 [] := ⟨rfl, Nat.le_refl _, by unfold maxLen; omega, fun _ => ⟨rfl, rfl⟩, fun d hd => nomatch hd⟩
theorem fcount_gen (n : Net) (hs hl : Hdr) (pa : Option Addr) (pn pc : Nat) (ps : List Pr2) (w : World) (h : NetIn w n hs hl) (hp : Sl pr2 w pa pn pc ps) (h60 : hs.n ≤ 60) (h120 : hl.n ≤ 120) (h4 : pn ≤ 4096) :
    Calls Try.prog 51 #[n.val hs hl, .slice pa pn pc] w fun e w' => ∃ a1 n1 q1 a2 n2 q2 a3 n3 q3, e = .returned (.tuple #[.agg #[.slice a1 n1 q1, .slice a2 n2 q2, .slice a3 n3 q3, .int .i64 (flowE n hl.n hs.n ps).lost], .int .i64 (checkE n)]) ∧ FlIn w' (flowE n hl.n hs.n ps) ⟨⟨a1, n1, q1⟩, ⟨a2, n2, q2⟩, ⟨a3, n3, q3⟩⟩ ∧ Below w.heap.size w w' ∧ FlNew w a1 a2 a3 := by
  refine (fcount_any n hs hl pa pn pc ps w h hp h60 h120 h4).mono fun e w' hh => ?_
  obtain ⟨hb, h1, h2⟩ := hh
  by_cases hc : checkE n = 0
  · obtain ⟨⟨⟨a1, n1, q1⟩, ⟨a2, n2, q2⟩, ⟨a3, n3, q3⟩⟩, e1, hf, hnw⟩ := h2 hc
    rw [← flowE_yes hc] at hf
    refine ⟨a1, n1, q1, a2, n2, q2, a3, n3, q3, ?_, hf, hb, hnw⟩
    rw [e1, hc, flowE_yes hc]; rfl
  · have e0 : flowE n hl.n hs.n ps = ⟨[], [], [], 0⟩ := if_neg hc
    rw [e0]
    exact ⟨none, 0, 0, none, 0, 0, none, 0, 0, h1 hc, ⟨sl_none _, sl_none _, sl_none _⟩, hb, fun d hd => by rcases hd with hd | hd | hd <;> cases hd⟩
theorem exW_check : checkE exW = 0 := by decide +kernel
theorem exW_flow : flowE exW 2 3 [⟨0, 2⟩] = ⟨[1, 1], [1, 0, 0], [0, 0, 1], 0⟩ := by decide +kernel

set_option maxHeartbeats 2000000 in
set_option maxRecDepth 100000 in
theorem awake52_any (w : World) : Calls Try.prog 50 #[] w fun e w' => e = .returned (.bool true) ∧ Below w.heap.size w w' := by
  have hmk : ∀ w, (Instr.makeSlice 22 (.int .i64 3) (.int .i64 3)).run Try.prog w = .ok (.slice (some ⟨w.heap.size, 0, none⟩) 3 3) (w.alloc (.cells #[.int .i64 0, .int .i64 0, .int .i64 0, .int .i64 0, .int .i64 0, .int .i64 0] 99)) := fun w => by
    have h := make_stops 3 (by omega) w
    have e : madeCells #[.int .i64 0, .int .i64 0] (3 * 2) = #[.int .i64 0, .int .i64 0, .int .i64 0, .int .i64 0, .int .i64 0, .int .i64 0] := by kernel_rfl
    rw [e] at h
    exact h
  go_enter Try.func50, Try.ntmps50
  have HN : Hid (NetIn ((w.alloc (.cells #[.int .i64 0, .int .i64 0, .int .i64 0, .int .i64 0, .int .i64 0, .int .i64 0] 99)).alloc (.cells #[.int .i64 0, .int .i64 1, .int .i64 4, .int .i64 1, .int .i64 2, .int .i64 6] 49)) exW ⟨some ⟨w.heap.size, 0, none⟩, 3, 3⟩ ⟨some ⟨w.heap.size + 1, 0, none⟩, 2, 2⟩) :=
    ⟨(sl_new (c := Stp.cod) w _ _ exW.stops 3 rfl (by unfold maxLen; omega) rfl).below ((Below.refl _ _).alloc (Nat.le_refl _) _), by have := sl_new (c := lcod) (w.alloc (.cells #[.int .i64 0, .int .i64 0, .int .i64 0, .int .i64 0, .int .i64 0, .int .i64 0] 99)) #[.int .i64 0, .int .i64 1, .int .i64 4, .int .i64 1, .int .i64 2, .int .i64 6] 49 exW.links 2 rfl (by unfold maxLen; omega) rfl; simpa using this⟩
  have HB0 : Hid (Below w.heap.size w ((w.alloc (.cells #[.int .i64 0, .int .i64 0, .int .i64 0, .int .i64 0, .int .i64 0, .int .i64 0] 99)).alloc (.cells #[.int .i64 0, .int .i64 1, .int .i64 4, .int .i64 1, .int .i64 2, .int .i64 6] 49))) := ((Below.refl _ _).alloc (Nat.le_refl _) _).alloc (by simp) _
  have HP : Hid (Sl pr2 ((((w.alloc (.cells #[.int .i64 0, .int .i64 0, .int .i64 0, .int .i64 0, .int .i64 0, .int .i64 0] 99)).alloc (.cells #[.int .i64 0, .int .i64 1, .int .i64 4, .int .i64 1, .int .i64 2, .int .i64 6] 49)).alloc (.cells #[.int .i64 1, .slice (some ⟨w.heap.size, 0, none⟩) 3 3, .slice (some ⟨w.heap.size + 1, 0, none⟩) 2 2] 25)).alloc (.cells #[.int .i64 0, .int .i64 2] 35)) (some ⟨w.heap.size + 1 + 1 + 1, 0, none⟩) 1 1 [⟨0, 2⟩]) := by
    have h := sl_new (c := pr2) (((w.alloc (.cells #[.int .i64 0, .int .i64 0, .int .i64 0, .int .i64 0, .int .i64 0, .int .i64 0] 99)).alloc (.cells #[.int .i64 0, .int .i64 1, .int .i64 4, .int .i64 1, .int .i64 2, .int .i64 6] 49)).alloc (.cells #[.int .i64 1, .slice (some ⟨w.heap.size, 0, none⟩) 3 3, .slice (some ⟨w.heap.size + 1, 0, none⟩) 2 2] 25)) #[.int .i64 0, .int .i64 2] 35 [⟨0, 2⟩] 1 rfl (by unfold maxLen; omega) rfl
    simp only [World.size_alloc] at h
    exact h
  go_upto_region 3 with (go_at_call 51; go_loud (refine (fcount_gen exW ⟨some ⟨w.heap.size, 0, none⟩, 3, 3⟩ ⟨some ⟨w.heap.size + 1, 0, none⟩, 2, 2⟩ _ 1 1 [⟨0, 2⟩] _ ((HN.out.below ((Below.refl _ _).alloc (Nat.le_refl _) _)).below ((Below.refl _ _).alloc (Nat.le_refl _) _)) HP.out (by show 3 ≤ 60; omega) (by show 2 ≤ 120; omega) (by omega)).mono ?_); rintro e w1 ⟨a1, n1, q1, a2, n2, q2, a3, n3, q3, rfl, hf, hb, -⟩; rw [show flowE exW (Hdr.mk (some ⟨w.heap.size + 1, 0, none⟩) 2 2).n (Hdr.mk (some ⟨w.heap.size, 0, none⟩) 3 3).n [⟨0, 2⟩] = ⟨[1, 1], [1, 0, 0], [0, 0, 1], 0⟩ from exW_flow] at hf ⊢; rw [exW_check]; simp only []; have HF := Lib.hid hf; have HB1 := Lib.hid (((HB0.out.alloc HB0.out.size _).alloc (by have := HB0.out.size; simp; omega) _).trans (hb.mono (by simp; omega))); clear hb hf)
  have hn1 : n1 = 2 := HF.out.1.hlen
  subst hn1
  obtain ⟨b, off, r, e1, hbl, hr, p0⟩ := int_at (HF.out.1) (show 0 < 2 by omega)
  obtain ⟨b', off', r', e2, -, hr', p1⟩ := int_at (HF.out.1) (show 1 < 2 by omega)
  have e1 : a1 = _ := e1
  subst e1
  cases e2
  simp at hr hr'
  subst hr hr'
  rw [Nat.add_zero] at p0
  clear HN HP hmk HB0
  go_wp2_with fail
  go_ret
  exact ⟨rfl, HB1.out.alloc HB1.out.size _⟩
end Go.Proofs.Yteihffnmgacfpaa.Ne
