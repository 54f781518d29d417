/- Networks: flows: the example, walked. -/
/- Networks: any pairs' flows are the document's: the law walked. -/
/- FlowCounts answers true, whatever comes in, and what came in reads as it did; no condition. -/
import Derived.Test.YteihffnmgacfpaaNwC
import Derived.Test.YteihffnmgacfpaaNwD
import Derived.Test.YteihffnmgacfpaaRows
import Derived.Test.YteihffnmgacfpaaNeN
namespace Go.Proofs.Yteihffnmgacfpaa.Ne
open Go.RowKit Go.V Go.Proofs Go.Sort Go.Maps

/-- What comes of a count. -/
def flowE (n : Net) (m k : Nat) (ps : List Pr2) : Fl := if checkE n = 0 then (cntF n k ps Fw.zero).fl m k else ⟨[], [], [], 0⟩
theorem flowE_yes {n : Net} {m k : Nat} {ps : List Pr2} (h : checkE n = 0) : flowE n m k ps = (cntF n k ps Fw.zero).fl m k := if_pos h
theorem sl_none {α : Type} {c : Cod α} (w : World) : Sl c w none 0 0 [] := ⟨rfl, Nat.le_refl _, by unfold maxLen; omega, fun _ => ⟨rfl, rfl⟩, fun d hd => nomatch hd⟩
theorem fcount_gen (n : Net) (hs hl : Hdr) (pa : Option Addr) (pn pc : Nat) (ps : List Pr2) (w : World) (h : NetIn w n hs hl) (hp : Sl pr2 w pa pn pc ps) (h60 : hs.n ≤ 60) (h120 : hl.n ≤ 120) (h4 : pn ≤ 4096) :
    Calls Try.prog 51 #[n.val hs hl, .slice pa pn pc] w fun e w' => ∃ a1 n1 q1 a2 n2 q2 a3 n3 q3, e = .returned (.tuple #[.agg #[.slice a1 n1 q1, .slice a2 n2 q2, .slice a3 n3 q3, .int .i64 (flowE n hl.n hs.n ps).lost], .int .i64 (checkE n)]) ∧ FlIn w' (flowE n hl.n hs.n ps) ⟨⟨a1, n1, q1⟩, ⟨a2, n2, q2⟩, ⟨a3, n3, q3⟩⟩ ∧ Below w.heap.size w w' := by
  refine (fcount_any n hs hl pa pn pc ps w h hp h60 h120 h4).mono fun e w' hh => ?_
  obtain ⟨hb, h1, h2⟩ := hh
  by_cases hc : checkE n = 0
  · obtain ⟨⟨⟨a1, n1, q1⟩, ⟨a2, n2, q2⟩, ⟨a3, n3, q3⟩⟩, e1, hf⟩ := h2 hc
    rw [← flowE_yes hc] at hf
    refine ⟨a1, n1, q1, a2, n2, q2, a3, n3, q3, ?_, hf, hb⟩
    rw [e1, hc, flowE_yes hc]; rfl
  · have e0 : flowE n hl.n hs.n ps = ⟨[], [], [], 0⟩ := if_neg hc
    rw [e0]
    exact ⟨none, 0, 0, none, 0, 0, none, 0, 0, h1 hc, ⟨sl_none _, sl_none _, sl_none _⟩, hb⟩
theorem exW_check : checkE exW = 0 := by decide +kernel
theorem exW_flow : flowE exW 2 3 [⟨0, 2⟩] = ⟨[1, 1], [1, 0, 0], [0, 0, 1], 0⟩ := by decide +kernel

set_option maxHeartbeats 2000000 in
set_option maxRecDepth 100000 in
theorem awake52_any (w : World) : Calls Try.prog 50 #[] w fun e w' => e = .returned (.bool true) ∧ Below w.heap.size w w' := by
  have hmk : ∀ w, (Instr.makeSlice 22 (.int .i64 3) (.int .i64 3)).run Try.prog w = .ok (.slice (some ⟨w.heap.size, 0, none⟩) 3 3) (w.alloc (.cells #[.int .i64 0, .int .i64 0, .int .i64 0, .int .i64 0, .int .i64 0, .int .i64 0] 99)) := fun w => by
    have h := make_stops 3 (by omega) w
    have e : madeCells #[.int .i64 0, .int .i64 0] (3 * 2) = #[.int .i64 0, .int .i64 0, .int .i64 0, .int .i64 0, .int .i64 0, .int .i64 0] := by kernel_rfl
    rw [e] at h
    exact h
  go_enter Try.func50, Try.ntmps50
  have HN : Hid (NetIn ((w.alloc (.cells #[.int .i64 0, .int .i64 0, .int .i64 0, .int .i64 0, .int .i64 0, .int .i64 0] 99)).alloc (.cells #[.int .i64 0, .int .i64 1, .int .i64 4, .int .i64 1, .int .i64 2, .int .i64 6] 49)) exW ⟨some ⟨w.heap.size, 0, none⟩, 3, 3⟩ ⟨some ⟨w.heap.size + 1, 0, none⟩, 2, 2⟩) :=
    ⟨(sl_new (c := Stp.cod) w _ _ exW.stops 3 rfl (by unfold maxLen; omega) rfl).below ((Below.refl _ _).alloc (Nat.le_refl _) _), by have := sl_new (c := lcod) (w.alloc (.cells #[.int .i64 0, .int .i64 0, .int .i64 0, .int .i64 0, .int .i64 0, .int .i64 0] 99)) #[.int .i64 0, .int .i64 1, .int .i64 4, .int .i64 1, .int .i64 2, .int .i64 6] 49 exW.links 2 rfl (by unfold maxLen; omega) rfl; simpa using this⟩
  have HB0 : Hid (Below w.heap.size w ((w.alloc (.cells #[.int .i64 0, .int .i64 0, .int .i64 0, .int .i64 0, .int .i64 0, .int .i64 0] 99)).alloc (.cells #[.int .i64 0, .int .i64 1, .int .i64 4, .int .i64 1, .int .i64 2, .int .i64 6] 49))) := ((Below.refl _ _).alloc (Nat.le_refl _) _).alloc (by simp) _
  have HP : Hid (Sl pr2 ((((w.alloc (.cells #[.int .i64 0, .int .i64 0, .int .i64 0, .int .i64 0, .int .i64 0, .int .i64 0] 99)).alloc (.cells #[.int .i64 0, .int .i64 1, .int .i64 4, .int .i64 1, .int .i64 2, .int .i64 6] 49)).alloc (.cells #[.int .i64 1, .slice (some ⟨w.heap.size, 0, none⟩) 3 3, .slice (some ⟨w.heap.size + 1, 0, none⟩) 2 2] 25)).alloc (.cells #[.int .i64 0, .int .i64 2] 35)) (some ⟨w.heap.size + 1 + 1 + 1, 0, none⟩) 1 1 [⟨0, 2⟩]) := by
    have h := sl_new (c := pr2) (((w.alloc (.cells #[.int .i64 0, .int .i64 0, .int .i64 0, .int .i64 0, .int .i64 0, .int .i64 0] 99)).alloc (.cells #[.int .i64 0, .int .i64 1, .int .i64 4, .int .i64 1, .int .i64 2, .int .i64 6] 49)).alloc (.cells #[.int .i64 1, .slice (some ⟨w.heap.size, 0, none⟩) 3 3, .slice (some ⟨w.heap.size + 1, 0, none⟩) 2 2] 25)) #[.int .i64 0, .int .i64 2] 35 [⟨0, 2⟩] 1 rfl (by unfold maxLen; omega) rfl
    simp only [World.size_alloc] at h
    exact h
  go_upto_region 3 with (go_at_call 51; go_loud (refine (fcount_gen exW ⟨some ⟨w.heap.size, 0, none⟩, 3, 3⟩ ⟨some ⟨w.heap.size + 1, 0, none⟩, 2, 2⟩ _ 1 1 [⟨0, 2⟩] _ ((HN.out.below ((Below.refl _ _).alloc (Nat.le_refl _) _)).below ((Below.refl _ _).alloc (Nat.le_refl _) _)) HP.out (by show 3 ≤ 60; omega) (by show 2 ≤ 120; omega) (by omega)).mono ?_); rintro e w1 ⟨a1, n1, q1, a2, n2, q2, a3, n3, q3, rfl, hf, hb⟩; rw [show flowE exW (Hdr.mk (some ⟨w.heap.size + 1, 0, none⟩) 2 2).n (Hdr.mk (some ⟨w.heap.size, 0, none⟩) 3 3).n [⟨0, 2⟩] = ⟨[1, 1], [1, 0, 0], [0, 0, 1], 0⟩ from exW_flow] at hf ⊢; rw [exW_check]; simp only []; have HF := Lib.hid hf; have HB1 := Lib.hid (((HB0.out.alloc HB0.out.size _).alloc (by have := HB0.out.size; simp; omega) _).trans (hb.mono (by simp; omega))); clear hb hf)
  have hn1 : n1 = 2 := HF.out.1.hlen
  subst hn1
  obtain ⟨b, off, r, e1, hbl, hr, p0⟩ := int_at (HF.out.1) (show 0 < 2 by omega)
  obtain ⟨b', off', r', e2, -, hr', p1⟩ := int_at (HF.out.1) (show 1 < 2 by omega)
  have e1 : a1 = _ := e1
  subst e1
  cases e2
  simp at hr hr'
  subst hr hr'
  rw [Nat.add_zero] at p0
  clear HN HP hmk HB0
  go_wp2_with fail
  go_ret
  exact ⟨rfl, HB1.out.alloc HB1.out.size _⟩
end Go.Proofs.Yteihffnmgacfpaa.Ne

namespace Go.Proofs.Yteihffnmgacfpaa.Ne
open Go.RowKit Go.V Go.Proofs Go.Sort Go.Maps

theorem cells7 {w : World} {x z : Nat} {n : Net} {hs hl : Hdr} {e : TypeId} {u0 u1 u2 u3 : Value} (h : w.heap[x]? = some (n.box hs hl)) (h' : w.heap[z]? = some (.cells #[u0, u1, u2, u3] e (0, 0))) :
    w.cell? ⟨x, 0, none⟩ = some (.int .i64 n.ver) ∧ w.cell? ⟨x, 1, none⟩ = some (.slice hs.a hs.n hs.cap) ∧ w.cell? ⟨x, 2, none⟩ = some (.slice hl.a hl.n hl.cap) ∧ w.cell? ⟨z, 0, none⟩ = some u0 ∧ w.cell? ⟨z, 1, none⟩ = some u1 ∧ w.cell? ⟨z, 2, none⟩ = some u2 ∧ w.cell? ⟨z, 3, none⟩ = some u3 :=
  ⟨(box_cell h 0).1, (box_cell h 1).1, (box_cell h 2).1, (box_cell h' 0).1, (box_cell h' 1).1, (box_cell h' 2).1, (box_cell h' 3).1⟩

set_option maxHeartbeats 8000000 in
set_option maxRecDepth 100000 in
theorem fcounts_any (n : Net) (hs hl : Hdr) (pa : Option Addr) (pn pc : Nat) (ps : List Pr2) (w : World) (h : NetIn w n hs hl) (hp : Sl pr2 w pa pn pc ps) :
    Calls Try.prog 11 #[n.val hs hl, .slice pa pn pc] w fun e w' => e = .returned (.bool true) ∧ Below w.heap.size w w' := by
  have mixed : Try.prog.follows .mixedOrders = true := by kernel_rfl
  have hpn : pn ≤ 9223372036854775807 := by have := hp.hcap; have := hp.hmax; unfold maxLen at this; omega
  obtain ⟨sa, k, sc⟩ := hs
  obtain ⟨la, m, lc⟩ := hl
  have HH := Lib.hid h
  have HPP := Lib.hid hp
  have HX0 := Lib.hid (box_new w (n.box ⟨sa, k, sc⟩ ⟨la, m, lc⟩))
  have HB0 : Hid (Below w.heap.size w (w.alloc (n.box ⟨sa, k, sc⟩ ⟨la, m, lc⟩))) := (Below.refl _ _).alloc (Nat.le_refl _) _
  obtain ⟨c0, c1, c2, -, -, -⟩ := box3_cells HX0.out
  clear h hp
  go_enter Try.func11, Try.ntmps11
  go_upto_region 3 with (go_at_call 50; refine (awake52_any _).mono ?_; rintro e w1 ⟨rfl, hb1⟩; have HB1 := Lib.hid (HB0.out.trans (hb1.mono HB0.out.size)); have HX1 := Lib.hid (box_below HX0.out hb1); clear hb1)
  clear c0 c1 c2 HX0 HB0
  obtain ⟨c0, c1, c2, -, -, -⟩ := box3_cells HX1.out
  obtain ⟨fb, hfb⟩ : ∃ fb, decide (k ≤ 60 ∧ m ≤ 120) = fb := ⟨_, rfl⟩
  have HFB := Lib.hid hfb
  clear hfb
  cases fb with
  | false =>
    go_wp2_with (go_at_call 16; refine (few_any n ⟨sa, k, sc⟩ ⟨la, m, lc⟩ _).mono ?_; rintro e w2 ⟨rfl, hb2⟩; rw [HFB.out]; have HB2 := Lib.hid (HB1.out.trans (hb2.mono HB1.out.size)); clear hb2)
    go_ret
    exact ⟨rfl, HB2.out⟩
  | true =>
  obtain ⟨k60, m120⟩ := of_decide_eq_true HFB.out
  by_cases hbig : (30 : Int) < (pn : Int)
  · go_wp2_with (go_at_call 16; refine (few_any n ⟨sa, k, sc⟩ ⟨la, m, lc⟩ _).mono ?_; rintro e w2 ⟨rfl, hb2⟩; rw [HFB.out]; have HB2 := Lib.hid (HB1.out.trans (hb2.mono HB1.out.size)); clear hb2)
    go_ret
    exact ⟨rfl, HB2.out⟩
  have hbf : decide ((30 : Int) < (pn : Int)) = false := decide_eq_false hbig
  have hp4 : pn ≤ 4096 := by omega
  have HM : Hid (k ≤ 1000000 ∧ m ≤ 1000000) := ⟨by omega, by omega⟩
  obtain ⟨ce, hce⟩ : ∃ ce, checkE n = ce := ⟨_, rfl⟩
  have HCE := Lib.hid hce
  clear hce
  obtain ⟨G, hG⟩ : ∃ G, flowE n m k ps = G := ⟨_, rfl⟩
  have HG := Lib.hid hG
  clear hG
  by_cases he : ce = 0
  case neg =>
    have e0 : (ce == 0) = false := by simpa using he
    have e1 : (ce != 0) = true := by simpa using he
    have hgz : (⟨[], [], [], 0⟩ : Fl) = G := by rw [← HG.out]; exact (if_neg (by rw [HCE.out]; exact he)).symm
    cases hgz
    go_wp2_with (first
      | (go_at_call 16; refine (few_any n ⟨sa, k, sc⟩ ⟨la, m, lc⟩ _).mono ?_; rintro e w2 ⟨rfl, hb2⟩; rw [HFB.out]; have HB2 := Lib.hid (HB1.out.trans (hb2.mono HB1.out.size)); have HX2 := Lib.hid (box_below HX1.out hb2); obtain ⟨d0, d1, d2, -, -, -⟩ := box3_cells HX2.out; clear hb2)
      | (go_at_call 51; go_loud (refine (fcount_gen n ⟨sa, k, sc⟩ ⟨la, m, lc⟩ pa pn pc ps _ (HH.out.below HB2.out) (HPP.out.below HB2.out) k60 m120 hp4).mono ?_); rintro e w3 ⟨a1, n1, q1, a2, n2, q2, a3, n3, q3, rfl, hf, hb3⟩; rw [HCE.out]; rw [show flowE n (Hdr.mk la m lc).n (Hdr.mk sa k sc).n ps = ⟨[], [], [], 0⟩ from HG.out] at hf ⊢; simp only []; have HF3 := Lib.hid hf; have HB3 := Lib.hid (HB2.out.trans (hb3.mono HB2.out.size)); have HX3 := Lib.hid (box_below HX2.out hb3); obtain ⟨x0, x1, x2, -, -, -⟩ := box3_cells HX3.out; have hxl3 := box_lt HX3.out; clear hf hb3)
      | (go_at_call 18; go_loud (refine (rcheck_any n ⟨sa, k, sc⟩ ⟨la, m, lc⟩ _ HM.out (HH.out.below (HB3.out.alloc HB3.out.size _))).mono ?_); rintro e w4 ⟨rfl, hb4⟩; rw [HCE.out]; have HB4 := Lib.hid ((HB3.out.alloc HB3.out.size (.cells #[.slice a1 n1 q1, .slice a2 n2 q2, .slice a3 n3 q3, .int .i64 0] 78)).trans (hb4.mono (by have := HB3.out.size; simp; omega))); have HF4 := Lib.hid ((HF3.out.below ((Below.refl _ _).alloc (Nat.le_refl _) (.cells #[.slice a1 n1 q1, .slice a2 n2 q2, .slice a3 n3 q3, .int .i64 0] 78))).below hb4); have HY4 := Lib.hid (box_below (box_new w3 (.cells #[.slice a1 n1 q1, .slice a2 n2 q2, .slice a3 n3 q3, .int .i64 0] 78)) hb4); obtain ⟨y0, y1, y2, y3⟩ := box4_cells HY4.out; have hyl4 := box_lt HY4.out; clear hb4)
      | (go_at_call 52; go_loud (refine (fsame_any ⟨[], [], [], 0⟩ ⟨⟨a1, n1, q1⟩, ⟨a2, n2, q2⟩, ⟨a3, n3, q3⟩⟩ ⟨⟨none, 0, 0⟩, ⟨none, 0, 0⟩, ⟨none, 0, 0⟩⟩ _ HF4.out ⟨sl_none _, sl_none _, sl_none _⟩).mono ?_); rintro e w5 ⟨rfl, hb5⟩; have HB5 := Lib.hid (HB4.out.trans (hb5.mono HB4.out.size)); clear hb5))
    go_ret
    exact ⟨rfl, HB5.out⟩
  case pos =>
    subst he
    go_upto_region 9 with (first
      | (go_at_call 16; refine (few_any n ⟨sa, k, sc⟩ ⟨la, m, lc⟩ _).mono ?_; rintro e w2 ⟨rfl, hb2⟩; rw [HFB.out]; have HB2 := Lib.hid (HB1.out.trans (hb2.mono HB1.out.size)); have HX2 := Lib.hid (box_below HX1.out hb2); obtain ⟨d0, d1, d2, -, -, -⟩ := box3_cells HX2.out; clear hb2)
      | (go_at_call 51; go_loud (refine (fcount_gen n ⟨sa, k, sc⟩ ⟨la, m, lc⟩ pa pn pc ps _ (HH.out.below HB2.out) (HPP.out.below HB2.out) k60 m120 hp4).mono ?_); rintro e w3 ⟨a1, n1, q1, a2, n2, q2, a3, n3, q3, rfl, hf, hb3⟩; rw [HCE.out]; rw [show flowE n (Hdr.mk la m lc).n (Hdr.mk sa k sc).n ps = G from HG.out] at hf ⊢; have HF3 := Lib.hid hf; have HB3 := Lib.hid (HB2.out.trans (hb3.mono HB2.out.size)); have HX3 := Lib.hid (box_below HX2.out hb3); obtain ⟨x0, x1, x2, -, -, -⟩ := box3_cells HX3.out; have hxl3 := box_lt HX3.out; clear hf hb3)
      | (go_at_call 18; go_loud (refine (rcheck_any n ⟨sa, k, sc⟩ ⟨la, m, lc⟩ _ HM.out (HH.out.below (HB3.out.alloc HB3.out.size _))).mono ?_); rintro e w4 ⟨rfl, hb4⟩; rw [HCE.out]; have HB4 := Lib.hid ((HB3.out.alloc HB3.out.size (.cells #[.slice a1 n1 q1, .slice a2 n2 q2, .slice a3 n3 q3, .int .i64 G.lost] 78)).trans (hb4.mono (by have := HB3.out.size; simp; omega))); have HF4 := Lib.hid ((HF3.out.below ((Below.refl _ _).alloc (Nat.le_refl _) (.cells #[.slice a1 n1 q1, .slice a2 n2 q2, .slice a3 n3 q3, .int .i64 G.lost] 78))).below hb4); have HX4 := Lib.hid (box_below (box_alloc (o := .cells #[.slice a1 n1 q1, .slice a2 n2 q2, .slice a3 n3 q3, .int .i64 G.lost] 78) HX3.out) hb4); have HY4 := Lib.hid (box_below (box_new w3 (.cells #[.slice a1 n1 q1, .slice a2 n2 q2, .slice a3 n3 q3, .int .i64 G.lost] 78)) hb4); clear hb4))
    clear c0 c1 c2 d0 d1 d2 x0 x1 x2 HX1 HX2 HX3 HB1 HB2 HB3 HF3
    obtain ⟨y0, y1, y2, y3⟩ := box4_cells HY4.out
    have hyl4 := box_lt HY4.out
    obtain ⟨c0, c1, c2, -, -, -⟩ := box3_cells HX4.out
    have hxl4 := box_lt HX4.out
    have HGC : Hid ((cntF n k ps Fw.zero).fl m k = G) := by show _ = _; rw [← HG.out]; exact (flowE_yes HCE.out).symm
    have HGL : Hid ((cntF n k ps Fw.zero).lost = G.lost) := by show _ = _; rw [← HGC.out]; rfl
    have HB4d : Hid (Below w.heap.size w w4.drew) := HB4.out.trans (Below.drew (Below.refl _ _))
    have HF4d : Hid (FlIn w4.drew G ⟨⟨a1, n1, q1⟩, ⟨a2, n2, q2⟩, ⟨a3, n3, q3⟩⟩) := HF4.out.below (Below.drew (Below.refl _ _))
    obtain ⟨z, hz⟩ : ∃ z, w3.heap.size = z := ⟨_, rfl⟩
    rw [hz] at y0 y1 y2 y3 hyl4 HY4 ⊢
    clear hz hxl3
    go_region_held3 (fun w' => w'.cell? ⟨w.heap.size, 0, none⟩ = some (.int .i64 n.ver) ∧ w'.cell? ⟨w.heap.size, 1, none⟩ = some (.slice sa k sc) ∧ w'.cell? ⟨w.heap.size, 2, none⟩ = some (.slice la m lc) ∧ w'.cell? ⟨z, 0, none⟩ = some (.slice a1 n1 q1) ∧ w'.cell? ⟨z, 1, none⟩ = some (.slice a2 n2 q2) ∧ w'.cell? ⟨z, 2, none⟩ = some (.slice a3 n3 q3) ∧ w'.cell? ⟨z, 3, none⟩ = some (.int .i64 G.lost))
      (first | (exact cells7 HX6.out HY6.out) | (exact cells7 HX5.out HY5.out) | go_keep)
      (first
        | (go_at_call 53; go_loud (refine (rcount_any n ⟨sa, k, sc⟩ ⟨la, m, lc⟩ pa pn pc ps w4.drew (HH.out.below HB4d.out) HCE.out (HPP.out.below HB4d.out) k60 m120 hp4).mono ?_); rintro e w5 ⟨hb5, ⟨⟨b1, m1, r1⟩, ⟨b2, m2, r2⟩, ⟨b3, m3, r3⟩⟩, rfl, hf5⟩; rw [show (cntF n (Hdr.mk sa k sc).n ps Fw.zero).lost = G.lost from HGL.out]; rw [show (cntF n (Hdr.mk sa k sc).n ps Fw.zero).fl (Hdr.mk la m lc).n (Hdr.mk sa k sc).n = G from HGC.out] at hf5; have HF5 := Lib.hid hf5; have HF5a := Lib.hid (HF4d.out.below hb5); have HB5 := Lib.hid (HB4d.out.trans (hb5.mono HB4d.out.size)); have HX5 := Lib.hid (box_below (w := w4.drew) HX4.out hb5); have HY5 := Lib.hid (box_below (w := w4.drew) HY4.out hb5); clear hf5 hb5)
        | (go_at_call 52; go_loud (refine (fsame_any G ⟨⟨a1, n1, q1⟩, ⟨a2, n2, q2⟩, ⟨a3, n3, q3⟩⟩ ⟨⟨b1, m1, r1⟩, ⟨b2, m2, r2⟩, ⟨b3, m3, r3⟩⟩ _ HF5a.out HF5.out).mono ?_); rintro e w6 ⟨rfl, hb6⟩; have HB6 := Lib.hid (HB5.out.trans (hb6.mono HB5.out.size)); have HX6 := Lib.hid (box_below HX5.out hb6); have HY6 := Lib.hid (box_below HY5.out hb6); clear hb6))
    go_wp2_with fail
    go_ret
    exact ⟨rfl, HB6.out⟩
end Go.Proofs.Yteihffnmgacfpaa.Ne

namespace Go.Proofs.Yteihffnmgacfpaa.lawFlowCounts
open Go.ChangeShapes Go.WideShapes Go.ChangeAt Go.RowKit Go.V Go.Proofs.Yteihffnmgacfpaa.Ne

theorem own : ownKnob Try.prog.godebug = none := by kernel_rfl
theorem laidOut : laidOutB Try.prog = true := by kernel_rfl

theorem pr_opened {H : Type} {enc : TypeId × Value → H} {w : World} {b0 : Nat} {spare : Nat → Bool} {held : Bool} (n : Nat) (cs : List Value) (y : DataW H × List MemPlace) (h : DataW.trod enc Try.prog w b0 spare held n 35 cs = some y) : ∃ x, cs = pr2.enc x ∧ True := by
  obtain ⟨xs, m, -, -, hl, hxl, hx⟩ := DataW.trod_array Try.underlying35 h
  have hc : Try.prog.cellsOf 3 = 1 := by kernel_rfl
  have hl' : cs.length = 2 := by rw [hl]; kernel_rfl
  obtain ⟨v0, v1, rfl⟩ := list2 hl'
  have h0 := hx 0 (by omega)
  have h1 := hx 1 (by omega)
  obtain ⟨y0, y1, rfl⟩ := list2 hxl
  simp [hc] at h0 h1
  obtain ⟨n0, e0, -, w0⟩ := DataW.trod_int Try.underlying3 h0
  obtain ⟨n1, e1, -, w1⟩ := DataW.trod_int Try.underlying3 h1
  simp at e0 e1
  subst e0; subst e1
  exact ⟨⟨n0, n1⟩, rfl, trivial⟩

set_option maxRecDepth 100000 in
theorem lifted (os : Os) (started : os.Started) (H : Type) (enc : TypeId × Value → H) :
    ReturnsInHanded {} Try.checked os 11 .any (Rows.flowCountsSpec.pre6 enc Try.prog Try.f11 Rows.flowCountsRow.domain false) (Rows.flowCountsSpec.post enc Try.prog Try.f11 false true false false) := by
  refine returnsInHanded_of_change (C := Try.checked) own started (by kernel_rfl) Try.func11
    (ChangeSpec.witness6 (enc := enc) (C := Try.checked) false ⟨#[], #[.agg #[.int .i64 0, .slice none 0 0, .slice none 0 0], .slice none 0 0], []⟩ 8 (by kernel_rfl) (by kernel_rfl) (by kernel_rfl) (by kernel_rfl)) ?_
  intro W base args ds gs before hval0 hW hcnd _
  have hval : ∀ (j : Nat) t v, Try.f11.params[j]? = some t → args[j]? = some v → Value.okWide Try.prog W .any base t v := hval0
  have hW' := hW
  obtain ⟨p, q, hA0, hV, rfl, hfz, hnd⟩ := hW
  have hA : DataW.TrodAll enc Try.prog W 0 (fun _ => true) true Try.f11.params.toList args.toList ds p := hA0
  rw [Try.params11] at hA hval
  obtain ⟨v0, vs0, d0, ds0, p0, q0, hargs, rfl, rfl, h0, r0⟩ := trodAll_cons hA
  obtain ⟨v1, vs1, d1, ds1, p1, q1, rfl, rfl, rfl, h1, r1⟩ := trodAll_cons r0
  obtain ⟨rfl, rfl, rfl⟩ := trodAll_nil r1
  obtain rfl : args = #[v0, v1] := by cases args; simp_all
  obtain ⟨rfl, rfl⟩ := trodVars_none hV
  have k0 := h0
  have lt0 : ∀ x ∈ p0, x.block < W.heap.size := by obtain ⟨m, hm⟩ := k0; exact DataW.trod_lt m _ _ _ hm
  have k1 := h1
  have lt1 : ∀ x ∈ p1, x.block < W.heap.size := by obtain ⟨m, hm⟩ := k1; exact DataW.trod_lt m _ _ _ hm
  obtain ⟨nt, hs, hl, rfl, hnt, -, -, -⟩ := open_net (hval 0 25 v0 rfl rfl) h0
  obtain ⟨pa1, pn1, pc1, ps1, rfl, hps1, -⟩ := open_sl (c := pr2) (ok := fun _ => True) Try.underlying26 (by kernel_rfl) (fun n cs y => pr_opened n cs y) (hval 1 26 v1 rfl rfl) h1
  clear hA0 hval0
  refine (fcounts_any nt hs hl pa1 pn1 pc1 ps1 W hnt hps1).mono fun e W' ⟨he, bel⟩ => ?_
  subst he
  exact ⟨_, rfl, _, _, _, [], _, [], hW', trodAll_mk1 (shut_bool Try.underlying4 _), (trodAll_cons_mk (Below.trod laidOut (by kernel_rfl) (of_decide_eq_true (by kernel_rfl)) k0 bel lt0) (trodAll_cons_mk (Below.trod laidOut (by kernel_rfl) (of_decide_eq_true (by kernel_rfl)) k1 bel lt1) trodAll_mk0)), rfl, bel.frame _, fun h => by cases h⟩

theorem over : Rows.flowCountsRow.holds Try.pinned (OpenSpec.ofChange Rows.flowCountsSpec) :=
  OpenClaim.holds_of_wide 11 Try.f11 rfl rfl rfl rfl rfl rfl rfl ⟨rfl, rfl, rfl, rfl, rfl⟩ rfl rfl rfl rfl rfl (by kernel_rfl) Try.func11 (by kernel_rfl)
    (of_decide_eq_true (by kernel_rfl)) (by unfold Func.isWrapper; first | (rw [if_pos (by decide +kernel)]; kernel_rfl) | (rw [if_neg (by decide +kernel)]; exact ⟨rfl, rfl⟩))
    (fun os started H enc _ => lifted os started H enc)

theorem proved : Rows.FlowCountsSaid := over
#print axioms proved
end Go.Proofs.Yteihffnmgacfpaa.lawFlowCounts
