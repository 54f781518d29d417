/- The transfer layer: the chapter's example, and the walk of the law on groups. -/
import Derived.Test.YtdkgjheldpdohaaTrL
namespace Go.Proofs.Ytdkgjheldpdohaa
open Go.RowKit Go.V Go.Sort Go.Shelf Go.Proofs Go.Maps

theorem isG_sls {base : Nat} {w : World} {v : Value} {gs : List (List Ride)} (h : IsG base w v gs) : ∃ hs a cap, v = .slice a gs.length cap ∧ Sls Ride.cod w a gs.length cap hs gs := by
  obtain ⟨hs, h⟩ := h
  obtain ⟨a, cap, h1, h2⟩ := h.sls
  exact ⟨hs, a, cap, h1, h2⟩

def exL : List Ride := [⟨1, 0, 9, 0⟩, ⟨2, 50, 60, 0⟩, ⟨3, 120, 130, 0⟩]
theorem exP : GroupsP exL 100 9 := by decide
theorem exE : groupsE exL 100 9 = 0 := by unfold groupsE; rw [if_pos (by decide), if_pos exP]
theorem exR : groupsR exL 100 9 = [[⟨1, 0, 9, 0⟩, ⟨2, 50, 60, 0⟩], [⟨3, 120, 130, 0⟩]] := by unfold groupsR; rw [if_pos exP]; decide
theorem exOk : ∀ r ∈ exL, Ride.ok r := by
  intro r hr
  simp only [exL, List.mem_cons, List.not_mem_nil, or_false] at hr
  rcases hr with rfl | rfl | rfl <;> exact ⟨by decide, by decide, by decide, by decide⟩

set_option maxHeartbeats 1000000 in
theorem awake_any (w : World) : Calls Try.prog 5 #[] w fun e w' => e = .returned (.bool true) ∧ Below w.heap.size w w' := by
  go_enter Try.func5, Try.ntmps5
  have HS : Hid (Sl Ride.cod (w.alloc (.cells #[.int .i64 1, .int .i64 0, .int .i64 9, .int .i64 0, .int .i64 2, .int .i64 50, .int .i64 60, .int .i64 0, .int .i64 3, .int .i64 120, .int .i64 130, .int .i64 0] 30)) (some ⟨w.heap.size, 0, none⟩) 3 3 exL) :=
    sl_new (c := Ride.cod) w _ _ exL 3 rfl (by unfold maxLen; omega) rfl
  go_wp2_with (go_at_call 6; refine (groups_any _ 3 3 exL 100 9 _ (by omega) exOk HS.out).mono ?_; rintro e w1 ⟨v, rfl, hg, hb⟩; rw [exE]; obtain ⟨hs, ag, cg, rfl, hsl⟩ := isG_sls hg; rw [exR] at hsl; rw [exR]; obtain ⟨b, off, h0, g0, rfl, hbl, hh0, hg0, hc0, hs0⟩ := hsl.at (i := 0) (by decide); obtain ⟨b', off', h1, g1, e', hbl', hh1, hg1, hc1, hs1⟩ := hsl.at (i := 1) (by decide); cases e'; cases hg0; cases hg1; have hn0 := hs0.hlen; have hn1 := hs1.hlen; obtain ⟨a0, n0, c0⟩ := h0; obtain ⟨a1, n1, c1⟩ := h1; change n0 = 2 at hn0; change n1 = 1 at hn1; subst hn0; subst hn1; replace hc0 : w1.cell? ⟨b, off, none⟩ = some (.slice a0 2 c0) := hc0; replace hc1 : w1.cell? ⟨b, off + 1, none⟩ = some (.slice a1 1 c1) := hc1; have HB := Lib.hid hb; clear hb hsl hg hs0 hs1 hh0 hh1)
  all_goals
    go_ret
    exact ⟨rfl, ((Below.refl _ _).alloc (Nat.le_refl _) _).trans (HB.out.mono (by simp))⟩

theorem isG_nil {base : Nat} {w : World} {v : Value} (h : IsG base w v []) : ∃ a cap, v = .slice a 0 cap := by
  obtain ⟨hs, a, cap, h1, -⟩ := isG_sls h
  exact ⟨a, cap, h1⟩

set_option maxHeartbeats 4000000 in
theorem tgroups_any (a : Option Addr) (n cap : Nat) (xs : List Ride) (window chain : Int) (w : World) (hok : ∀ r ∈ xs, Ride.ok r) (h : Sl Ride.cod w a n cap xs) :
    Calls Try.prog 4 #[.slice a n cap, .int .i64 window, .int .i64 chain] w fun e w' => e = .returned (.bool true) ∧ Below w.heap.size w w' := by
  have hN := Lib.hid h.hlen
  have mixed : Try.prog.follows .mixedOrders = true := by kernel_rfl
  by_cases hbig : 100 < n
  · have hn : n ≤ 9223372036854775807 := by have := h.hcap; have := h.hmax; unfold maxLen at this; omega
    go_enter Try.func4, Try.ntmps4
    go_wp2_with (go_at_call 5; refine (awake_any _).mono ?_; rintro e w1 ⟨rfl, hb⟩)
    go_ret
    exact ⟨rfl, hb⟩
  have hsm : xs.length ≤ 2048 := by have := hN.out; omega
  have hE : groupsE xs window chain = if GroupsP xs window chain then 0 else 2 := by unfold groupsE; rw [if_pos hsm]
  clear hsm
  by_cases hP : GroupsP xs window chain
  case neg =>
    have hR : groupsR xs window chain = [] := by unfold groupsR; rw [if_neg hP]
    rw [if_neg hP] at hE
    have HP := Lib.hid hP
    clear hP
    obtain ⟨bb, hbb⟩ : ∃ bb, decide (RightP xs) = bb := ⟨_, rfl⟩
    cases bb with
    | false =>
      go_enter Try.func4, Try.ntmps4
      go_wp2_with (first
        | (go_at_call 5; refine (awake_any _).mono ?_; rintro e w1 ⟨rfl, hb1⟩; have HB1 := Lib.hid hb1; have hs1 := hb1.size; clear hb1)
        | (go_at_call 6; refine (groups_any a n cap xs window chain _ (by omega) hok (h.below HB1.out)).mono ?_; rintro e w2 ⟨v, rfl, hg, hb2⟩; rw [hR] at hg; obtain ⟨ag, cg, rfl⟩ := isG_nil hg; rw [hE]; have HB2 := Lib.hid (HB1.out.trans (hb2.mono hs1)); clear hb2 hg)
        | (go_at_call 10; refine (rright_any a n cap xs _ (by omega) (h.below HB2.out)).mono ?_; rintro e w3 ⟨rfl, hb3⟩; rw [hbb]; have HB3 := Lib.hid (HB2.out.trans (hb3.mono HB2.out.size)); clear hb3)
        | (go_at_call 11; refine (right_any a n cap xs _ (by omega) hok (h.below HB3.out)).mono ?_; rintro e w4 ⟨rfl, hb4⟩; rw [hbb]; have HB4 := Lib.hid (HB3.out.trans (hb4.mono HB3.out.size)); clear hb4)
        | (go_at_call 9; refine (sort_any a n cap xs _ (by omega) (h.below HB4.out)).mono ?_; rintro e w5 ⟨v, rfl, ho5, hb5⟩; obtain ⟨a5, c5, rfl, hs5, -⟩ := ownR_sl ho5; have HB5 := Lib.hid (HB4.out.trans (hb5.mono HB4.out.size)); have HS5 := Lib.hid hs5; clear hb5 ho5 hs5)
        | (go_at_call 12; refine (rsort_any a n cap xs _ (by omega) (h.below HB5.out)).mono ?_; rintro e w6 ⟨v, rfl, ho6, hb6⟩; obtain ⟨a6, c6, rfl, hs6, -⟩ := ho6.slice; have HB6 := Lib.hid (HB5.out.trans (hb6.mono HB5.out.size)); have HS6 := Lib.hid hs6; have HS7 := Lib.hid (HS5.out.below hb6); clear hb6 ho6 hs6)
        | (go_at_call 8; refine (same_any _ _ _ (isort ltR xs) _ _ _ (isort ltR xs) _ (by rw [(isort_perm xs).length_eq, ← hN.out]; omega) HS7.out HS6.out).mono ?_; rintro e w7 ⟨rfl, hb7⟩; rw [decide_eq_true (rfl : isort ltR xs = isort ltR xs)]; have HB7 := Lib.hid (HB6.out.trans (hb7.mono HB6.out.size)); clear hb7))
      go_ret
      exact ⟨rfl, HB7.out⟩
    | true =>
      have hr := of_decide_eq_true hbb
      have hf : ∀ r ∈ xs, -1 ≤ r.f ∧ r.f ≤ 4294967296 := fun r hr' => by have := (oneB_iff r).1 (hr.2.1 r hr'); omega
      have hfs : farT xs 0 = farS xs 0 := far_same xs 0 0 (fun r hr' => (hf r hr').1) (by omega) (by omega)
      have HF := Lib.hid hf
      obtain ⟨fv, hfv⟩ : ∃ fv, farS xs 0 = fv := ⟨_, rfl⟩
      have hcs : window < 0 ∨ (¬ window < 0 ∧ 1099511627776 < window) ∨ (¬ window < 0 ∧ ¬ 1099511627776 < window ∧ chain < 1) ∨ (¬ window < 0 ∧ ¬ 1099511627776 < window ∧ ¬ chain < 1 ∧ 16 < chain) := by
        by_cases h1 : window < 0
        · exact .inl h1
        by_cases h2 : 1099511627776 < window
        · exact .inr (.inl ⟨h1, h2⟩)
        by_cases h3 : chain < 1
        · exact .inr (.inr (.inl ⟨h1, h2, h3⟩))
        refine .inr (.inr (.inr ⟨h1, h2, h3, ?_⟩))
        by_cases h4 : 16 < chain
        · exact h4
        · exact absurd ⟨hr, ⟨by omega, by omega⟩, by omega, by omega⟩ HP.out
      clear hf hr
      go_enter Try.func4, Try.ntmps4
      go_wp2_with (first
        | (go_at_call 5; refine (awake_any _).mono ?_; rintro e w1 ⟨rfl, hb1⟩; have HB1 := Lib.hid hb1; have hs1 := hb1.size; clear hb1)
        | (go_at_call 6; refine (groups_any a n cap xs window chain _ (by omega) hok (h.below HB1.out)).mono ?_; rintro e w2 ⟨v, rfl, hg, hb2⟩; rw [hR] at hg; obtain ⟨ag, cg, rfl⟩ := isG_nil hg; rw [hE]; have HB2 := Lib.hid (HB1.out.trans (hb2.mono hs1)); clear hb2 hg)
        | (go_at_call 10; refine (rright_any a n cap xs _ (by omega) (h.below HB2.out)).mono ?_; rintro e w3 ⟨rfl, hb3⟩; rw [hbb]; have HB3 := Lib.hid (HB2.out.trans (hb3.mono HB2.out.size)); clear hb3)
        | (go_at_call 11; refine (right_any a n cap xs _ (by omega) hok (h.below HB3.out)).mono ?_; rintro e w4 ⟨rfl, hb4⟩; rw [hbb]; have HB4 := Lib.hid (HB3.out.trans (hb4.mono HB3.out.size)); clear hb4)
        | (go_at_call 9; refine (sort_any a n cap xs _ (by omega) (h.below HB4.out)).mono ?_; rintro e w5 ⟨v, rfl, ho5, hb5⟩; obtain ⟨a5, c5, rfl, hs5, -⟩ := ownR_sl ho5; have HB5 := Lib.hid (HB4.out.trans (hb5.mono HB4.out.size)); have HS5 := Lib.hid hs5; clear hb5 ho5 hs5)
        | (go_at_call 12; refine (rsort_any a n cap xs _ (by omega) (h.below HB5.out)).mono ?_; rintro e w6 ⟨v, rfl, ho6, hb6⟩; obtain ⟨a6, c6, rfl, hs6, -⟩ := ho6.slice; have HB6 := Lib.hid (HB5.out.trans (hb6.mono HB5.out.size)); have HS6 := Lib.hid hs6; have HS7 := Lib.hid (HS5.out.below hb6); clear hb6 ho6 hs6)
        | (go_at_call 8; refine (same_any _ _ _ (isort ltR xs) _ _ _ (isort ltR xs) _ (by rw [(isort_perm xs).length_eq, ← hN.out]; omega) HS7.out HS6.out).mono ?_; rintro e w7 ⟨rfl, hb7⟩; rw [decide_eq_true (rfl : isort ltR xs = isort ltR xs)]; have HB7 := Lib.hid (HB6.out.trans (hb7.mono HB6.out.size)); clear hb7)
        | (go_at_call 13; refine (far_any a n cap xs _ (by omega) (h.below HB7.out) HF.out).mono ?_; rintro e w8 ⟨rfl, hb8⟩; rw [hfs]; have HB8 := Lib.hid (HB7.out.trans (hb8.mono HB7.out.size)); clear hb8)
        | (go_at_call 14; refine (rfar_any a n cap xs _ (by omega) (h.below HB8.out) HF.out).mono ?_; rintro e w9 ⟨rfl, rfl⟩))
      rcases hcs with h1 | ⟨h1, h2⟩ | ⟨h1, h2, h3⟩ | ⟨h1, h2, h3, h4⟩
      all_goals
        go_wp2_with fail
        go_ret
        exact ⟨rfl, HB8.out⟩
  case pos =>
    have hR : groupsR xs window chain = groupsOf window chain (isort ltR xs) := by unfold groupsR; rw [if_pos hP]
    rw [if_pos hP] at hE
    have hbb : decide (RightP xs) = true := decide_eq_true hP.1
    have hr := hP.1
    have hf : ∀ r ∈ xs, -1 ≤ r.f ∧ r.f ≤ 4294967296 := fun r hr' => by have := (oneB_iff r).1 (hr.2.1 r hr'); omega
    have hfs : farT xs 0 = farS xs 0 := far_same xs 0 0 (fun r hr' => (hf r hr').1) (by omega) (by omega)
    have HF := Lib.hid hf
    obtain ⟨fv, hfv⟩ : ∃ fv, farS xs 0 = fv := ⟨_, rfl⟩
    have hl : (isort ltR xs).length = n := by rw [(isort_perm xs).length_eq, ← hN.out]
    have hgl := groups_le hP.2.1.1 hP.2.2.1 (window := window) (isort ltR xs)
    have hgg := groups_good hP.2.1.1 hP.2.2.1 (window := window) (isort ltR xs)
    obtain ⟨G, hG⟩ : ∃ G, groupsOf window chain (isort ltR xs) = G := ⟨_, rfl⟩
    rw [hG] at hR hgl hgg
    have hgm : ∀ x ∈ G, x.length ≤ 1000000 := fun x hx => by have := (hgg x hx).2.1; have := hP.2.2.2; omega
    have HGM := Lib.hid hgm
    have HGR := Lib.hid hG
    have HONE := Lib.hid hr.2.1
    have hgl' : G.length ≤ 1000000 := by omega
    obtain ⟨-, ⟨p1, p2⟩, p3, p4⟩ := hP
    clear hf hr hgm hgg hG hgl hl
    go_enter Try.func4, Try.ntmps4
    go_wp2_with (first
      | (go_at_call 5; refine (awake_any _).mono ?_; rintro e w1 ⟨rfl, hb1⟩; have HB1 := Lib.hid hb1; have hs1 := hb1.size; clear hb1)
      | (go_at_call 6; refine (groups_any a n cap xs window chain _ (by omega) hok (h.below HB1.out)).mono ?_; rintro e w2 ⟨v, rfl, hg, hb2⟩; rw [hR] at hg; obtain ⟨hsg, ag, cg, rfl, hsl⟩ := isG_sls hg; have HSL := Lib.hid hsl; rw [hE]; have HB2 := Lib.hid (HB1.out.trans (hb2.mono hs1)); clear hb2 hg hsl)
      | (go_at_call 10; refine (rright_any a n cap xs _ (by omega) (h.below HB2.out)).mono ?_; rintro e w3 ⟨rfl, hb3⟩; rw [hbb]; have HSL := Lib.hid (HSL.out.below hb3); have HB3 := Lib.hid (HB2.out.trans (hb3.mono HB2.out.size)); clear hb3)
      | (go_at_call 11; refine (right_any a n cap xs _ (by omega) hok (h.below HB3.out)).mono ?_; rintro e w4 ⟨rfl, hb4⟩; rw [hbb]; have HSL := Lib.hid (HSL.out.below hb4); have HB4 := Lib.hid (HB3.out.trans (hb4.mono HB3.out.size)); clear hb4)
      | (go_at_call 9; refine (sort_any a n cap xs _ (by omega) (h.below HB4.out)).mono ?_; rintro e w5 ⟨v, rfl, ho5, hb5⟩; obtain ⟨a5, c5, rfl, hs5, -⟩ := ownR_sl ho5; have HSL := Lib.hid (HSL.out.below hb5); have HB5 := Lib.hid (HB4.out.trans (hb5.mono HB4.out.size)); have HS5 := Lib.hid hs5; clear hb5 ho5 hs5)
      | (go_at_call 12; refine (rsort_any a n cap xs _ (by omega) (h.below HB5.out)).mono ?_; rintro e w6 ⟨v, rfl, ho6, hb6⟩; obtain ⟨a6, c6, rfl, hs6, -⟩ := ho6.slice; have HSL := Lib.hid (HSL.out.below hb6); have HB6 := Lib.hid (HB5.out.trans (hb6.mono HB5.out.size)); have HS6 := Lib.hid hs6; have HS7 := Lib.hid (HS5.out.below hb6); clear hb6 ho6 hs6)
      | (go_at_call 8; refine (same_any _ _ _ (isort ltR xs) _ _ _ (isort ltR xs) _ (by rw [(isort_perm xs).length_eq, ← hN.out]; omega) HS7.out HS6.out).mono ?_; rintro e w7 ⟨rfl, hb7⟩; rw [decide_eq_true (rfl : isort ltR xs = isort ltR xs)]; have HSL := Lib.hid (HSL.out.below hb7); have HB7 := Lib.hid (HB6.out.trans (hb7.mono HB6.out.size)); clear hb7)
      | (go_at_call 13; refine (far_any a n cap xs _ (by omega) (h.below HB7.out) HF.out).mono ?_; rintro e w8 ⟨rfl, hb8⟩; rw [hfs]; have HSL := Lib.hid (HSL.out.below hb8); have HB8 := Lib.hid (HB7.out.trans (hb8.mono HB7.out.size)); clear hb8)
      | (go_at_call 14; refine (rfar_any a n cap xs _ (by omega) (h.below HB8.out) HF.out).mono ?_; rintro e w9 ⟨rfl, rfl⟩))
    go_wp2_with (first
      | (go_at_call 15; refine (rgroups_any a n cap xs window chain _ (by omega) HONE.out (h.below HB8.out)).mono ?_; rintro e w10 ⟨v, rfl, hg10, hb10⟩; rw [HGR.out] at hg10; obtain ⟨hsr, ar, cr, rfl, hsr10⟩ := isG_sls hg10; have HSL := Lib.hid (HSL.out.below hb10); have HB10 := Lib.hid (HB8.out.trans (hb10.mono HB8.out.size)); have HSR := Lib.hid hsr10; clear hb10 hg10 hsr10)
      | (go_at_call 7; refine (lsame_any _ _ _ hsg G _ _ _ hsr G _ hgl' HGM.out HSL.out HSR.out).mono ?_; rintro e w11 ⟨rfl, hb11⟩; rw [decide_eq_true (rfl : G = G)]; have HB11 := Lib.hid (HB10.out.trans (hb11.mono HB10.out.size)); clear hb11))
    go_ret
    exact ⟨rfl, HB11.out⟩
end Go.Proofs.Ytdkgjheldpdohaa
