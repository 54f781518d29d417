/- The transfer layer: the walk of the law on whichever order. -/
import Derived.Test.YtdkgjheldpdohaaTrO
import Derived.Test.YtdkgjheldpdohaaBase5
import Derived.Deep.DeepFit
namespace Go.Proofs.Ytdkgjheldpdohaa
open Go.RowKit Go.V Go.Sort Go.Shelf Go.Proofs Go.Maps

def rot (m : Nat) (xs : List Ride) : List Ride := xs.drop m ++ xs.take m
theorem rot_perm (m : Nat) (xs : List Ride) : (rot m xs).Perm xs := by
  unfold rot
  have := List.perm_append_comm (l₁ := xs.drop m) (l₂ := xs.take m)
  rwa [List.take_append_drop] at this
theorem rot_len (m : Nat) (xs : List Ride) : (rot m xs).length = xs.length := (rot_perm m xs).length_eq
theorem rot_at {q k : Nat} {xs : List Ride} {r : Ride} (hk : k < xs.length) (hr : xs[(k + q) % xs.length]? = some r) : (rot (q % xs.length) xs)[k]? = some r := by
  unfold rot
  have hm : q % xs.length < xs.length := Nat.mod_lt _ (by omega)
  have e0 : (k + q) % xs.length = (k + q % xs.length) % xs.length := by rw [Nat.add_mod_mod]
  rw [e0] at hr
  generalize q % xs.length = m at hm hr
  by_cases h : k + m < xs.length
  · rw [Nat.mod_eq_of_lt h] at hr
    rw [List.getElem?_append_left (by simp; omega), List.getElem?_drop, Nat.add_comm]; exact hr
  · have e1 : (k + m) % xs.length = k + m - xs.length := by
      rw [Nat.mod_eq_sub_mod (by omega), Nat.mod_eq_of_lt (by omega)]
    rw [e1] at hr
    rw [List.getElem?_append_right (by simp; omega), List.getElem?_take_of_lt (by simp; omega), List.length_drop]
    rw [show k - (xs.length - m) = k + m - xs.length by omega]; exact hr
theorem rev_at {k : Nat} {xs : List Ride} {r : Ride} (hk : k < xs.length) (hr : xs[xs.length - 1 - k]? = some r) : xs.reverse[k]? = some r := by
  rw [List.getElem?_reverse hk]; exact hr

set_option maxHeartbeats 4000000 in
set_option maxRecDepth 100000 in
theorem tany_any (a : Option Addr) (n cap : Nat) (xs : List Ride) (window : Int) (p q : Nat) (w : World) (hp : p ≤ 255) (hq : q ≤ 255) (hok : ∀ r ∈ xs, Ride.ok r) (h : Sl Ride.cod w a n cap xs) :
    Calls Try.prog 3 #[.slice a n cap, .int .i64 window, .agg #[.int .u8 p, .int .u8 q]] w fun e w' => e = .returned (.bool true) ∧ Below w.heap.size w w' := by
  have hN := Lib.hid h.hlen
  have mixed : Try.prog.follows .mixedOrders = true := by kernel_rfl
  by_cases hbig : 60 < n
  · have hn : n ≤ 9223372036854775807 := by have := h.hcap; have := h.hmax; unfold maxLen at this; omega
    go_enter Try.func3, Try.ntmps3
    go_wp2_with (go_at_call 5; refine (awake_any _).mono ?_; rintro e w1 ⟨rfl, hb⟩)
    go_ret
    exact ⟨rfl, ((Below.refl _ _).alloc (Nat.le_refl _) _).trans (hb.mono (by simp))⟩
  have hsm : xs.length ≤ 2048 := by have := hN.out; omega
  obtain ⟨chain, hch⟩ : ∃ chain : Int, (p : Int) % 16 + 1 = chain := ⟨_, rfl⟩
  have hc1 : 1 ≤ chain ∧ chain ≤ 16 := by omega
  have hE : groupsE xs window chain = if GroupsP xs window chain then 0 else 2 := by unfold groupsE; rw [if_pos hsm]
  by_cases hP : GroupsP xs window chain
  case neg =>
    have hR : groupsR xs window chain = [] := by unfold groupsR; rw [if_neg hP]
    rw [if_neg hP] at hE
    clear hsm hP
    go_enter Try.func3, Try.ntmps3
    go_wp2_with (first
        | (go_at_call 5; refine (awake_any _).mono ?_; rintro e w1 ⟨rfl, hb1⟩; have HB1 := Lib.hid (((Below.refl _ _).alloc (Nat.le_refl _) _).trans (hb1.mono (by simp))); have hs1 := HB1.out.size; have kq : w1.cell? ⟨w.heap.size, 0, none⟩ = some (.int .u8 p) := (by rw [(bcell hb1).1 _ _ (by simp)]; simp [go_sem]); clear hb1)
        | (go_at_call 6; go_loud (refine (groups_any a n cap xs window chain _ (by omega) hok (h.below HB1.out)).mono ?_); rintro e w2 ⟨v, rfl, hg, hb2⟩; rw [hR] at hg; obtain ⟨ag, cg, rfl⟩ := isG_nil hg; rw [hE]; have HB2 := Lib.hid (HB1.out.trans (hb2.mono hs1)); clear hb2 hg))
    go_ret
    exact ⟨rfl, HB2.out⟩
  case pos =>
    have hP1 : GroupsP xs window 1 := ⟨hP.1, hP.2.1, by omega, by omega⟩
    have hE1 : groupsE xs window 1 = 0 := by unfold groupsE; rw [if_pos hsm, if_pos hP1]
    rw [if_pos hP] at hE
    obtain ⟨m, hm⟩ : ∃ m, q % n = m := ⟨_, rfl⟩
    have ho := groups_perm (rot_perm m xs) window chain
    have hb := groups_perm (List.reverse_perm xs) window chain
    have hEo : groupsE (rot m xs) window chain = 0 := by unfold groupsE; rw [if_pos (by rw [rot_len]; exact hsm), if_pos (ho.2.2 hP)]
    have hEb : groupsE xs.reverse window chain = 0 := by unfold groupsE; rw [if_pos (by rw [List.length_reverse]; exact hsm), if_pos (hb.2.2 hP)]
    have hR : groupsR xs window chain = groupsOf window chain (isort ltR xs) := by unfold groupsR; rw [if_pos hP]
    have hR1 : groupsR xs window 1 = groupsOf window 1 (isort ltR xs) := by unfold groupsR; rw [if_pos hP1]
    have hl : (isort ltR xs).length = n := by rw [(isort_perm xs).length_eq, ← hN.out]
    have hgl := groups_le hP.2.1.1 hc1.1 (window := window) (isort ltR xs)
    have hgg := groups_good hP.2.1.1 hc1.1 (window := window) (isort ltR xs)
    have hgf := groups_flat window chain (isort ltR xs)
    have hg1 := groups_one hP.2.1.1 (isort ltR xs)
    obtain ⟨G, hG⟩ : ∃ G, groupsOf window chain (isort ltR xs) = G := ⟨_, rfl⟩
    obtain ⟨A, hA⟩ : ∃ A, groupsOf window 1 (isort ltR xs) = A := ⟨_, rfl⟩
    rw [hG] at hR hgl hgg hgf
    rw [hA] at hR1 hg1
    rw [hl] at hgl hg1
    have hgm : ∀ x ∈ G, x.length ≤ 1000000 := fun x hx => by have := (hgg x hx).2.1; omega
    have HGM := Lib.hid hgm
    have HGG := Lib.hid hgg
    have HGF := Lib.hid hgf
    have HL := Lib.hid hl
    have HM := Lib.hid hm
    have HW : Hid (0 ≤ window ∧ window ≤ 1099511627776) := hP.2.1
    have HONE := Lib.hid hP.1.2.1
    have hRo : groupsR (rot m xs) window chain = G := by rw [ho.1, hR]
    have hRb : groupsR xs.reverse window chain = G := by rw [hb.1, hR]
    have HRs : Hid (groupsR xs window chain = G ∧ groupsR xs window 1 = A ∧ groupsR (rot m xs) window chain = G ∧ groupsR xs.reverse window chain = G) := ⟨hR, hR1, hRo, hRb⟩
    have HEs : Hid (groupsE xs window chain = 0 ∧ groupsE xs window 1 = 0 ∧ groupsE (rot m xs) window chain = 0 ∧ groupsE xs.reverse window chain = 0) := ⟨hE, hE1, hEo, hEb⟩
    have HLA := Lib.hid hg1
    have hokr : ∀ r ∈ rot m xs, Ride.ok r := fun r hr => hok r ((rot_perm m xs).mem_iff.1 hr)
    have hokb : ∀ r ∈ xs.reverse, Ride.ok r := fun r hr => hok r (List.mem_reverse.1 hr)
    clear hE hE1 hEo hEb hR hR1 hRo hRb hgm hgg hgf hl hm hg1 ho hb hP hP1 hsm hG hA
    go_enter Try.func3, Try.ntmps3
    go_wp2_with (first
        | (go_at_call 5; refine (awake_any _).mono ?_; rintro e w1 ⟨rfl, hb1⟩; have HB1 := Lib.hid (((Below.refl _ _).alloc (Nat.le_refl _) _).trans (hb1.mono (by simp))); have hs1 := HB1.out.size; have kp : w1.cell? ⟨w.heap.size, 0, none⟩ = some (.int .u8 p) := (by rw [(bcell hb1).1 _ _ (by simp)]; simp [go_sem]); have kq : w1.cell? ⟨w.heap.size, 1, none⟩ = some (.int .u8 q) := (by rw [(bcell hb1).1 _ _ (by simp)]; simp [go_sem]); clear hb1)
        | (go_at_call 6; refine (groups_any a n cap xs window chain _ (by omega) hok (h.below HB1.out)).mono ?_; rintro e w2 ⟨v, rfl, hg, hb2⟩; rw [HRs.out.1] at hg; rw [HEs.out.1]; obtain ⟨hsg, ag, cg, rfl, hsl⟩ := isG_sls hg; have HSL := Lib.hid hsl; have HB2 := Lib.hid (HB1.out.trans (hb2.mono hs1)); have kq2 : w2.cell? ⟨w.heap.size, 1, none⟩ = some (.int .u8 q) := (by rw [(bcell hb2).1 _ _ (World.block_lt_of_cell? w1 _ kq)]; exact kq); have KQ := Lib.hid kq2; clear hb2 hg hsl kp kq kq2))
    have hs2 := HB2.out.size
    go_loopw [10, 11, 46] (fun o b i wr => ∃ (k : Nat) (ao ab : Option Addr) (co cb : Nat), i = .int .i64 k ∧ k ≤ n ∧ o = .slice ao k co ∧ b = .slice ab k cb ∧ Hid (Own 30 Ride.cod w2.heap.size wr (.slice ao k co) ((rot m xs).take k)) ∧ Hid (Own 30 Ride.cod w2.heap.size wr (.slice ab k cb) (xs.reverse.take k)) ∧ Hid (Apart (.slice ao k co) (.slice ab k cb)) ∧ Hid (Below w2.heap.size w2 wr)) (fun _ _ i _ => n - (intOf i).toNat)
    case atStart => exact ⟨0, none, none, 0, 0, rfl, by omega, rfl, rfl, Own.nil, Own.nil, Apart.nil, Below.refl _ _⟩
    case round =>
      obtain ⟨k, ao, ab, co, cb, rfl, hk, rfl, rfl, hO, hOb, hAp, hB⟩ := hrel
      have hs3 : w2.heap.size ≤ wr.heap.size := hB.out.size
      by_cases hlt : k < n
      · obtain ⟨j, hj⟩ : ∃ j, (k + q) % n = j := ⟨_, rfl⟩
        obtain ⟨jb, hjb⟩ : ∃ jb, n - 1 - k = jb := ⟨_, rfl⟩
        have hjn : j < n := by rw [← hj]; exact Nat.mod_lt _ (by omega)
        have hjbn : jb < n := by omega
        obtain ⟨b, off, r, rfl, hbl, hr, c0, c1, c2, c3⟩ := ride_at (h.below (HB2.out.trans (hB.out.mono hs2))) hjn
        obtain ⟨b', off', r', e', hbw, hr', d0, d1, d2, d3⟩ := ride_at h hjbn
        cases e'
        have C : Hid (w.cell? ⟨b, off + jb * 4, none⟩ = some (.int .i64 r'.t) ∧ w.cell? ⟨b, off + jb * 4 + 1, none⟩ = some (.int .i64 r'.s) ∧ w.cell? ⟨b, off + jb * 4 + 2, none⟩ = some (.int .i64 r'.e) ∧ w.cell? ⟨b, off + jb * 4 + 3, none⟩ = some (.int .i64 r'.f)) := ⟨d0, d1, d2, d3⟩
        clear d0 d1 d2 d3
        have HR : Hid ((rot m xs)[k]? = some r) := by
          show _ = _
          rw [← HM.out]
          have := hN.out
          rw [this]
          refine rot_at (by omega) ?_
          rw [← this, hj]; exact hr
        have HR' : Hid (xs.reverse[k]? = some r') := by
          refine rev_at (by have := hN.out; omega) ?_
          rw [← hN.out, hjb]; exact hr'
        have j1 : ((k : Int) + (q : Int)) % (n : Int) = (j : Int) := by rw [← hj]; simp
        have j2 : ((k : Int) + (q : Int)).tmod (n : Int) = (j : Int) := by rw [Int.tmod_eq_emod_of_nonneg (by omega), j1]
        have j3 : (n : Int) - 1 - (k : Int) = (jb : Int) := by omega
        have j4 : IntKind.i64.wrap ((n : Int) - 1) = (n : Int) - 1 := by rw [IntKind.wrap_i64]; omega
        have n0 : ((n : Int) == 0) = false := by simp; omega
        have n1 : ¬ (n : Int) = 0 := by omega
        have b1 : (k : Int) < (n : Int) := by omega
        have b2 : (j : Int) < (n : Int) := by omega
        have b3 : (jb : Int) < (n : Int) := by omega
        have kq : wr.cell? ⟨w.heap.size, 1, none⟩ = some (.int .u8 q) := by rw [(bcell hB.out).1 _ _ (World.block_lt_of_cell? w2 _ KQ.out)]; exact KQ.out
        clear hr hr' hj hjb
        have HM1 : Hid (((rot m xs).take k).length + 1 ≤ maxLen) := by show _ ≤ _; rw [List.length_take, rot_len]; unfold maxLen; omega
        have HM2 : Hid ((((rot m xs).take k).length + 1) * 32 ≤ 140737488355328) := by show _ ≤ _; rw [List.length_take, rot_len]; omega
        have HM3 : Hid ((xs.reverse.take k).length + 1 ≤ maxLen) := by show _ ≤ _; rw [List.length_take, List.length_reverse]; unfold maxLen; omega
        have HM4 : Hid (((xs.reverse.take k).length + 1) * 32 ≤ 140737488355328) := by show _ ≤ _; rw [List.length_take, List.length_reverse]; omega
        go_wp2_with (first
          | (at_builtin; refine wpList_app_at eltRide rfl (.tmp 49) (.tmp 61) rfl (base := w2.heap.size) _ ((rot m xs).take k) rfl (hO.out.alloc _) _ 1 1 [r] rfl (sl_new (c := Ride.cod) wr _ _ [r] 1 rfl (by unfold maxLen; omega) rfl) HM1.out HM2.out (by simp; omega) ?_; intro v3 w3 hown3 hg3 hat3; have HOb3 := Lib.hid ((hOb.out.alloc _).kept hg3 hAp.out.symm); have HAp3 := Lib.hid (hAp.out.next hat3 (hOb.out.alloc _)); have HB3 : Hid (Below w2.heap.size w2 w3) := (hB.out.alloc hs3 _).grown hg3 (by simp; omega) (fun k hk => own_lt hO.out k hk); have hs4 := HB3.out.size; have HO3 := Lib.hid hown3; obtain ⟨m0, m1, m2, m3⟩ : w3.cell? ⟨b, off + jb * 4, none⟩ = some (.int .i64 r'.t) ∧ w3.cell? ⟨b, off + jb * 4 + 1, none⟩ = some (.int .i64 r'.s) ∧ w3.cell? ⟨b, off + jb * 4 + 2, none⟩ = some (.int .i64 r'.e) ∧ w3.cell? ⟨b, off + jb * 4 + 3, none⟩ = some (.int .i64 r'.f) := (by obtain ⟨c, -⟩ := bcell (HB2.out.trans (HB3.out.mono hs2)); rw [c _ _ hbw, c _ _ hbw, c _ _ hbw, c _ _ hbw]; exact C.out); clear hown3 hg3 hat3)
          | (at_builtin; refine wpList_app_at eltRide rfl (.tmp 63) (.tmp 72) rfl (base := w2.heap.size) _ (xs.reverse.take k) rfl (HOb3.out.alloc _) _ 1 1 [r'] rfl (sl_new (c := Ride.cod) w3 _ _ [r'] 1 rfl (by unfold maxLen; omega) rfl) HM3.out HM4.out (by simp; omega) ?_; intro v4 w4 hown4 hg4 hat4; have HO4 := Lib.hid ((HO3.out.alloc _).kept hg4 HAp3.out); have HAp4 := Lib.hid ((HAp3.out.symm.next hat4 (HO3.out.alloc _)).symm); have HB4 : Hid (Below w2.heap.size w2 w4) := (HB3.out.alloc hs4 _).grown hg4 (by simp; omega) (fun k hk => own_lt HOb3.out k hk); have HOb4 := Lib.hid hown4; clear hown4 hg4 hat4))
        have e3 := HO4.out
        have e4 := HOb4.out
        rw [← take_at HR.out] at e3
        rw [← take_at HR'.out] at e4
        have HO5 := Lib.hid e3
        have HOb5 := Lib.hid e4
        obtain ⟨a3, c3', e3', -⟩ := HO5.out.slice
        obtain ⟨a4, c4', e4', -⟩ := HOb5.out.slice
        rw [List.length_take, rot_len, ← hN.out, show min (k + 1) n = k + 1 by omega] at e3'
        rw [List.length_take, List.length_reverse, ← hN.out, show min (k + 1) n = k + 1 by omega] at e4'
        subst e3'
        subst e4'
        clear e3 e4
        go_roundw
        case rel => exact ⟨k + 1, a3, a4, c3', c4', by go_num, by omega, rfl, rfl, HO5.out, HOb5.out, HAp4.out, HB4.out⟩
        case measure => simp [intOf]; omega
      · have hk' : k = n := by omega
        subst hk'
        have hO2 := hO.out
        have hOb2 := hOb.out
        rw [List.take_of_length_le (by rw [rot_len, ← hN.out]; exact Nat.le_refl _)] at hO2
        rw [List.take_of_length_le (by rw [List.length_reverse, ← hN.out]; exact Nat.le_refl _)] at hOb2
        obtain ⟨ao', co', e1, so, -⟩ := hO2.slice
        obtain ⟨ab', cb', e2, sb, -⟩ := hOb2.slice
        rw [rot_len, ← hN.out] at e1 so
        rw [List.length_reverse, ← hN.out] at e2 sb
        cases e1
        cases e2
        have SO := Lib.hid so
        have SB := Lib.hid sb
        have SA := Lib.hid (h.below (HB2.out.trans (hB.out.mono hs2)))
        have HSL3 := Lib.hid (HSL.out.below hB.out)
        have hgl' : G.length ≤ 1000000 := by omega
        have hgl2 : ¬ (k : Int) < (G.length : Int) := by omega
        have hgl3 : decide (k < G.length) = false := decide_eq_false (by omega)
        have HBW : Hid (Below w.heap.size w wr) := HB2.out.trans (hB.out.mono hs2)
        clear hO2 hOb2 so sb hO hOb hAp HSL
        go_wp2_with (first
          | (go_at_call 6; go_fit (groups_any ao k co (rot m xs) window chain _ (by omega) hokr SO.out); rintro e w3 ⟨v, rfl, hg, hb3⟩; rw [HRs.out.2.2.1] at hg; rw [HEs.out.2.2.1]; obtain ⟨hso, ago, cgo, rfl, hslo⟩ := isG_sls hg; have HSLO := Lib.hid hslo; have HSL4 := Lib.hid (HSL3.out.below hb3); have SB4 := Lib.hid (SB.out.below hb3); have SA4 := Lib.hid (SA.out.below hb3); have HB3 := Lib.hid (HBW.out.trans (hb3.mono HBW.out.size)); clear hb3 hg hslo)
          | (go_at_call 6; go_fit (groups_any ab k cb xs.reverse window chain _ (by omega) hokb SB4.out); rintro e w4 ⟨v, rfl, hg, hb4⟩; rw [HRs.out.2.2.2] at hg; rw [HEs.out.2.2.2]; obtain ⟨hsb, agb, cgb, rfl, hslb⟩ := isG_sls hg; have HSLB := Lib.hid hslb; have HSLO5 := Lib.hid (HSLO.out.below hb4); have HSL5 := Lib.hid (HSL4.out.below hb4); have SA5 := Lib.hid (SA4.out.below hb4); have HB4 := Lib.hid (HB3.out.trans (hb4.mono HB3.out.size)); clear hb4 hg hslb)
          | (go_at_call 6; go_fit (groups_any a k cap xs window 1 _ (by omega) hok SA5.out); rintro e w5 ⟨v, rfl, hg, hb5⟩; rw [HRs.out.2.1] at hg; rw [HEs.out.2.1]; obtain ⟨hsa, aga, cga, rfl, -⟩ := isG_sls hg; rw [HLA.out]; have HSLO6 := Lib.hid (HSLO5.out.below hb5); have HSLB6 := Lib.hid (HSLB.out.below hb5); have HSL6 := Lib.hid (HSL5.out.below hb5); have HB5 := Lib.hid (HB4.out.trans (hb5.mono HB4.out.size)); clear hb5 hg)
          | (go_at_call 7; go_fit (lsame_any _ _ _ hsg G _ _ _ hso G _ hgl' HGM.out HSL6.out HSLO6.out); rintro e w6 ⟨rfl, hb6⟩; rw [decide_eq_true (rfl : G = G)]; have HSLB7 := Lib.hid (HSLB6.out.below hb6); have HSL7 := Lib.hid (HSL6.out.below hb6); have HB6 := Lib.hid (HB5.out.trans (hb6.mono HB5.out.size)); clear hb6)
          | (go_at_call 7; go_fit (lsame_any _ _ _ hsg G _ _ _ hsb G _ hgl' HGM.out HSL7.out HSLB7.out); rintro e w7 ⟨rfl, hb7⟩; rw [decide_eq_true (rfl : G = G)]; have HSL8 := Lib.hid (HSL7.out.below hb7); have HB7 := Lib.hid (HB6.out.trans (hb7.mono HB6.out.size)); clear hb7))
        have hs7 := HB7.out.size
        go_loopw [19, 133] (fun o i wr => ∃ (t K : Nat) (aa : Option Addr) (ca : Nat), i = .int .i64 t ∧ t ≤ G.length ∧ o = .slice aa K ca ∧ Hid (Own 30 Ride.cod w7.heap.size wr (.slice aa K ca) (G.take t).flatten) ∧ Hid ((G.take t).flatten.length = K) ∧ Hid (Below w7.heap.size w7 wr)) (fun _ i _ => G.length - (intOf i).toNat)
        case atStart => exact ⟨0, 0, none, 0, rfl, by omega, rfl, Own.nil, rfl, Below.refl _ _⟩
        case round =>
          obtain ⟨t, K, aa, ca, rfl, ht, rfl, hOa, hK, hBq⟩ := hrel
          have hsq : w7.heap.size ≤ wr.heap.size := hBq.out.size
          have HBA := Lib.hid (HB7.out.trans (hBq.out.mono hs7))
          have hKk : K ≤ k := by
            have e1 : (G.take t).flatten.length ≤ G.flatten.length := by
              have : G.flatten = (G.take t).flatten ++ (G.drop t).flatten := by rw [← List.flatten_append, List.take_append_drop]
              rw [this, List.length_append]; omega
            rw [HGF.out, HL.out, hK.out] at e1; exact e1
          by_cases htl : t < G.length
          · obtain ⟨bg, og, hd, x, rfl, hbg, hh, hx, hcx, hsx⟩ := (HSL8.out.below hBq.out).at htl
            obtain ⟨ax, nx, cx⟩ := hd
            have hgp := HGG.out x (List.mem_of_getElem? hx)
            obtain ⟨g1, g2, g3⟩ := hgp
            have hnx := hsx.hlen
            change nx = x.length at hnx
            have hx0 : 0 < nx := by rw [hnx]; exact List.length_pos_iff.2 g1
            obtain ⟨mm, rfl⟩ : ∃ mm, nx = mm + 1 := ⟨nx - 1, by omega⟩
            obtain ⟨bx, ox, fi, rfl, hbx, hfi, f0, f1, f2, f3⟩ := ride_at hsx (show 0 < mm + 1 by omega)
            obtain ⟨bx', ox', la, e', -, hla, l0, l1, l2, l3⟩ := ride_at hsx (show mm < mm + 1 by omega)
            cases e'
            replace hcx : wr.cell? ⟨bg, og + t, none⟩ = some (.slice (some ⟨bx, ox, none⟩) (mm + 1) cx) := hcx
            have e1 : x.getLastD default = la := by
              rw [List.getLastD_eq_getLast?, List.getLast?_eq_getElem?, ← hnx, Nat.add_sub_cancel, hla]; rfl
            have e2 : x.headD default = fi := by rw [List.headD_eq_head?_getD, List.head?_eq_getElem?, hfi]; rfl
            rw [e1, e2] at g3
            have r2 : IntKind.i64.wrap (mm : Int) = (mm : Int) := by rw [IntKind.wrap_i64]; omega
            have b2 : (mm : Int) < (mm : Int) + 1 := by omega
            have b3 : (t : Int) < (G.length : Int) := by omega
            have xm : ∀ z ∈ x, oneB z = true := fun z hz => HONE.out z ((isort_perm xs).mem_iff.1 (by
              rw [← HGF.out]; exact List.mem_flatten.2 ⟨x, List.mem_of_getElem? hx, hz⟩))
            have hfs := (oneB_iff fi).1 (xm fi (List.mem_of_getElem? hfi))
            have hls := (oneB_iff la).1 (xm la (List.mem_of_getElem? hla))
            have hfs' : 0 ≤ fi.s ∧ fi.s ≤ 1099511627776 := by omega
            have hls' : 0 ≤ la.s ∧ la.s ≤ 1099511627776 := by omega
            have rs : IntKind.i64.wrap (la.s - fi.s) = la.s - fi.s := by rw [IntKind.wrap_i64]; omega
            have gc : (mm : Int) + 1 ≤ chain := by rw [← hnx] at g2; push_cast at g2; exact g2
            have gd1 : decide (chain < (mm : Int) + 1) = false := decide_eq_false (by omega)
            have gd2 : decide (window < la.s - fi.s) = false := decide_eq_false (by omega)
            have gd3 : ((mm : Int) + 1 == 0) = false := by simp; omega
            have HX := Lib.hid hx
            have HSX := Lib.hid hsx
            have HNX := Lib.hid hnx
            have HMM : Hid (mm + 1 ≤ k) := by
              have e3 : x.length ≤ G.flatten.length := (List.sublist_flatten_of_mem (List.mem_of_getElem? hx)).length_le
              rw [HGF.out, HL.out, ← hnx] at e3; exact e3
            have hmm := HMM.out
            clear hfi hla e1 e2 xm hfs hls g1 g2 g3 hh hx hsx hnx
            have HM1 : Hid ((G.take t).flatten.length + (mm + 1) ≤ maxLen) := by show _ ≤ _; rw [hK.out]; unfold maxLen; omega
            have HM2 : Hid (((G.take t).flatten.length + (mm + 1)) * 32 ≤ 140737488355328) := by show _ ≤ _; rw [hK.out]; omega
            go_wp2_with fail
            go_quiet (fail)
            go_wp2_with (at_builtin; refine wpList_app eltRide rfl (.tmp 162) (.tmp 163) rfl (base := w7.heap.size) _ (G.take t).flatten rfl (hOa.out.below (below_drewN (Below.refl _ _) _)) _ (mm + 1) _ x rfl (HSX.out.below (below_drewN (Below.refl _ _) _)) HM1.out HM2.out ((below_drewN hBq.out _).size) ?_; intro v8 w8 hown8 hg8; have HB8 : Hid (Below w7.heap.size w7 w8) := (below_drewN hBq.out _).grown hg8 ((below_drewN hBq.out _).size) (fun k hk => own_lt hOa.out k hk); have HO8 := Lib.hid hown8; clear hown8 hg8)
            have e3 := HO8.out
            have e4 : (G.take t).flatten ++ x = (G.take (t + 1)).flatten := by
              obtain ⟨q1, q2⟩ := List.getElem?_eq_some_iff.1 HX.out
              rw [List.take_succ_eq_append_getElem q1, List.flatten_append, q2]; simp
            rw [e4] at e3
            obtain ⟨a8, c8, e5, -⟩ := e3.slice
            have e6 : (G.take (t + 1)).flatten.length = K + (mm + 1) := by rw [← e4, List.length_append, hK.out, HNX.out]
            rw [e6] at e5
            subst e5
            have HO9 := Lib.hid e3
            have HE6 := Lib.hid e6
            clear e3 e4 e6
            go_roundw
            case rel => exact ⟨t + 1, K + (mm + 1), a8, c8, by go_num, by omega, rfl, HO9.out, HE6.out, HB8.out⟩
            case measure => simp [intOf]; omega
          · have ht' : t = G.length := by omega
            subst ht'
            have hO2 := hOa.out
            rw [List.take_of_length_le (Nat.le_refl _), HGF.out] at hO2
            obtain ⟨aa', ca', e1, sa, -⟩ := hO2.slice
            rw [HL.out] at e1 sa
            cases e1
            have SAA := Lib.hid sa
            have SAX := Lib.hid (h.below HBA.out)
            clear hO2 sa hOa
            go_wp2_with (first
              | (go_at_call 9; refine (sort_any a k cap xs _ (by omega) SAX.out).mono ?_; rintro e w9 ⟨v, rfl, ho, hb⟩; obtain ⟨as1, cs1, rfl, hss, -⟩ := ownR_sl ho; rw [HL.out] at hss; have HSS := Lib.hid hss; have SAA2 := Lib.hid (SAA.out.below hb); have HB9 := Lib.hid (HBA.out.trans (hb.mono HBA.out.size)); rw [HL.out]; clear ho hss hb)
              | (go_at_call 8; refine (same_any _ _ _ (isort ltR xs) _ _ _ (isort ltR xs) _ (by omega) SAA2.out HSS.out).mono ?_; rintro e w10 ⟨rfl, hb⟩; rw [decide_eq_true (rfl : isort ltR xs = isort ltR xs)]; have HB10 := Lib.hid (HB9.out.trans (hb.mono HB9.out.size)); clear hb))
            go_ret
            exact ⟨rfl, HB10.out⟩
end Go.Proofs.Ytdkgjheldpdohaa
