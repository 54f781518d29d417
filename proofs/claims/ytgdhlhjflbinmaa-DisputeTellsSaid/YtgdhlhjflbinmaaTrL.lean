/- The transfer layer: the reference's groups. -/
/- The transfer layer: Groups. -/
/- The transfer layer: the plain laws of the groups. -/
import Derived.Test.YtgdhlhjflbinmaaTrH
import Derived.Test.YtgdhlhjflbinmaaBase3
import Derived.Deep.Cut
import Derived.Deep.DeepCutAuto
import Derived.Test.YtgdhlhjflbinmaaBase4
namespace Go.Proofs.Ytgdhlhjflbinmaa
open Go.RowKit Go.V Go.Sort Go.Shelf Go.Proofs Go.Maps

def JoinP (window chain : Int) (cur : List Ride) (r : Ride) : Prop := cur ≠ [] ∧ (cur.length : Int) < chain ∧ r.f ≠ -1 ∧ (cur.getLastD default).f ≠ -1 ∧ r.s - (cur.headD default).s ≤ window
instance (window chain : Int) (cur : List Ride) (r : Ride) : Decidable (JoinP window chain cur r) := inferInstanceAs (Decidable (_ ∧ _ ∧ _ ∧ _ ∧ _))
def finG (st : List (List Ride) × List Ride) : List (List Ride) := if st.2 = [] then st.1 else st.1 ++ [st.2]
def stepG (window chain : Int) (st : List (List Ride) × List Ride) (r : Ride) : List (List Ride) × List Ride := if JoinP window chain st.2 r then (st.1, st.2 ++ [r]) else (finG st, [r])
def groupsOf (window chain : Int) (l : List Ride) : List (List Ride) := finG (l.foldl (stepG window chain) ([], []))

theorem infoRows : (Try.prog.info? 27).map (fun i => (i.zero, i.size, i.bytes)) = some (some (.slice none 0 0), 1, 24) := by kernel_rfl
theorem eltRows : Elt Try.prog 78 27 Hdr.cod 24 := Elt.of Try.underlying78 infoRows rfl (by decide)

theorem fold_take {window chain : Int} {l : List Ride} {k : Nat} {r : Ride} {st st' : List (List Ride) × List Ride} (hr : l[k]? = some r) (h : (l.take k).foldl (stepG window chain) ([], []) = st) (hs : stepG window chain st r = st') : (l.take (k + 1)).foldl (stepG window chain) ([], []) = st' := by
  rw [take_at hr, List.foldl_append, h]; exact hs

def IsG (base : Nat) (w : World) (v : Value) (gs : List (List Ride)) : Prop := ∃ hs, OwnG 29 27 Ride.cod base w v hs gs

set_option maxHeartbeats 2000000 in
set_option maxRecDepth 100000 in
theorem rgroups_any (a : Option Addr) (n cap : Nat) (xs : List Ride) (window chain : Int) (w : World) (hn : n ≤ 100000) (hr : ∀ r ∈ xs, oneB r = true) (h : Sl Ride.cod w a n cap xs) :
    Calls Try.prog 40 #[.slice a n cap, .int .i64 window, .int .i64 chain] w fun e w' => ∃ v, e = .returned v ∧ IsG w.heap.size w' v (groupsOf window chain (isort ltR xs)) ∧ Below w.heap.size w w' := by
  have mixed : Try.prog.follows .mixedOrders = true := by kernel_rfl
  have hN := Lib.hid h.hlen
  obtain ⟨l, hl⟩ : ∃ l, isort ltR xs = l := ⟨_, rfl⟩
  have hlr : ∀ r ∈ l, oneB r = true := fun r hm => hr r (by rw [← hl] at hm; exact (isort_perm xs).mem_iff.1 hm)
  have hll : l.length = n := by rw [← hl, (isort_perm xs).length_eq]; exact hN.out.symm
  have HL := Lib.hid hl
  have HLR := Lib.hid hlr
  have HLL := Lib.hid hll
  rw [hl]
  clear hr hl hlr hll
  go_enter Try.func40, Try.ntmps40
  go_wp2_with (go_at_call 64; refine (rsort_any a n cap xs _ (by omega) h).mono ?_; rintro e w1 ⟨v, rfl, ho, hb⟩)
  obtain ⟨av, cv, rfl, hsv, -⟩ := ho.slice
  rw [HL.out] at hsv
  have hlv : (isort ltR xs).length = n := by rw [HL.out, HLL.out]
  rw [hlv]
  have hsv' : Sl Ride.cod w1 av n cv l := by have := hsv; rwa [HLL.out] at this
  have HSV := Lib.hid hsv'
  have HB := Lib.hid hb
  have HLV := Lib.hid hlv
  clear ho hsv hsv' hb hlv
  go_wp2_with fail
  go_loopw [7, 8, 10] (fun out grp i wr => ∃ (k : Nat) (hs : List Hdr) (gs : List (List Ride)) (cur : List Ride) (bg : Nat) (ao ag : Option Addr) (co cg L : Nat), i = .int .i64 k ∧ k ≤ n ∧ out = .slice ao gs.length co ∧ grp = .slice ag L cg ∧ Hid (OwnG 29 27 Ride.cod w1.heap.size wr (.slice ao gs.length co) hs gs) ∧ Hid (Own 29 Ride.cod bg wr (.slice ag L cg) cur) ∧ Hid (∀ x ∈ hs, x.blk < bg) ∧ w1.heap.size ≤ bg ∧ bg ≤ wr.heap.size ∧ Hid ((l.take k).foldl (stepG window chain) ([], []) = (gs, cur)) ∧ Hid (Below w1.heap.size w1 wr) ∧ gs.length ≤ k ∧ L ≤ k ∧ Hid (cur.length = L) ∧ Hid (∀ r ∈ cur, oneB r = true)) (fun _ _ i _ => n - (intOf i).toNat)
  case atStart => exact ⟨0, [], [], [], w1.heap.size, none, none, 0, 0, 0, rfl, by omega, rfl, rfl, OwnG.nil, Own.nil, fun x hx => by simp at hx, Nat.le_refl _, Nat.le_refl _, rfl, Below.refl _ _, by simp, by simp, rfl, fun r hr => by simp at hr⟩
  case round =>
    obtain ⟨k, hs, gs, cur, bg, ao, ag, co, cg, L, rfl, hk, rfl, rfl, hG, hC, hlt, hb1, hb2, hf, hB, hg1, hc1, hLen, HCR⟩ := hrel
    by_cases hkn : k < n
    · obtain ⟨b, off, r, rfl, hbl, hr, c0, c1, c2, c3⟩ := ride_at HSV.out hkn
      have HR := Lib.hid hr
      clear hr
      obtain ⟨hc, -⟩ := bcell hB.out
      have k0 : wr.cell? ⟨b, off + k * 4, none⟩ = some (.int .i64 r.t) := by rw [hc _ _ hbl]; exact c0
      have k1 : wr.cell? ⟨b, off + k * 4 + 1, none⟩ = some (.int .i64 r.s) := by rw [hc _ _ hbl]; exact c1
      have k2 : wr.cell? ⟨b, off + k * 4 + 2, none⟩ = some (.int .i64 r.e) := by rw [hc _ _ hbl]; exact c2
      have k3 : wr.cell? ⟨b, off + k * 4 + 3, none⟩ = some (.int .i64 r.f) := by rw [hc _ _ hbl]; exact c3
      have C : Hid (w1.cell? ⟨b, off + k * 4, none⟩ = some (.int .i64 r.t) ∧ w1.cell? ⟨b, off + k * 4 + 1, none⟩ = some (.int .i64 r.s) ∧ w1.cell? ⟨b, off + k * 4 + 2, none⟩ = some (.int .i64 r.e) ∧ w1.cell? ⟨b, off + k * 4 + 3, none⟩ = some (.int .i64 r.f)) := ⟨c0, c1, c2, c3⟩
      have r1 := (oneB_iff r).1 (HLR.out r (List.mem_of_getElem? HR.out))
      have hs0 : 0 ≤ r.s ∧ r.s ≤ 1099511627776 := by omega
      clear c0 c1 c2 c3 hc r1
      obtain ⟨wo, rfl⟩ : ∃ wo : World, wo = wr := ⟨_, rfl⟩
      have b1 : (k : Int) < (n : Int) := by omega
      have HNJ : Hid ((JoinP window chain cur r) ∨ ¬ (JoinP window chain cur r)) := Classical.em _
      go_upto_region 7 with fail
      go_cut [11] (fun v wx => v = .bool (decide (0 < L ∧ (L : Int) < chain ∧ r.f ≠ -1)) ∧ wo = wx)
      case first =>
        as_aux_lemma =>
          by_cases d1 : 0 < L
          · have d1' : (0 : Int) < (L : Int) := by omega
            by_cases d2 : (L : Int) < chain
            · by_cases d3 : r.f = -1
              · have d3' : (r.f != -1) = false := by simp [d3]
                have D3 := Lib.hid d3
                clear d3
                go_wp2_with fail
                go_meet
                exact ⟨by have := D3.out; simp [this], rfl⟩
              · have d3' : (r.f != -1) = true := by simp [d3]
                have D3 := Lib.hid d3
                clear d3
                go_wp2_with fail
                go_meet
                exact ⟨by have := D3.out; simp [d1, d2, this], rfl⟩
            · go_wp2_with fail
              go_meet
              exact ⟨by congr 1; symm; rw [decide_eq_false_iff_not]; omega, rfl⟩
          · have : L = 0 := by omega
            subst this
            go_wp2_with fail
            go_meet
            exact ⟨by simp, rfl⟩
      obtain ⟨rfl, rfl⟩ := hcut
      go_upto_if 37 with fail
      go_cut [11] (fun v wx => v = .bool (decide (JoinP window chain cur r)) ∧ Hid (Below wo.heap.size wo wx))
      case first =>
        as_aux_lemma =>
          by_cases d1 : 0 < L ∧ (L : Int) < chain ∧ r.f ≠ -1
          · have d1' : decide (0 < L ∧ (L : Int) < chain ∧ r.f ≠ -1) = true := decide_eq_true d1
            obtain ⟨m, rfl⟩ : ∃ m, L = m + 1 := ⟨L - 1, by omega⟩
            obtain ⟨ag', cg', ea, hsc, -⟩ := hC.out.slice
            rw [hLen.out] at ea hsc
            cases ea
            obtain ⟨bq, oq, fi, rfl, hbq, hfi, f0, f1, f2, f3⟩ := ride_at hsc (show 0 < m + 1 by omega)
            obtain ⟨bq', oq', la, e', -, hla, g0, g1, g2, g3⟩ := ride_at hsc (show m < m + 1 by omega)
            cases e'
            have D1 := Lib.hid d1
            have r2 : IntKind.i64.wrap (m : Int) = (m : Int) := by rw [IntKind.wrap_i64]; omega
            have b2 : (m : Int) < (m : Int) + 1 := by omega
            have hj : JoinP window chain cur r ↔ la.f ≠ -1 ∧ r.s - fi.s ≤ window := by
              have hl := hLen.out
              have e1 : cur.getLastD default = la := by
                rw [List.getLastD_eq_getLast?, List.getLast?_eq_getElem?, hl, Nat.add_sub_cancel, hla]; rfl
              have e2 : cur.headD default = fi := by rw [List.headD_eq_head?_getD, List.head?_eq_getElem?, hfi]; rfl
              unfold JoinP
              rw [e1, e2, hl]
              constructor
              · exact fun h => ⟨h.2.2.2.1, h.2.2.2.2⟩
              · exact fun h => ⟨fun hn => by rw [hn] at hl; simp at hl, D1.out.2.1, D1.out.2.2, h.1, h.2⟩
            have HJ := Lib.hid hj
            have hfs : 0 ≤ fi.s ∧ fi.s ≤ 1099511627776 := by
              have := (oneB_iff fi).1 (HCR.out fi (List.mem_of_getElem? hfi))
              omega
            have rs : IntKind.i64.wrap (r.s - fi.s) = r.s - fi.s := by rw [IntKind.wrap_i64]; omega
            have K0 := cell_regrown k0
            clear hfi hla hj d1 hsc
            by_cases d3 : la.f = -1
            · have d3' : (la.f != -1) = false := by simp [d3]
              have D3 := Lib.hid d3
              clear d3
              go_wp2_with fail
              go_quiet (fail)
              go_wp2_with fail
              go_meet
              refine ⟨congrArg _ (decide_eq_false (fun h => (HJ.out.1 h).1 D3.out)).symm, below_drewN (Below.refl _ _) _⟩
            · have d3' : (la.f != -1) = true := by simp [d3]
              have D3 := Lib.hid d3
              clear d3
              by_cases d4 : r.s - fi.s ≤ window
              · have D4 := Lib.hid d4
                go_wp2_with fail
                go_quiet (fail)
                go_wp2_with fail
                go_meet
                refine ⟨congrArg _ (decide_eq_true (HJ.out.2 ⟨D3.out, D4.out⟩)).symm, below_drewN (Below.refl _ _) _⟩
              · have D4 := Lib.hid d4
                go_wp2_with fail
                go_quiet (fail)
                go_wp2_with fail
                go_meet
                refine ⟨congrArg _ ((decide_eq_false (fun h => by have := D4.out; omega)).trans (decide_eq_false (fun h => by have := (HJ.out.1 h).2; have := D4.out; omega)).symm), below_drewN (Below.refl _ _) _⟩
          · have d1' : decide (0 < L ∧ (L : Int) < chain ∧ r.f ≠ -1) = false := decide_eq_false d1
            have D1 := Lib.hid d1
            clear d1
            go_wp2_with fail
            go_meet
            refine ⟨congrArg _ (d1'.trans (decide_eq_false (fun (h : JoinP window chain cur r) => D1.out ⟨?_, ?_, h.2.2.1⟩)).symm), Below.refl _ _⟩
            · have := List.length_pos_iff.2 h.1; have := hLen.out; omega
            · have h2 := h.2.1; rw [hLen.out] at h2; exact h2
      obtain ⟨rfl, hbj⟩ := hcut
      have hsz := hbj.out.size
      have HBW : Hid (Below w1.heap.size w1 wc) := hB.out.trans (hbj.out.mono hB.out.size)
      have hG2 := Lib.hid (hG.out.below hbj.out)
      have hC2 := Lib.hid (hC.out.below hbj.out)
      have hww : w1.heap.size ≤ wc.heap.size := HBW.out.size
      have hbgc : bg ≤ wc.heap.size := by omega
      obtain ⟨hc, -⟩ := bcell HBW.out
      obtain ⟨c0, c1, c2, c3⟩ := C.out
      have m0 : wc.cell? ⟨b, off + k * 4, none⟩ = some (.int .i64 r.t) := by rw [hc _ _ hbl]; exact c0
      have m1 : wc.cell? ⟨b, off + k * 4 + 1, none⟩ = some (.int .i64 r.s) := by rw [hc _ _ hbl]; exact c1
      have m2 : wc.cell? ⟨b, off + k * 4 + 2, none⟩ = some (.int .i64 r.e) := by rw [hc _ _ hbl]; exact c2
      have m3 : wc.cell? ⟨b, off + k * 4 + 3, none⟩ = some (.int .i64 r.f) := by rw [hc _ _ hbl]; exact c3
      have hblc : b < wc.heap.size := by omega
      clear hc c0 c1 c2 c3 k0 k1 k2 k3 hG hC hB hbj
      go_upto_region 10 with fail
      go_cut [66] (fun v wx => v = .bool (decide (¬ JoinP window chain cur r ∧ 0 < L)) ∧ wc = wx)
      case first =>
        as_aux_lemma =>
          by_cases d1 : JoinP window chain cur r
          · have d1' : decide (JoinP window chain cur r) = true := decide_eq_true d1
            have D1 := Lib.hid d1
            clear d1
            go_wp2_with fail
            go_meet
            exact ⟨by have := D1.out; simp [this], rfl⟩
          · have d1' : decide (JoinP window chain cur r) = false := decide_eq_false d1
            have D1 := Lib.hid d1
            clear d1
            by_cases d2 : 0 < L
            · have d2' : (0 : Int) < (L : Int) := by omega
              go_wp2_with fail
              go_meet
              exact ⟨by have := D1.out; simp [this, d2], rfl⟩
            · have : L = 0 := by omega
              subst this
              go_wp2_with fail
              go_meet
              exact ⟨by simp, rfl⟩
      obtain ⟨rfl, rfl⟩ := hcut
      obtain ⟨bb, hbb⟩ : ∃ bb, decide (¬ JoinP window chain cur r ∧ 0 < L) = bb := ⟨_, rfl⟩
      rw [hbb]
      cases bb with
      | true =>
        have hj := of_decide_eq_true hbb
        clear hbb
        have HJ := Lib.hid hj
        have hcn : cur ≠ [] := fun h => by have := hLen.out; rw [h] at this; simp at this; omega
        have HCN := Lib.hid hcn
        clear hj hcn
        have HM1 : Hid (hs.length + 1 ≤ maxLen) := by show _ ≤ _; rw [hG2.out.len]; unfold maxLen; omega
        have HM2 : Hid ((hs.length + 1) * 24 ≤ 140737488355328) := by show _ ≤ _; rw [hG2.out.len]; omega
        have HM3 : Hid (([] : List Ride).length + 1 ≤ maxLen) := by show _ ≤ _; unfold maxLen; simp
        have HM4 : Hid ((([] : List Ride).length + 1) * 32 ≤ 140737488355328) := by show _ ≤ _; simp
        have HBK : Hid (∀ x ∈ hs, x.blk < Hdr.blk ⟨ag, L, cg⟩) := by
          intro x hx
          have h1 := hlt.out x hx
          have h2 := (own_blk (h := ⟨ag, L, cg⟩) hC2.out HCN.out).2.2.1
          omega
        have M : Hid (wc.cell? ⟨b, off + k * 4, none⟩ = some (.int .i64 r.t) ∧ wc.cell? ⟨b, off + k * 4 + 1, none⟩ = some (.int .i64 r.s) ∧ wc.cell? ⟨b, off + k * 4 + 2, none⟩ = some (.int .i64 r.e) ∧ wc.cell? ⟨b, off + k * 4 + 3, none⟩ = some (.int .i64 r.f)) := ⟨m0, m1, m2, m3⟩
        clear m0 m1 m2 m3
        go_wp2_with (first | (at_builtin; refine wpList_app eltRows rfl (.tmp 67) (.tmp 69) rfl (base := w1.heap.size) _ hs rfl (hG2.out.own.alloc _) _ 1 1 [⟨ag, L, cg⟩] rfl (sl_new (c := Hdr.cod) wc #[.slice ag L cg] 27 [⟨ag, L, cg⟩] 1 rfl (by unfold maxLen; omega) rfl) HM1.out HM2.out (by simp; omega) ?_; intro v2 w2 hown2 hg2; have HB2 : Hid (Below w1.heap.size w1 w2) := (HBW.out.alloc hww _).grown hg2 (by simp; omega) (fun k hk => own_lt hG2.out.own k hk); have hs2 := HB2.out.size; have HP : Hid (OwnG 29 27 Ride.cod w1.heap.size w2 v2 (hs ++ [⟨ag, L, cg⟩]) (gs ++ [cur])) := OwnG.push (by decide) (hG2.out.below ((Below.refl _ _).alloc (Nat.le_refl _) _)) (Own.lower (hC2.out.alloc _) hb1) HCN.out HBK.out hown2 hg2; obtain ⟨m0, m1, m2, m3⟩ : w2.cell? ⟨b, off + k * 4, none⟩ = some (.int .i64 r.t) ∧ w2.cell? ⟨b, off + k * 4 + 1, none⟩ = some (.int .i64 r.s) ∧ w2.cell? ⟨b, off + k * 4 + 2, none⟩ = some (.int .i64 r.e) ∧ w2.cell? ⟨b, off + k * 4 + 3, none⟩ = some (.int .i64 r.f) := (by obtain ⟨c, -⟩ := bcell HB2.out; rw [c _ _ hbl, c _ _ hbl, c _ _ hbl, c _ _ hbl]; exact C.out); clear hown2 hg2) | (at_builtin; refine wpList_app eltRide rfl (.tmp 71) (.tmp 76) rfl (base := w2.heap.size) _ [] rfl Own.nil _ 1 1 [r] rfl (sl_new (c := Ride.cod) w2 _ _ [r] 1 rfl (by unfold maxLen; omega) rfl) HM3.out HM4.out (by simp) ?_; intro v3 w3 hown3 hg3; have HB3 : Hid (Below w2.heap.size w2 w3) := ((Below.refl _ _).alloc (Nat.le_refl _) _).grown hg3 (by simp) (fun k hk => by cases hk); have HO3 := Lib.hid hown3; clear hown3 hg3))
        obtain ⟨a2, cap2, e2, -⟩ := HP.out.sls
        subst e2
        obtain ⟨a3, cap3, e3, -⟩ := HO3.out.slice
        change v3 = .slice a3 1 cap3 at e3
        subst e3
        have hlen2 : (gs ++ [cur]).length ≤ k + 1 := by simp; omega
        go_roundw
        case rel => exact ⟨k + 1, hs ++ [(⟨ag, L, cg⟩ : Hdr)], gs ++ [cur], [r], w2.heap.size, a2, a3, cap2, cap3, 1, by go_num, by omega, rfl, rfl, HP.out.below HB3.out, HO3.out, HP.out.lt, hs2, HB3.out.size, fold_take HR.out hf.out (by unfold stepG finG; rw [if_neg HJ.out.1, if_neg HCN.out]), HB2.out.trans (HB3.out.mono hs2), hlen2, by omega, rfl, fun q hq => by simp at hq; subst hq; exact HLR.out _ (List.mem_of_getElem? HR.out)⟩
        case measure => simp [intOf]; omega
      | false =>
        have hj := of_decide_eq_false hbb
        clear hbb
        have HST : Hid (stepG window chain (gs, cur) r = (gs, cur ++ [r])) := by
          show _ = _
          unfold stepG
          by_cases h1 : JoinP window chain cur r
          · rw [if_pos h1]
          · have h2 : cur = [] := by
              have : L = 0 := by
                rcases Nat.eq_zero_or_pos L with h | h
                · exact h
                · exact absurd ⟨h1, h⟩ hj
              exact List.eq_nil_of_length_eq_zero (by rw [hLen.out, this])
            rw [if_neg h1]; unfold finG; simp [h2]
        clear hj
        have HM1 : Hid (cur.length + 1 ≤ maxLen) := by show _ ≤ _; rw [hLen.out]; unfold maxLen; omega
        have HM2 : Hid ((cur.length + 1) * 32 ≤ 140737488355328) := by show _ ≤ _; rw [hLen.out]; omega
        go_wp2_with (at_builtin; refine wpList_app eltRide rfl (.tmp 71) (.tmp 76) rfl (base := bg) _ cur rfl (hC2.out.alloc _) _ 1 1 [r] rfl (sl_new (c := Ride.cod) wc _ _ [r] 1 rfl (by unfold maxLen; omega) rfl) HM1.out HM2.out (by simp; omega) ?_; intro v2 w2 hown2 hg2; have HB2 : Hid (Below w1.heap.size w1 w2) := (HBW.out.alloc hww _).grown hg2 (by simp; omega) (fun k hk => by have := own_lt hC2.out k hk; omega); have HB3 : Hid (Below bg wc w2) := ((Below.refl _ _).alloc hbgc _).grown hg2 (by simp; omega) (fun k hk => own_lt hC2.out k hk); have HO2 := Lib.hid hown2; have HG2 := Lib.hid hg2; clear hown2 hg2)
        obtain ⟨a3, cap3, e3, -⟩ := HO2.out.slice
        have hl3 : (cur ++ [r]).length = L + 1 := by rw [List.length_append, hLen.out]; rfl
        rw [hl3] at e3
        subst e3
        go_roundw
        case rel => exact ⟨k + 1, hs, gs, cur ++ [r], bg, ao, a3, co, cap3, L + 1, by go_num, by omega, rfl, rfl, (hG2.out.below ((Below.refl _ _).alloc (Nat.le_refl _) _)).kept HG2.out (own_apart (by decide) hG2.out.own hC2.out) (fun x hx hh => by have h1 := hlt.out x hx; have h2 := own_lt hC2.out _ hh; omega), HO2.out, hlt.out, hb1, Nat.le_trans hbgc HB3.out.size, fold_take HR.out hf.out HST.out, HB2.out, by omega, by omega, hl3, fun q hq => by rcases List.mem_append.1 hq with h | h; exact HCR.out q h; simp at h; subst h; exact HLR.out _ (List.mem_of_getElem? HR.out)⟩
        case measure => simp [intOf]; omega
    · have hk' : k = n := by omega
      have HK := Lib.hid hk'; clear hk'
      by_cases hcur : cur = []
      · have hcl : L = 0 := by rw [← hLen.out, hcur]; rfl
        have HCU := Lib.hid hcur
        clear hcur
        subst hcl
        go_wp2_with fail
        go_ret
        refine ⟨.slice ao gs.length co, rfl, ?_, HB.out.trans (hB.out.mono HB.out.size)⟩
        have e : groupsOf window chain l = gs := by
          unfold groupsOf
          have hff := hf.out
          rw [HK.out, List.take_of_length_le (by rw [HLL.out]; exact Nat.le_refl _)] at hff
          rw [hff]; unfold finG; rw [if_pos HCU.out]
        rw [e]; exact ⟨hs, hG.out.lower HB.out.size⟩
      · have hcz2 : (0 : Int) < (L : Int) := by have := List.length_pos_iff.2 hcur; have := hLen.out; omega
        have HCU := Lib.hid hcur
        clear hcur
        have HM1 : Hid (hs.length + 1 ≤ maxLen) := by show _ ≤ _; rw [hG.out.len]; unfold maxLen; omega
        have HM2 : Hid ((hs.length + 1) * 24 ≤ 140737488355328) := by show _ ≤ _; rw [hG.out.len]; omega
        have hww : w1.heap.size ≤ wr.heap.size := by omega
        go_wp2_with (at_builtin; refine wpList_app eltRows rfl (.tmp 81) (.tmp 83) rfl (base := w1.heap.size) _ hs rfl (hG.out.own.alloc _) _ 1 1 [⟨ag, L, cg⟩] rfl (sl_new (c := Hdr.cod) wr #[.slice ag L cg] 27 [⟨ag, L, cg⟩] 1 rfl (by unfold maxLen; omega) rfl) HM1.out HM2.out (by simp; omega) ?_; intro v2 w2 hown2 hg2)
        have HO2 := Lib.hid hown2
        have HG2 := Lib.hid hg2
        clear hown2 hg2
        go_wp2_with fail
        go_ret
        refine ⟨v2, rfl, ?_, ?_⟩
        · have e : groupsOf window chain l = gs ++ [cur] := by
            unfold groupsOf
            have hff := hf.out
            rw [HK.out, List.take_of_length_le (by rw [HLL.out]; exact Nat.le_refl _)] at hff
            rw [hff]; unfold finG; rw [if_neg HCU.out]
          rw [e]
          refine ⟨_, OwnG.lower (base := w1.heap.size) (OwnG.push (by decide) (hG.out.below ((Below.refl _ _).alloc (Nat.le_refl _) _)) (Own.lower (hC.out.alloc _) hb1) HCU.out ?_ HO2.out HG2.out) HB.out.size⟩
          intro x hx
          have h1 := hlt.out x hx
          have h2 := (own_blk (h := ⟨ag, L, cg⟩) hC.out HCU.out).2.2.1
          omega
        · exact HB.out.trans (((hB.out.alloc hww _).grown HG2.out (by simp; omega) (fun j hj => (World.ownsRow.lt hG.out.own j hj).1)).mono HB.out.size)
end Go.Proofs.Ytgdhlhjflbinmaa

namespace Go.Proofs.Ytgdhlhjflbinmaa
open Go.RowKit Go.V Go.Sort Go.Shelf Go.Proofs Go.Maps

/-- What Groups answers. -/
def GroupsP (l : List Ride) (window chain : Int) : Prop := RightP l ∧ (0 ≤ window ∧ window ≤ 1099511627776) ∧ 1 ≤ chain ∧ chain ≤ 16
instance (l : List Ride) (window chain : Int) : Decidable (GroupsP l window chain) := inferInstanceAs (Decidable (_ ∧ _ ∧ _))
def groupsE (l : List Ride) (window chain : Int) : Int := if l.length ≤ 2048 then if GroupsP l window chain then 0 else 2 else 3
def groupsR (l : List Ride) (window chain : Int) : List (List Ride) := if GroupsP l window chain then groupsOf window chain (isort ltR l) else []

theorem finG_ne {gs : List (List Ride)} {cur : List Ride} (h : cur ≠ []) : finG (gs, cur) = gs ++ [cur] := by unfold finG; rw [if_neg h]

set_option maxHeartbeats 4000000 in
set_option maxRecDepth 100000 in
theorem groups_any (a : Option Addr) (n cap : Nat) (xs : List Ride) (window chain : Int) (w : World) (hn : n ≤ 100000) (hok : ∀ r ∈ xs, Ride.ok r) (h : Sl Ride.cod w a n cap xs) :
    Calls Try.prog 35 #[.slice a n cap, .int .i64 window, .int .i64 chain] w fun e w' => ∃ v, e = .returned (.tuple #[v, .int .i64 (groupsE xs window chain)]) ∧ IsG w.heap.size w' v (groupsR xs window chain) ∧ Below w.heap.size w w' := by
  have mixed : Try.prog.follows .mixedOrders = true := by kernel_rfl
  have hN := Lib.hid h.hlen
  by_cases hbig : 2048 < n
  · go_enter Try.func35, Try.ntmps35
    go_wp2_with fail
    go_ret2
    have e0 : ¬ xs.length ≤ 2048 := by have := hN.out; omega
    have e1 : ¬ GroupsP xs window chain := fun hp => e0 hp.1.1
    exact ⟨.slice none 0 0, by unfold groupsE; rw [if_neg e0]; rfl, by unfold groupsR; rw [if_neg e1]; exact ⟨[], OwnG.nil⟩, Below.refl _ _⟩
  have hsm : xs.length ≤ 2048 := by have := hN.out; omega
  have HSM := Lib.hid hsm
  clear hsm
  by_cases hP : GroupsP xs window chain
  case neg =>
    have HP := Lib.hid hP
    clear hP
    have hres : groupsE xs window chain = 2 ∧ groupsR xs window chain = [] := ⟨by unfold groupsE; rw [if_pos HSM.out, if_neg HP.out], by unfold groupsR; rw [if_neg HP.out]⟩
    rw [hres.1, hres.2]
    clear hres
    obtain ⟨bb, hbb⟩ : ∃ bb, decide (RightP xs) = bb := ⟨_, rfl⟩
    go_enter Try.func35, Try.ntmps35
    cases bb with
    | false =>
      go_wp2_with (go_at_call 19; refine (right_any a n cap xs _ (by omega) hok h).mono ?_; rintro e w1 ⟨rfl, hb⟩; rw [hbb])
      go_ret2
      exact ⟨_, rfl, ⟨[], OwnG.nil⟩, hb⟩
    | true =>
      have HR := Lib.hid (of_decide_eq_true hbb)
      by_cases hw : 0 ≤ window ∧ window ≤ 1099511627776
      · have hc : ¬ (1 ≤ chain ∧ chain ≤ 16) := fun hc => HP.out ⟨HR.out, hw, hc⟩
        have hw1 : withinB window 0 1099511627776 = true := decide_eq_true hw
        have hc1 : withinB chain 1 16 = false := decide_eq_false hc
        clear hw hc
        go_wp2_with (first | (go_at_call 19; refine (right_any a n cap xs _ (by omega) hok h).mono ?_; rintro e w1 ⟨rfl, hb⟩; rw [hbb]) | (go_at_call 47; refine (within_any _ _ _ _).mono ?_; rintro e w' ⟨rfl, rfl⟩; first | rw [hw1] | rw [hc1]))
        go_ret2
        exact ⟨_, rfl, ⟨[], OwnG.nil⟩, hb⟩
      · have hw1 : withinB window 0 1099511627776 = false := decide_eq_false hw
        clear hw
        go_wp2_with (first | (go_at_call 19; refine (right_any a n cap xs _ (by omega) hok h).mono ?_; rintro e w1 ⟨rfl, hb⟩; rw [hbb]) | (go_at_call 47; refine (within_any _ _ _ _).mono ?_; rintro e w' ⟨rfl, rfl⟩; rw [hw1]))
        go_ret2
        exact ⟨_, rfl, ⟨[], OwnG.nil⟩, hb⟩
  case pos =>
  have hres : groupsE xs window chain = 0 ∧ groupsR xs window chain = groupsOf window chain (isort ltR xs) := ⟨by unfold groupsE; rw [if_pos HSM.out, if_pos hP], by unfold groupsR; rw [if_pos hP]⟩
  rw [hres.1, hres.2]
  clear hres
  have hbb : decide (RightP xs) = true := decide_eq_true hP.1
  have hw1 : withinB window 0 1099511627776 = true := decide_eq_true hP.2.1
  have hc1 : withinB chain 1 16 = true := decide_eq_true hP.2.2
  have hr := hP.1.2.1
  obtain ⟨l, hl⟩ : ∃ l, isort ltR xs = l := ⟨_, rfl⟩
  have hlr : ∀ r ∈ l, oneB r = true := fun r hm => hr r (by rw [← hl] at hm; exact (isort_perm xs).mem_iff.1 hm)
  have hll : l.length = n := by rw [← hl, (isort_perm xs).length_eq]; exact hN.out.symm
  have HL := Lib.hid hl
  have HLR := Lib.hid hlr
  have HLL := Lib.hid hll
  rw [hl]
  clear hr hl hlr hll hP
  go_enter Try.func35, Try.ntmps35
  go_wp2_with (first | (go_at_call 19; refine (right_any a n cap xs _ (by omega) hok h).mono ?_; rintro e w0 ⟨rfl, hb0⟩; have HB0 := Lib.hid hb0; have hs0 := hb0.size; clear hb0; rw [hbb]) | (go_at_call 47; refine (within_any _ _ _ _).mono ?_; rintro e w' ⟨rfl, rfl⟩; first | rw [hw1] | rw [hc1]) | (go_at_call 51; refine (sort_any a n cap xs _ (by omega) (h.below HB0.out)).mono ?_; rintro e w1 ⟨v, rfl, ho, hb⟩; obtain ⟨av, cv, rfl, hsv, -⟩ := ownR_sl ho; rw [HL.out, HLL.out] at hsv; have HSV := Lib.hid hsv; have HB := Lib.hid (HB0.out.trans (hb.mono hs0)); have hlv : (isort ltR xs).length = n := (by rw [HL.out, HLL.out]); rw [hlv]; clear ho hsv hb hlv))
  have hw11 : w.heap.size ≤ w1.heap.size := HB.out.size
  clear hs0 HB0
  go_wp2_with fail
  go_loopw [8, 34] (fun out i wr => ∃ (k : Nat) (hs : List Hdr) (gs : List (List Ride)) (cur : List Ride) (ao : Option Addr) (co M : Nat), i = .int .i64 k ∧ k ≤ n ∧ out = .slice ao M co ∧ Hid (OwnG 29 27 Ride.cod w1.heap.size wr (.slice ao M co) hs (finG (gs, cur))) ∧ Hid (hs.length = M) ∧ Hid ((l.take k).foldl (stepG window chain) ([], []) = (gs, cur)) ∧ Hid (cur = [] → gs = []) ∧ Hid (Below w1.heap.size w1 wr) ∧ M ≤ k ∧ Hid (cur.length ≤ k) ∧ Hid (∀ r ∈ cur, oneB r = true)) (fun _ i _ => n - (intOf i).toNat)
  case atStart => exact ⟨0, [], [], [], none, 0, 0, rfl, by omega, rfl, OwnG.nil, rfl, rfl, fun _ => rfl, Below.refl _ _, by omega, Nat.zero_le _, fun r hr => by simp at hr⟩
  case round =>
    obtain ⟨k, hs, gs, cur, ao, co, M, rfl, hk, rfl, hG, hM, hf, hcg, hB, hMk, hck, HCR⟩ := hrel
    have hsz : w1.heap.size ≤ wr.heap.size := hB.out.size
    by_cases hkn : k < n
    · obtain ⟨b, off, r, rfl, hbl, hr, c0, c1, c2, c3⟩ := ride_at HSV.out hkn
      have HR := Lib.hid hr
      clear hr
      obtain ⟨hc, -⟩ := bcell hB.out
      have k0 : wr.cell? ⟨b, off + k * 4, none⟩ = some (.int .i64 r.t) := by rw [hc _ _ hbl]; exact c0
      have k1 : wr.cell? ⟨b, off + k * 4 + 1, none⟩ = some (.int .i64 r.s) := by rw [hc _ _ hbl]; exact c1
      have k2 : wr.cell? ⟨b, off + k * 4 + 2, none⟩ = some (.int .i64 r.e) := by rw [hc _ _ hbl]; exact c2
      have k3 : wr.cell? ⟨b, off + k * 4 + 3, none⟩ = some (.int .i64 r.f) := by rw [hc _ _ hbl]; exact c3
      have hone := HLR.out r (List.mem_of_getElem? HR.out)
      have hrs := (oneB_iff r).1 hone
      have HONE := Lib.hid hone
      clear c0 c1 c2 c3 hc hone
      have b1 : (k : Int) < (n : Int) := by omega
      have HM3 : Hid (([] : List Ride).length + 1 ≤ maxLen) := by show _ ≤ _; unfold maxLen; simp
      by_cases hcur : cur = []
      · have hgs := hcg.out hcur
        subst hcur
        subst hgs
        have hM0 : M = 0 := by have := hM.out; rw [hG.out.len] at this; exact this.symm
        subst hM0
        have hh0 : hs = [] := List.eq_nil_of_length_eq_zero hM.out
        subst hh0
        have HM1 : Hid (([] : List Hdr).length + 1 ≤ maxLen) := by show _ ≤ _; unfold maxLen; simp
        have HM2 : Hid ((([] : List Hdr).length + 1) * 24 ≤ 140737488355328) := by show _ ≤ _; simp
        clear hrs
        have BOX : Hid (Below w1.heap.size w1 ((wr.alloc (.cells #[.int .i64 r.t, .int .i64 r.s, .int .i64 r.e, .int .i64 r.f] 29)).alloc (.cells #[.int .i64 r.t, .int .i64 r.s, .int .i64 r.e, .int .i64 r.f] 29))) := (hB.out.alloc hsz _).alloc (by simp; omega) _
        have HNEW : Hid (Own 29 Ride.cod (wr.heap.size + 1) ((wr.alloc (.cells #[.int .i64 r.t, .int .i64 r.s, .int .i64 r.e, .int .i64 r.f] 29)).alloc (.cells #[.int .i64 r.t, .int .i64 r.s, .int .i64 r.e, .int .i64 r.f] 29)) (.slice (some ⟨wr.heap.size + 1, 0, none⟩) 1 1) [r]) := by
          have := own_new (c := Ride.cod) (wr.alloc (.cells #[.int .i64 r.t, .int .i64 r.s, .int .i64 r.e, .int .i64 r.f] 29)) #[.int .i64 r.t, .int .i64 r.s, .int .i64 r.e, .int .i64 r.f] 29 (wr.heap.size + 1) [r] 1 rfl (by simp) (by unfold maxLen; omega) rfl
          exact Lib.hid (by simpa using this)
        have HSL : Hid (Sl Hdr.cod (((wr.alloc (.cells #[.int .i64 r.t, .int .i64 r.s, .int .i64 r.e, .int .i64 r.f] 29)).alloc (.cells #[.int .i64 r.t, .int .i64 r.s, .int .i64 r.e, .int .i64 r.f] 29)).alloc (.cells #[.slice (some ⟨wr.heap.size + 1, 0, none⟩) 1 1] 27)) (some ⟨wr.heap.size + 1 + 1, 0, none⟩) 1 1 [⟨some ⟨wr.heap.size + 1, 0, none⟩, 1, 1⟩]) := by
          have := sl_new (c := Hdr.cod) ((wr.alloc (.cells #[.int .i64 r.t, .int .i64 r.s, .int .i64 r.e, .int .i64 r.f] 29)).alloc (.cells #[.int .i64 r.t, .int .i64 r.s, .int .i64 r.e, .int .i64 r.f] 29)) #[.slice (some ⟨wr.heap.size + 1, 0, none⟩) 1 1] 27 [⟨some ⟨wr.heap.size + 1, 0, none⟩, 1, 1⟩] 1 rfl (by unfold maxLen; omega) rfl
          exact Lib.hid (by simpa using this)
        go_wp2_with (at_builtin; refine wpList_app eltRows rfl (.tmp 84) (.tmp 87) rfl (base := w1.heap.size) _ [] rfl (((hG.out.own.alloc _).alloc _).alloc _) _ 1 1 [⟨some ⟨wr.heap.size + 1, 0, none⟩, 1, 1⟩] rfl HSL.out HM1.out HM2.out (by simp; omega) ?_; intro v2 w2 hown2 hg2; have HO2 := Lib.hid hown2; have HG2 := Lib.hid hg2; clear hown2 hg2)
        have HP : Hid (OwnG 29 27 Ride.cod w1.heap.size w2 v2 ([] ++ [(⟨some ⟨wr.heap.size + 1, 0, none⟩, 1, 1⟩ : Hdr)]) ([] ++ [[r]])) :=
          OwnG.push (by decide) ((hG.out.below (((Below.refl _ _).alloc (Nat.le_refl _) _).alloc (by simp) _)).below ((Below.refl _ _).alloc (Nat.le_refl _) _)) ((HNEW.out.lower (by omega)).alloc _) (by simp) (fun x hx => by simp at hx) HO2.out HG2.out
        have HB2 : Hid (Below w1.heap.size w1 w2) := (BOX.out.alloc (by simp; omega) _).grown HG2.out (by simp; omega) (fun j hj => own_lt hG.out.own j hj)
        obtain ⟨a2, cap2, e2, -⟩ := HP.out.sls
        change v2 = .slice a2 1 cap2 at e2
        subst e2
        go_roundw
        case rel => exact ⟨k + 1, [(⟨some ⟨wr.heap.size + 1, 0, none⟩, 1, 1⟩ : Hdr)], [], [r], a2, cap2, 1, by go_num, by omega, rfl, HP.out, rfl, fold_take HR.out hf.out (by unfold stepG; rw [if_neg (fun h => h.1 rfl)]; rfl), (fun h => by cases h), HB2.out, by omega, by show _ ≤ _; simp, fun q hq => by simp at hq; subst hq; exact HONE.out⟩
        case measure => simp [intOf]; omega
      · have HCN := Lib.hid hcur
        have hfin := finG_ne (gs := gs) hcur
        clear hcur
        rw [hfin] at hG
        obtain ⟨G, hGl⟩ : ∃ G, gs.length = G := ⟨_, rfl⟩
        have hM1 : M = G + 1 := by have := hM.out; rw [hG.out.len, List.length_append] at this; simp at this; omega
        subst hM1
        have HFIN := Lib.hid hfin
        have HGL := Lib.hid hGl
        clear hfin hGl
        have hne : hs ≠ [] := fun e => by have := hM.out; rw [e] at this; simp at this
        obtain ⟨go, capo, curo, ev, hgo, -⟩ := own_ne hG.out.own hne
        simp only [Value.slice.injEq] at ev
        obtain ⟨rfl, -, rfl⟩ := ev
        have hgi : (gs ++ [cur])[G]? = some cur := by rw [List.getElem?_append_right (by rw [HGL.out]; exact Nat.le_refl _), HGL.out]; simp
        have hhl : G < hs.length := by rw [hM.out]; omega
        obtain ⟨hh, hhi⟩ : ∃ hh, hs[G]? = some hh := ⟨hs[G], List.getElem?_eq_getElem hhl⟩
        obtain ⟨hin, -⟩ := hG.out.each G hh cur hhi hgi
        obtain ⟨kc, kf⟩ := hG.out.cell hM.out.symm hhi
        obtain ⟨L, hL⟩ : ∃ L, cur.length = L := ⟨_, rfl⟩
        have hL0 : 0 < L := by rw [← hL]; exact List.length_pos_iff.2 HCN.out
        obtain ⟨m, rfl⟩ : ∃ m, L = m + 1 := ⟨L - 1, by omega⟩
        obtain ⟨ag1, cg1, ea, hsc, -⟩ := hin.slice
        obtain ⟨ag, hn', cg⟩ := hh
        simp only [Hdr.val, Value.slice.injEq] at ea
        obtain ⟨rfl, rfl, rfl⟩ := ea
        rw [hL] at hsc hin kc hhi
        obtain ⟨bq, oq, fi, rfl, hbq, hfi, f0, f1, f2, f3⟩ := ride_at hsc (show 0 < m + 1 by omega)
        obtain ⟨bq', oq', la, e', -, hla, g0, g1, g2, g3⟩ := ride_at hsc (show m < m + 1 by omega)
        cases e'
        replace kc : wr.cell? ⟨go, G, none⟩ = some (.slice (some ⟨bq, oq, none⟩) (m + 1) cg) := kc
        have hgw := World.block_lt_of_cell? wr _ kc
        have r2 : IntKind.i64.wrap (m : Int) = (m : Int) := by rw [IntKind.wrap_i64]; have := hck.out; omega
        have r3 : IntKind.i64.wrap (G : Int) = (G : Int) := by rw [IntKind.wrap_i64]; omega
        have b2 : (m : Int) < (m : Int) + 1 := by omega
        have b3 : (G : Int) < (G : Int) + 1 := by omega
        have b4 : (0 : Int) ≤ (G : Int) := by omega
        have hfs : 0 ≤ fi.s ∧ fi.s ≤ 1099511627776 := by
          have := (oneB_iff fi).1 (HCR.out fi (List.mem_of_getElem? hfi))
          omega
        have hlf : -1 ≤ la.f := by
          have := (oneB_iff la).1 (HCR.out la (List.mem_of_getElem? hla))
          omega
        have rs : IntKind.i64.wrap (r.s - fi.s) = r.s - fi.s := by rw [IntKind.wrap_i64]; omega
        have hj : JoinP window chain cur r ↔ ((m : Int) + 1 < chain ∧ 0 ≤ r.f ∧ 0 ≤ la.f ∧ r.s - fi.s ≤ window) := by
          have e1 : cur.getLastD default = la := by
            rw [List.getLastD_eq_getLast?, List.getLast?_eq_getElem?, hL, Nat.add_sub_cancel, hla]; rfl
          have e2 : cur.headD default = fi := by rw [List.headD_eq_head?_getD, List.head?_eq_getElem?, hfi]; rfl
          unfold JoinP
          rw [e1, e2, hL]
          constructor
          · exact fun h => ⟨by have := h.2.1; omega, by have := h.2.2.1; omega, by have := h.2.2.2.1; omega, h.2.2.2.2⟩
          · exact fun h => ⟨HCN.out, by omega, by omega, by omega, h.2.2.2⟩
        have HJ := Lib.hid hj
        have HHI := Lib.hid hhi
        have HGI := Lib.hid hgi
        have HIN := Lib.hid hin
        have HLEN := Lib.hid hL
        clear hj hhi hgi hin hL hne hhl hfi hla hsc
        have mL : m + 1 ≤ n := by have := hck.out; rw [HLEN.out] at this; omega
        go_upto_region 12 with fail
        go_cut [76] (fun v wx => v = .bool (decide (JoinP window chain cur r)) ∧ Hid (Below (wr.alloc (.cells #[.int .i64 r.t, .int .i64 r.s, .int .i64 r.e, .int .i64 r.f] 29)).heap.size (wr.alloc (.cells #[.int .i64 r.t, .int .i64 r.s, .int .i64 r.e, .int .i64 r.f] 29)) wx))
        case first =>
          as_aux_lemma =>
            by_cases d1 : 0 ≤ r.f
            · by_cases d2 : 0 ≤ la.f
              · by_cases d3 : r.s - fi.s ≤ window
                · by_cases d4 : (m : Int) + 1 < chain
                  · have D := Lib.hid (HJ.out.2 ⟨d4, d1, d2, d3⟩)
                    go_wp2_with fail
                    go_quiet (fail)
                    go_wp2_with fail
                    go_meet
                    exact ⟨congrArg _ (decide_eq_true D.out).symm, below_drewN (Below.refl _ _) _⟩
                  · have D : Hid (¬ JoinP window chain cur r) := fun h => by have := (HJ.out.1 h).1; omega
                    go_wp2_with fail
                    go_quiet (fail)
                    go_wp2_with fail
                    go_meet
                    exact ⟨congrArg _ ((decide_eq_false (show ¬ (m : Int) + 1 < chain by omega)).trans (decide_eq_false D.out).symm), below_drewN (Below.refl _ _) _⟩
                · have d3' : decide (r.s - fi.s ≤ window) = false := decide_eq_false d3
                  have D : Hid (¬ JoinP window chain cur r) := fun h => by have := (HJ.out.1 h).2; omega
                  go_wp2_with fail
                  go_quiet (fail)
                  go_wp2_with fail
                  go_meet
                  exact ⟨congrArg _ (decide_eq_false D.out).symm, below_drewN (Below.refl _ _) _⟩
              · have d2' : decide (0 ≤ la.f) = false := decide_eq_false d2
                have d2'' : decide (la.f ≥ 0) = false := decide_eq_false d2
                have D : Hid (¬ JoinP window chain cur r) := fun h => by have := (HJ.out.1 h).2; omega
                go_wp2_with fail
                go_quiet (fail)
                go_wp2_with fail
                go_meet
                exact ⟨congrArg _ (decide_eq_false D.out).symm, below_drewN (Below.refl _ _) _⟩
            · have d1' : decide (0 ≤ r.f) = false := decide_eq_false d1
              have d1'' : decide (r.f ≥ 0) = false := decide_eq_false d1
              have D : Hid (¬ JoinP window chain cur r) := fun h => by have := (HJ.out.1 h).2; omega
              go_wp2_with fail
              go_quiet (fail)
              go_wp2_with fail
              go_meet
              exact ⟨congrArg _ (decide_eq_false D.out).symm, below_drewN (Below.refl _ _) _⟩
        obtain ⟨rfl, hbx⟩ := hcut
        have HBX : Hid (Below wr.heap.size wr wc) := ((Below.refl _ _).alloc (Nat.le_refl _) _).trans (hbx.out.mono (by simp))
        have HBW : Hid (Below w1.heap.size w1 wc) := hB.out.trans (HBX.out.mono hsz)
        have hG2 := Lib.hid (hG.out.below HBX.out)
        have HIN2 := Lib.hid (HIN.out.below HBX.out)
        have hsx := HBX.out.size
        have hsw : w1.heap.size ≤ wc.heap.size := HBW.out.size
        obtain ⟨hc, -⟩ := bcell hbx.out
        have q0 : wc.cell? ⟨wr.heap.size, 0, none⟩ = some (.int .i64 r.t) := by rw [hc _ _ (by simp)]; simp [go_sem]
        have q1 : wc.cell? ⟨wr.heap.size, 1, none⟩ = some (.int .i64 r.s) := by rw [hc _ _ (by simp)]; simp [go_sem]
        have q2 : wc.cell? ⟨wr.heap.size, 2, none⟩ = some (.int .i64 r.e) := by rw [hc _ _ (by simp)]; simp [go_sem]
        have q3 : wc.cell? ⟨wr.heap.size, 3, none⟩ = some (.int .i64 r.f) := by rw [hc _ _ (by simp)]; simp [go_sem]
        clear hc hbx k0 k1 k2 k3 f0 f1 f2 f3 g0 g1 g2 g3 kc kf hG HIN hB HBX
        obtain ⟨bb, hbb⟩ : ∃ bb, decide (JoinP window chain cur r) = bb := ⟨_, rfl⟩
        rw [hbb]
        cases bb with
        | true =>
          have HJP := Lib.hid (of_decide_eq_true hbb)
          clear hbb
          have HM1 : Hid (cur.length + 1 ≤ maxLen) := by show _ ≤ _; rw [HLEN.out]; unfold maxLen; omega
          have HM2 : Hid ((cur.length + 1) * 32 ≤ 140737488355328) := by show _ ≤ _; rw [HLEN.out]; omega
          have hl3 : (cur ++ [r]).length = m + 1 + 1 := by rw [List.length_append, HLEN.out]; rfl
          have HL3 := Lib.hid hl3
          clear hl3
          have hbk : bq < wc.heap.size := (own_blk (h := ⟨some ⟨bq, oq, none⟩, m + 1, cg⟩) HIN2.out HCN.out).2.1
          go_wp2_with (at_builtin; refine wpList_app eltRide rfl (.tmp 79) (.tmp 81) rfl (base := bq) _ cur rfl ((own_at (h := ⟨some ⟨bq, oq, none⟩, m + 1, cg⟩) HIN2.out HCN.out).alloc _) _ 1 1 [r] rfl (sl_new (c := Ride.cod) wc _ _ [r] 1 rfl (by unfold maxLen; omega) rfl) HM1.out HM2.out (by simp; omega) ?_; intro v2 w2 hown2 hg2; obtain ⟨a3, cap3, e3, -⟩ := hown2.slice; rw [HL3.out] at e3; subst e3; obtain ⟨kc2, kf2⟩ := own_hdr ((hG2.out.own.alloc _).kept hg2 (own_apart (by decide) hG2.out.own HIN2.out)) hM.out.symm HHI.out; have HO2 := Lib.hid hown2; have HG2 := Lib.hid hg2; clear hown2 hg2)
          have HREP := Lib.hid (OwnG.replace (by decide) (hG2.out.below ((Below.refl _ _).alloc (Nat.le_refl _) _)) hM.out.symm HHI.out hM.out HG2.out (hh' := ⟨a3, m + 1 + 1, cap3⟩) HO2.out (by simp))
          have HB2 : Hid (Below w1.heap.size w1 w2) := (HBW.out.alloc hsw _).grown HG2.out (by simp; omega) (fun j hj => own_lt HIN2.out j hj)
          have HB3 := Lib.hid (HB2.out.grown HREP.out.2 HB2.out.size (fun j hj => by cases hj; exact hgo))
          have hset : (gs ++ [cur]).set G (cur ++ [r]) = finG (gs, cur ++ [r]) := by
            rw [finG_ne (by simp), List.set_append_right _ _ (by rw [HGL.out]; exact Nat.le_refl _), HGL.out]; simp
          have hO3 := HREP.out.1
          rw [hset] at hO3
          have HO3 := Lib.hid hO3
          clear hset hO3 kc2 kf2
          go_roundw
          case rel => exact ⟨k + 1, hs.set G ⟨a3, m + 1 + 1, cap3⟩, gs, cur ++ [r], some ⟨go, 0, none⟩, co, G + 1, by go_num, by omega, rfl, HO3.out, by show _ = _; rw [List.length_set, hM.out], fold_take HR.out hf.out (by unfold stepG; rw [if_pos HJP.out]), fun h => by simp at h, HB3.out, by omega, by show _ ≤ _; rw [HL3.out]; have := hck.out; rw [HLEN.out] at this; omega, fun q hq => by rcases List.mem_append.1 hq with h | h; exact HCR.out q h; simp at h; subst h; exact HONE.out⟩
          case measure => simp [intOf]; omega
        | false =>
          have HJP := Lib.hid (of_decide_eq_false hbb)
          clear hbb
          have HM1 : Hid (hs.length + 1 ≤ maxLen) := by show _ ≤ _; rw [hM.out]; unfold maxLen; omega
          have HM2 : Hid ((hs.length + 1) * 24 ≤ 140737488355328) := by show _ ≤ _; rw [hM.out]; omega
          have HNEW := Lib.hid (own_new (c := Ride.cod) wc #[.int .i64 r.t, .int .i64 r.s, .int .i64 r.e, .int .i64 r.f] 29 wc.heap.size [r] 1 rfl (Nat.le_refl _) (by unfold maxLen; omega) rfl)
          have HSL : Hid (Sl Hdr.cod ((wc.alloc (.cells #[.int .i64 r.t, .int .i64 r.s, .int .i64 r.e, .int .i64 r.f] 29)).alloc (.cells #[.slice (some ⟨wc.heap.size, 0, none⟩) 1 1] 27)) (some ⟨wc.heap.size + 1, 0, none⟩) 1 1 [⟨some ⟨wc.heap.size, 0, none⟩, 1, 1⟩]) := by
            have := sl_new (c := Hdr.cod) (wc.alloc (.cells #[.int .i64 r.t, .int .i64 r.s, .int .i64 r.e, .int .i64 r.f] 29)) #[.slice (some ⟨wc.heap.size, 0, none⟩) 1 1] 27 [⟨some ⟨wc.heap.size, 0, none⟩, 1, 1⟩] 1 rfl (by unfold maxLen; omega) rfl
            exact Lib.hid (by simpa using this)
          go_wp2_with (at_builtin; refine wpList_app eltRows rfl (.tmp 84) (.tmp 87) rfl (base := w1.heap.size) _ hs rfl ((hG2.out.own.alloc _).alloc _) _ 1 1 [⟨some ⟨wc.heap.size, 0, none⟩, 1, 1⟩] rfl HSL.out HM1.out HM2.out (by simp; omega) ?_; intro v2 w2 hown2 hg2; have HO2 := Lib.hid hown2; have HG2 := Lib.hid hg2; clear hown2 hg2)
          have HP : Hid (OwnG 29 27 Ride.cod w1.heap.size w2 v2 (hs ++ [(⟨some ⟨wc.heap.size, 0, none⟩, 1, 1⟩ : Hdr)]) ((gs ++ [cur]) ++ [[r]])) :=
            OwnG.push (by decide) ((hG2.out.below ((Below.refl _ _).alloc (Nat.le_refl _) _)).below ((Below.refl _ _).alloc (Nat.le_refl _) _)) ((HNEW.out.lower hsw).alloc _) (by simp) (fun x hx => hG2.out.lt x hx) HO2.out HG2.out
          have HB2 : Hid (Below w1.heap.size w1 w2) := ((HBW.out.alloc hsw _).alloc (by simp; omega) _).grown HG2.out (by simp; omega) (fun j hj => own_lt hG2.out.own j hj)
          obtain ⟨a2, cap2, e2, -⟩ := HP.out.sls
          have hl2 : ((gs ++ [cur]) ++ [[r]]).length = G + 1 + 1 := by simp [HGL.out]
          rw [hl2] at e2
          subst e2
          clear hl2
          go_roundw
          case rel => exact ⟨k + 1, hs ++ [(⟨some ⟨wc.heap.size, 0, none⟩, 1, 1⟩ : Hdr)], gs ++ [cur], [r], a2, cap2, G + 1 + 1, by go_num, by omega, rfl, HP.out, by show _ = _; rw [List.length_append, hM.out]; rfl, fold_take HR.out hf.out (by unfold stepG; rw [if_neg HJP.out, finG_ne HCN.out]), (fun h => by cases h), HB2.out, by omega, by show _ ≤ _; simp, fun q hq => by simp at hq; subst hq; exact HONE.out⟩
          case measure => simp [intOf]; omega
    · have hk' : k = n := by omega
      have HK := Lib.hid hk'; clear hk'
      have e : groupsOf window chain l = finG (gs, cur) := by
        unfold groupsOf
        have hff := hf.out
        rw [HK.out, List.take_of_length_le (by rw [HLL.out]; exact Nat.le_refl _)] at hff
        rw [hff]
      have HE := Lib.hid e
      clear e
      go_wp2_with fail
      go_ret2
      exact ⟨_, rfl, by rw [HE.out]; exact ⟨hs, hG.out.lower hw11⟩, HB.out.trans (hB.out.mono hw11)⟩
end Go.Proofs.Ytgdhlhjflbinmaa

namespace Go.Proofs.Ytgdhlhjflbinmaa
open Go.RowKit Go.V Go.Sort Go.Shelf Go.Proofs Go.Maps

theorem sorted_one : ∀ (l1 l2 : List Ride), l1.Perm l2 → Srt ltR l1 → Srt ltR l2 → (l1.map Ride.t).Nodup → l1 = l2
  | [], l2, hp, _, _, _ => (List.Perm.nil_eq hp)
  | x :: xs, l2, hp, s1, s2, nd => by
    cases l2 with
    | nil => exact absurd hp.length_eq (by simp)
    | cons y ys =>
      by_cases e : x = y
      · subst e
        rw [sorted_one xs ys (List.Perm.cons_inv hp) (List.pairwise_cons.1 s1).2 (List.pairwise_cons.1 s2).2 (List.nodup_cons.1 nd).2]
      · exfalso
        have hx : x ∈ ys := by
          have : x ∈ y :: ys := hp.mem_iff.1 (by simp)
          rcases List.mem_cons.1 this with h | h
          · exact absurd h e
          · exact h
        have hy : y ∈ xs := by
          have : y ∈ x :: xs := hp.mem_iff.2 (by simp)
          rcases List.mem_cons.1 this with h | h
          · exact absurd h.symm e
          · exact h
        have h1 : ltR y x = false := (List.pairwise_cons.1 s1).1 y hy
        have h2 : ltR x y = false := (List.pairwise_cons.1 s2).1 x hx
        have g1 : ¬ (y.s < x.s ∨ y.s = x.s ∧ y.t < x.t) := fun h => by rw [(ltR_iff y x).2 h] at h1; cases h1
        have g2 : ¬ (x.s < y.s ∨ x.s = y.s ∧ x.t < y.t) := fun h => by rw [(ltR_iff x y).2 h] at h2; cases h2
        have ht : x.t = y.t := by omega
        have := (List.nodup_cons.1 nd).1
        exact this (List.mem_map.2 ⟨y, hy, ht.symm⟩)

theorem right_perm {a b : List Ride} (h : a.Perm b) : RightP a ↔ RightP b := by
  unfold RightP
  rw [h.length_eq, (h.map Ride.t).nodup_iff]
  constructor
  · rintro ⟨h1, h2, h3⟩; exact ⟨h1, fun r hr => h2 r (h.mem_iff.2 hr), h3⟩
  · rintro ⟨h1, h2, h3⟩; exact ⟨h1, fun r hr => h2 r (h.mem_iff.1 hr), h3⟩

theorem isort_perm_eq {a b : List Ride} (h : a.Perm b) (hr : RightP a) : isort ltR a = isort ltR b := by
  have h1 : (isort ltR a).Perm (isort ltR b) := ((isort_perm a).trans h).trans (isort_perm b).symm
  exact sorted_one _ _ h1 (isort_srt ordR _) (isort_srt ordR _) (((isort_perm a).map Ride.t).nodup_iff.2 hr.2.2)

theorem groups_perm {a b : List Ride} (h : a.Perm b) (window chain : Int) : groupsR a window chain = groupsR b window chain ∧ (GroupsP a window chain ↔ GroupsP b window chain) := by
  have e : GroupsP a window chain ↔ GroupsP b window chain := by unfold GroupsP; rw [right_perm h]
  refine ⟨?_, e⟩
  unfold groupsR
  by_cases hp : GroupsP a window chain
  · rw [if_pos hp, if_pos (e.1 hp), isort_perm_eq h hp.1]
  · rw [if_neg hp, if_neg (fun q => hp (e.2 q))]

/-- What holds of each group. -/
def GP (window chain : Int) (g : List Ride) : Prop := g ≠ [] ∧ (g.length : Int) ≤ chain ∧ (g.getLastD default).s - (g.headD default).s ≤ window

theorem fin_flat (st : List (List Ride) × List Ride) : (finG st).flatten = st.1.flatten ++ st.2 := by
  unfold finG
  by_cases h : st.2 = []
  · rw [if_pos h, h]; simp
  · rw [if_neg h]; simp

theorem step_flat (window chain : Int) (st : List (List Ride) × List Ride) (r : Ride) : (stepG window chain st r).1.flatten ++ (stepG window chain st r).2 = st.1.flatten ++ st.2 ++ [r] := by
  unfold stepG
  by_cases h : JoinP window chain st.2 r
  · rw [if_pos h]; simp
  · rw [if_neg h]
    show (finG st).flatten ++ [r] = _
    rw [fin_flat]

theorem fold_flat (window chain : Int) : ∀ (l : List Ride) (st : List (List Ride) × List Ride), (l.foldl (stepG window chain) st).1.flatten ++ (l.foldl (stepG window chain) st).2 = st.1.flatten ++ st.2 ++ l
  | [], st => by simp
  | r :: l, st => by
    rw [List.foldl_cons, fold_flat window chain l, step_flat]; simp

theorem groups_flat (window chain : Int) (l : List Ride) : (groupsOf window chain l).flatten = l := by
  unfold groupsOf
  rw [fin_flat, fold_flat]; simp

def Good (window chain : Int) (st : List (List Ride) × List Ride) : Prop := (∀ g ∈ st.1, GP window chain g) ∧ (st.2 ≠ [] → GP window chain st.2)
theorem fin_good {window chain : Int} {st : List (List Ride) × List Ride} (h : Good window chain st) : ∀ g ∈ finG st, GP window chain g := by
  intro g hg
  unfold finG at hg
  by_cases e : st.2 = []
  · rw [if_pos e] at hg; exact h.1 g hg
  · rw [if_neg e] at hg
    rcases List.mem_append.1 hg with h1 | h1
    · exact h.1 g h1
    · simp at h1; subst h1; exact h.2 e
theorem step_good {window chain : Int} (hw : 0 ≤ window) (hc : 1 ≤ chain) {st : List (List Ride) × List Ride} (h : Good window chain st) (r : Ride) : Good window chain (stepG window chain st r) := by
  unfold stepG
  by_cases j : JoinP window chain st.2 r
  · rw [if_pos j]
    obtain ⟨j1, j2, j3, j4, j5⟩ := j
    refine ⟨h.1, fun _ => ⟨by simp, by simp; omega, ?_⟩⟩
    show ((st.2 ++ [r]).getLastD default).s - _ ≤ _
    have e1 : (st.2 ++ [r]).getLastD default = r := by rw [List.getLastD_eq_getLast?]; simp
    have e2 : (st.2 ++ [r]).headD default = st.2.headD default := by
      cases hs : st.2 with
      | nil => exact absurd hs j1
      | cons => rfl
    rw [e1, e2]; exact j5
  · rw [if_neg j]
    exact ⟨fin_good h, fun _ => ⟨by simp, by simpa using hc, by simpa using hw⟩⟩
theorem fold_good {window chain : Int} (hw : 0 ≤ window) (hc : 1 ≤ chain) : ∀ (l : List Ride) (st : List (List Ride) × List Ride), Good window chain st → Good window chain (l.foldl (stepG window chain) st)
  | [], _, h => h
  | r :: l, _, h => fold_good hw hc l _ (step_good hw hc h r)
theorem groups_good {window chain : Int} (hw : 0 ≤ window) (hc : 1 ≤ chain) (l : List Ride) : ∀ g ∈ groupsOf window chain l, GP window chain g :=
  fin_good (fold_good hw hc l _ ⟨fun g hg => by simp at hg, fun h => absurd rfl h⟩)

theorem flat_ge : ∀ (gs : List (List Ride)), (∀ g ∈ gs, g ≠ []) → gs.length ≤ gs.flatten.length
  | [], _ => by simp
  | g :: gs, h => by
    have h1 := flat_ge gs (fun x hx => h x (by simp [hx]))
    have h2 := List.length_pos_iff.2 (h g (by simp))
    simp only [List.flatten_cons, List.length_append, List.length_cons]; omega
theorem flat_le : ∀ (gs : List (List Ride)), (∀ g ∈ gs, g.length ≤ 1) → gs.flatten.length ≤ gs.length
  | [], _ => by simp
  | g :: gs, h => by
    have h1 := flat_le gs (fun x hx => h x (by simp [hx]))
    have h2 := h g (by simp)
    simp only [List.flatten_cons, List.length_append, List.length_cons]; omega
theorem groups_le {window chain : Int} (hw : 0 ≤ window) (hc : 1 ≤ chain) (l : List Ride) : (groupsOf window chain l).length ≤ l.length := by
  have := flat_ge _ (fun g hg => (groups_good hw hc l g hg).1)
  rwa [groups_flat] at this
theorem groups_one {window : Int} (hw : 0 ≤ window) (l : List Ride) : (groupsOf window 1 l).length = l.length := by
  have h1 := groups_le hw (Int.le_refl 1) l
  have h2 := flat_le _ (fun g hg => by have := (groups_good hw (Int.le_refl 1) l g hg).2.1; omega)
  rw [groups_flat] at h2; omega

theorem far_same : ∀ (l : List Ride) (a b : Int), (∀ r ∈ l, -1 ≤ r.f) → 0 ≤ a → b = min a 4294967296 → farT l b = farS l a
  | [], a, b, _, _, hb => by unfold farT farS; split <;> omega
  | r :: l, a, b, h, ha, hb => by
    have h1 := h r (by simp)
    unfold farT farS
    by_cases e : r.f = -1
    · rw [if_pos (by omega), if_pos e]
    · rw [if_neg (by omega), if_neg e]
      exact far_same l _ _ (fun x hx => h x (by simp [hx])) (by omega) (by omega)
end Go.Proofs.Ytgdhlhjflbinmaa
