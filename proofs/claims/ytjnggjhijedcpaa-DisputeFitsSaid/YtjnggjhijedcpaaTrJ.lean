/- The transfer layer: the reference's groups. -/
import Derived.Test.YtjnggjhijedcpaaTrH
import Derived.Test.YtjnggjhijedcpaaBase3
import Derived.Deep.Cut
import Derived.Deep.DeepCutAuto
namespace Go.Proofs.Ytjnggjhijedcpaa
open Go.RowKit Go.V Go.Sort Go.Shelf Go.Proofs Go.Maps

def JoinP (window chain : Int) (cur : List Ride) (r : Ride) : Prop := cur ≠ [] ∧ (cur.length : Int) < chain ∧ r.f ≠ -1 ∧ (cur.getLastD default).f ≠ -1 ∧ r.s - (cur.headD default).s ≤ window
instance (window chain : Int) (cur : List Ride) (r : Ride) : Decidable (JoinP window chain cur r) := inferInstanceAs (Decidable (_ ∧ _ ∧ _ ∧ _ ∧ _))
def finG (st : List (List Ride) × List Ride) : List (List Ride) := if st.2 = [] then st.1 else st.1 ++ [st.2]
def stepG (window chain : Int) (st : List (List Ride) × List Ride) (r : Ride) : List (List Ride) × List Ride := if JoinP window chain st.2 r then (st.1, st.2 ++ [r]) else (finG st, [r])
def groupsOf (window chain : Int) (l : List Ride) : List (List Ride) := finG (l.foldl (stepG window chain) ([], []))

theorem infoRows : (Try.prog.info? 27).map (fun i => (i.zero, i.size, i.bytes)) = some (some (.slice none 0 0), 1, 24) := by kernel_rfl
theorem eltRows : Elt Try.prog 106 27 Hdr.cod 24 := Elt.of Try.underlying106 infoRows rfl (by decide)

theorem fold_take {window chain : Int} {l : List Ride} {k : Nat} {r : Ride} {st st' : List (List Ride) × List Ride} (hr : l[k]? = some r) (h : (l.take k).foldl (stepG window chain) ([], []) = st) (hs : stepG window chain st r = st') : (l.take (k + 1)).foldl (stepG window chain) ([], []) = st' := by
  rw [take_at hr, List.foldl_append, h]; exact hs

def IsG (base : Nat) (w : World) (v : Value) (gs : List (List Ride)) : Prop := ∃ hs, OwnG 42 27 Ride.cod base w v hs gs

set_option maxHeartbeats 2000000 in
set_option maxRecDepth 100000 in
theorem rgroups_any (a : Option Addr) (n cap : Nat) (xs : List Ride) (window chain : Int) (w : World) (hn : n ≤ 100000) (hr : ∀ r ∈ xs, oneB r = true) (h : Sl Ride.cod w a n cap xs) :
    Calls Try.prog 63 #[.slice a n cap, .int .i64 window, .int .i64 chain] w fun e w' => ∃ v, e = .returned v ∧ IsG w.heap.size w' v (groupsOf window chain (isort ltR xs)) ∧ Below w.heap.size w w' := by
  have mixed : Try.prog.follows .mixedOrders = true := by kernel_rfl
  have hN := Lib.hid h.hlen
  obtain ⟨l, hl⟩ : ∃ l, isort ltR xs = l := ⟨_, rfl⟩
  have hlr : ∀ r ∈ l, oneB r = true := fun r hm => hr r (by rw [← hl] at hm; exact (isort_perm xs).mem_iff.1 hm)
  have hll : l.length = n := by rw [← hl, (isort_perm xs).length_eq]; exact hN.out.symm
  have HL := Lib.hid hl
  have HLR := Lib.hid hlr
  have HLL := Lib.hid hll
  rw [hl]
  clear hr hl hlr hll
  go_enter Try.func63, Try.ntmps63
  go_wp2_with (go_at_call 130; refine (rsort_any a n cap xs _ (by omega) h).mono ?_; rintro e w1 ⟨v, rfl, ho, hb⟩)
  obtain ⟨av, cv, rfl, hsv, -⟩ := ho.slice
  rw [HL.out] at hsv
  have hlv : (isort ltR xs).length = n := by rw [HL.out, HLL.out]
  rw [hlv]
  have hsv' : Sl Ride.cod w1 av n cv l := by have := hsv; rwa [HLL.out] at this
  have HSV := Lib.hid hsv'
  have HB := Lib.hid hb
  have HLV := Lib.hid hlv
  clear ho hsv hsv' hb hlv
  go_wp2_with fail
  go_loopw [7, 8, 10] (fun out grp i wr => ∃ (k : Nat) (hs : List Hdr) (gs : List (List Ride)) (cur : List Ride) (bg : Nat) (ao ag : Option Addr) (co cg L : Nat), i = .int .i64 k ∧ k ≤ n ∧ out = .slice ao gs.length co ∧ grp = .slice ag L cg ∧ Hid (OwnG 42 27 Ride.cod w1.heap.size wr (.slice ao gs.length co) hs gs) ∧ Hid (Own 42 Ride.cod bg wr (.slice ag L cg) cur) ∧ Hid (∀ x ∈ hs, x.blk < bg) ∧ w1.heap.size ≤ bg ∧ bg ≤ wr.heap.size ∧ Hid ((l.take k).foldl (stepG window chain) ([], []) = (gs, cur)) ∧ Hid (Below w1.heap.size w1 wr) ∧ gs.length ≤ k ∧ L ≤ k ∧ Hid (cur.length = L) ∧ Hid (∀ r ∈ cur, oneB r = true)) (fun _ _ i _ => n - (intOf i).toNat)
  case atStart => exact ⟨0, [], [], [], w1.heap.size, none, none, 0, 0, 0, rfl, by omega, rfl, rfl, OwnG.nil, Own.nil, fun x hx => by simp at hx, Nat.le_refl _, Nat.le_refl _, rfl, Below.refl _ _, by simp, by simp, rfl, fun r hr => by simp at hr⟩
  case round =>
    obtain ⟨k, hs, gs, cur, bg, ao, ag, co, cg, L, rfl, hk, rfl, rfl, hG, hC, hlt, hb1, hb2, hf, hB, hg1, hc1, hLen, HCR⟩ := hrel
    by_cases hkn : k < n
    · obtain ⟨b, off, r, rfl, hbl, hr, c0, c1, c2, c3⟩ := ride_at HSV.out hkn
      have HR := Lib.hid hr
      clear hr
      obtain ⟨hc, -⟩ := bcell hB.out
      have k0 : wr.cell? ⟨b, off + k * 4, none⟩ = some (.int .i64 r.t) := by rw [hc _ _ hbl]; exact c0
      have k1 : wr.cell? ⟨b, off + k * 4 + 1, none⟩ = some (.int .i64 r.s) := by rw [hc _ _ hbl]; exact c1
      have k2 : wr.cell? ⟨b, off + k * 4 + 2, none⟩ = some (.int .i64 r.e) := by rw [hc _ _ hbl]; exact c2
      have k3 : wr.cell? ⟨b, off + k * 4 + 3, none⟩ = some (.int .i64 r.f) := by rw [hc _ _ hbl]; exact c3
      have C : Hid (w1.cell? ⟨b, off + k * 4, none⟩ = some (.int .i64 r.t) ∧ w1.cell? ⟨b, off + k * 4 + 1, none⟩ = some (.int .i64 r.s) ∧ w1.cell? ⟨b, off + k * 4 + 2, none⟩ = some (.int .i64 r.e) ∧ w1.cell? ⟨b, off + k * 4 + 3, none⟩ = some (.int .i64 r.f)) := ⟨c0, c1, c2, c3⟩
      have r1 := (oneB_iff r).1 (HLR.out r (List.mem_of_getElem? HR.out))
      have hs0 : 0 ≤ r.s ∧ r.s ≤ 1099511627776 := by omega
      clear c0 c1 c2 c3 hc r1
      obtain ⟨wo, rfl⟩ : ∃ wo : World, wo = wr := ⟨_, rfl⟩
      have b1 : (k : Int) < (n : Int) := by omega
      have HNJ : Hid ((JoinP window chain cur r) ∨ ¬ (JoinP window chain cur r)) := Classical.em _
      go_upto_region 7 with fail
      go_cut [11] (fun v wx => v = .bool (decide (0 < L ∧ (L : Int) < chain ∧ r.f ≠ -1)) ∧ wo = wx)
      case first =>
        as_aux_lemma =>
          by_cases d1 : 0 < L
          · have d1' : (0 : Int) < (L : Int) := by omega
            by_cases d2 : (L : Int) < chain
            · by_cases d3 : r.f = -1
              · have d3' : (r.f != -1) = false := by simp [d3]
                have D3 := Lib.hid d3
                clear d3
                go_wp2_with fail
                go_meet
                exact ⟨by have := D3.out; simp [this], rfl⟩
              · have d3' : (r.f != -1) = true := by simp [d3]
                have D3 := Lib.hid d3
                clear d3
                go_wp2_with fail
                go_meet
                exact ⟨by have := D3.out; simp [d1, d2, this], rfl⟩
            · go_wp2_with fail
              go_meet
              exact ⟨by congr 1; symm; rw [decide_eq_false_iff_not]; omega, rfl⟩
          · have : L = 0 := by omega
            subst this
            go_wp2_with fail
            go_meet
            exact ⟨by simp, rfl⟩
      obtain ⟨rfl, rfl⟩ := hcut
      go_upto_if 37 with fail
      go_cut [11] (fun v wx => v = .bool (decide (JoinP window chain cur r)) ∧ Hid (Below wo.heap.size wo wx))
      case first =>
        as_aux_lemma =>
          by_cases d1 : 0 < L ∧ (L : Int) < chain ∧ r.f ≠ -1
          · have d1' : decide (0 < L ∧ (L : Int) < chain ∧ r.f ≠ -1) = true := decide_eq_true d1
            obtain ⟨m, rfl⟩ : ∃ m, L = m + 1 := ⟨L - 1, by omega⟩
            obtain ⟨ag', cg', ea, hsc, -⟩ := hC.out.slice
            rw [hLen.out] at ea hsc
            cases ea
            obtain ⟨bq, oq, fi, rfl, hbq, hfi, f0, f1, f2, f3⟩ := ride_at hsc (show 0 < m + 1 by omega)
            obtain ⟨bq', oq', la, e', -, hla, g0, g1, g2, g3⟩ := ride_at hsc (show m < m + 1 by omega)
            cases e'
            have D1 := Lib.hid d1
            have r2 : IntKind.i64.wrap (m : Int) = (m : Int) := by rw [IntKind.wrap_i64]; omega
            have b2 : (m : Int) < (m : Int) + 1 := by omega
            have hj : JoinP window chain cur r ↔ la.f ≠ -1 ∧ r.s - fi.s ≤ window := by
              have hl := hLen.out
              have e1 : cur.getLastD default = la := by
                rw [List.getLastD_eq_getLast?, List.getLast?_eq_getElem?, hl, Nat.add_sub_cancel, hla]; rfl
              have e2 : cur.headD default = fi := by rw [List.headD_eq_head?_getD, List.head?_eq_getElem?, hfi]; rfl
              unfold JoinP
              rw [e1, e2, hl]
              constructor
              · exact fun h => ⟨h.2.2.2.1, h.2.2.2.2⟩
              · exact fun h => ⟨fun hn => by rw [hn] at hl; simp at hl, D1.out.2.1, D1.out.2.2, h.1, h.2⟩
            have HJ := Lib.hid hj
            have hfs : 0 ≤ fi.s ∧ fi.s ≤ 1099511627776 := by
              have := (oneB_iff fi).1 (HCR.out fi (List.mem_of_getElem? hfi))
              omega
            have rs : IntKind.i64.wrap (r.s - fi.s) = r.s - fi.s := by rw [IntKind.wrap_i64]; omega
            have K0 := cell_regrown k0
            clear hfi hla hj d1 hsc
            by_cases d3 : la.f = -1
            · have d3' : (la.f != -1) = false := by simp [d3]
              have D3 := Lib.hid d3
              clear d3
              go_wp2_with fail
              go_quiet (fail)
              go_wp2_with fail
              go_meet
              refine ⟨congrArg _ (decide_eq_false (fun h => (HJ.out.1 h).1 D3.out)).symm, below_drewN (Below.refl _ _) _⟩
            · have d3' : (la.f != -1) = true := by simp [d3]
              have D3 := Lib.hid d3
              clear d3
              by_cases d4 : r.s - fi.s ≤ window
              · have D4 := Lib.hid d4
                go_wp2_with fail
                go_quiet (fail)
                go_wp2_with fail
                go_meet
                refine ⟨congrArg _ (decide_eq_true (HJ.out.2 ⟨D3.out, D4.out⟩)).symm, below_drewN (Below.refl _ _) _⟩
              · have D4 := Lib.hid d4
                go_wp2_with fail
                go_quiet (fail)
                go_wp2_with fail
                go_meet
                refine ⟨congrArg _ ((decide_eq_false (fun h => by have := D4.out; omega)).trans (decide_eq_false (fun h => by have := (HJ.out.1 h).2; have := D4.out; omega)).symm), below_drewN (Below.refl _ _) _⟩
          · have d1' : decide (0 < L ∧ (L : Int) < chain ∧ r.f ≠ -1) = false := decide_eq_false d1
            have D1 := Lib.hid d1
            clear d1
            go_wp2_with fail
            go_meet
            refine ⟨congrArg _ (d1'.trans (decide_eq_false (fun (h : JoinP window chain cur r) => D1.out ⟨?_, ?_, h.2.2.1⟩)).symm), Below.refl _ _⟩
            · have := List.length_pos_iff.2 h.1; have := hLen.out; omega
            · have h2 := h.2.1; rw [hLen.out] at h2; exact h2
      obtain ⟨rfl, hbj⟩ := hcut
      have hsz := hbj.out.size
      have HBW : Hid (Below w1.heap.size w1 wc) := hB.out.trans (hbj.out.mono hB.out.size)
      have hG2 := Lib.hid (hG.out.below hbj.out)
      have hC2 := Lib.hid (hC.out.below hbj.out)
      have hww : w1.heap.size ≤ wc.heap.size := HBW.out.size
      have hbgc : bg ≤ wc.heap.size := by omega
      obtain ⟨hc, -⟩ := bcell HBW.out
      obtain ⟨c0, c1, c2, c3⟩ := C.out
      have m0 : wc.cell? ⟨b, off + k * 4, none⟩ = some (.int .i64 r.t) := by rw [hc _ _ hbl]; exact c0
      have m1 : wc.cell? ⟨b, off + k * 4 + 1, none⟩ = some (.int .i64 r.s) := by rw [hc _ _ hbl]; exact c1
      have m2 : wc.cell? ⟨b, off + k * 4 + 2, none⟩ = some (.int .i64 r.e) := by rw [hc _ _ hbl]; exact c2
      have m3 : wc.cell? ⟨b, off + k * 4 + 3, none⟩ = some (.int .i64 r.f) := by rw [hc _ _ hbl]; exact c3
      have hblc : b < wc.heap.size := by omega
      clear hc c0 c1 c2 c3 k0 k1 k2 k3 hG hC hB hbj
      go_upto_region 10 with fail
      go_cut [66] (fun v wx => v = .bool (decide (¬ JoinP window chain cur r ∧ 0 < L)) ∧ wc = wx)
      case first =>
        as_aux_lemma =>
          by_cases d1 : JoinP window chain cur r
          · have d1' : decide (JoinP window chain cur r) = true := decide_eq_true d1
            have D1 := Lib.hid d1
            clear d1
            go_wp2_with fail
            go_meet
            exact ⟨by have := D1.out; simp [this], rfl⟩
          · have d1' : decide (JoinP window chain cur r) = false := decide_eq_false d1
            have D1 := Lib.hid d1
            clear d1
            by_cases d2 : 0 < L
            · have d2' : (0 : Int) < (L : Int) := by omega
              go_wp2_with fail
              go_meet
              exact ⟨by have := D1.out; simp [this, d2], rfl⟩
            · have : L = 0 := by omega
              subst this
              go_wp2_with fail
              go_meet
              exact ⟨by simp, rfl⟩
      obtain ⟨rfl, rfl⟩ := hcut
      obtain ⟨bb, hbb⟩ : ∃ bb, decide (¬ JoinP window chain cur r ∧ 0 < L) = bb := ⟨_, rfl⟩
      rw [hbb]
      cases bb with
      | true =>
        have hj := of_decide_eq_true hbb
        clear hbb
        have HJ := Lib.hid hj
        have hcn : cur ≠ [] := fun h => by have := hLen.out; rw [h] at this; simp at this; omega
        have HCN := Lib.hid hcn
        clear hj hcn
        have HM1 : Hid (hs.length + 1 ≤ maxLen) := by show _ ≤ _; rw [hG2.out.len]; unfold maxLen; omega
        have HM2 : Hid ((hs.length + 1) * 24 ≤ 140737488355328) := by show _ ≤ _; rw [hG2.out.len]; omega
        have HM3 : Hid (([] : List Ride).length + 1 ≤ maxLen) := by show _ ≤ _; unfold maxLen; simp
        have HM4 : Hid ((([] : List Ride).length + 1) * 32 ≤ 140737488355328) := by show _ ≤ _; simp
        have HBK : Hid (∀ x ∈ hs, x.blk < Hdr.blk ⟨ag, L, cg⟩) := by
          intro x hx
          have h1 := hlt.out x hx
          have h2 := (own_blk (h := ⟨ag, L, cg⟩) hC2.out HCN.out).2.2.1
          omega
        have M : Hid (wc.cell? ⟨b, off + k * 4, none⟩ = some (.int .i64 r.t) ∧ wc.cell? ⟨b, off + k * 4 + 1, none⟩ = some (.int .i64 r.s) ∧ wc.cell? ⟨b, off + k * 4 + 2, none⟩ = some (.int .i64 r.e) ∧ wc.cell? ⟨b, off + k * 4 + 3, none⟩ = some (.int .i64 r.f)) := ⟨m0, m1, m2, m3⟩
        clear m0 m1 m2 m3
        go_wp2_with (first | (at_builtin; refine wpList_app eltRows rfl (.tmp 67) (.tmp 69) rfl (base := w1.heap.size) _ hs rfl (hG2.out.own.alloc _) _ 1 1 [⟨ag, L, cg⟩] rfl (sl_new (c := Hdr.cod) wc #[.slice ag L cg] 27 [⟨ag, L, cg⟩] 1 rfl (by unfold maxLen; omega) rfl) HM1.out HM2.out (by simp; omega) ?_; intro v2 w2 hown2 hg2; have HB2 : Hid (Below w1.heap.size w1 w2) := (HBW.out.alloc hww _).grown hg2 (by simp; omega) (fun k hk => own_lt hG2.out.own k hk); have hs2 := HB2.out.size; have HP : Hid (OwnG 42 27 Ride.cod w1.heap.size w2 v2 (hs ++ [⟨ag, L, cg⟩]) (gs ++ [cur])) := OwnG.push (by decide) (hG2.out.below ((Below.refl _ _).alloc (Nat.le_refl _) _)) (Own.lower (hC2.out.alloc _) hb1) HCN.out HBK.out hown2 hg2; obtain ⟨m0, m1, m2, m3⟩ : w2.cell? ⟨b, off + k * 4, none⟩ = some (.int .i64 r.t) ∧ w2.cell? ⟨b, off + k * 4 + 1, none⟩ = some (.int .i64 r.s) ∧ w2.cell? ⟨b, off + k * 4 + 2, none⟩ = some (.int .i64 r.e) ∧ w2.cell? ⟨b, off + k * 4 + 3, none⟩ = some (.int .i64 r.f) := (by obtain ⟨c, -⟩ := bcell HB2.out; rw [c _ _ hbl, c _ _ hbl, c _ _ hbl, c _ _ hbl]; exact C.out); clear hown2 hg2) | (at_builtin; refine wpList_app eltRide rfl (.tmp 71) (.tmp 76) rfl (base := w2.heap.size) _ [] rfl Own.nil _ 1 1 [r] rfl (sl_new (c := Ride.cod) w2 _ _ [r] 1 rfl (by unfold maxLen; omega) rfl) HM3.out HM4.out (by simp) ?_; intro v3 w3 hown3 hg3; have HB3 : Hid (Below w2.heap.size w2 w3) := ((Below.refl _ _).alloc (Nat.le_refl _) _).grown hg3 (by simp) (fun k hk => by cases hk); have HO3 := Lib.hid hown3; clear hown3 hg3))
        obtain ⟨a2, cap2, e2, -⟩ := HP.out.sls
        subst e2
        obtain ⟨a3, cap3, e3, -⟩ := HO3.out.slice
        change v3 = .slice a3 1 cap3 at e3
        subst e3
        have hlen2 : (gs ++ [cur]).length ≤ k + 1 := by simp; omega
        go_roundw
        case rel => exact ⟨k + 1, hs ++ [(⟨ag, L, cg⟩ : Hdr)], gs ++ [cur], [r], w2.heap.size, a2, a3, cap2, cap3, 1, by go_num, by omega, rfl, rfl, HP.out.below HB3.out, HO3.out, HP.out.lt, hs2, HB3.out.size, fold_take HR.out hf.out (by unfold stepG finG; rw [if_neg HJ.out.1, if_neg HCN.out]), HB2.out.trans (HB3.out.mono hs2), hlen2, by omega, rfl, fun q hq => by simp at hq; subst hq; exact HLR.out _ (List.mem_of_getElem? HR.out)⟩
        case measure => simp [intOf]; omega
      | false =>
        have hj := of_decide_eq_false hbb
        clear hbb
        have HST : Hid (stepG window chain (gs, cur) r = (gs, cur ++ [r])) := by
          show _ = _
          unfold stepG
          by_cases h1 : JoinP window chain cur r
          · rw [if_pos h1]
          · have h2 : cur = [] := by
              have : L = 0 := by
                rcases Nat.eq_zero_or_pos L with h | h
                · exact h
                · exact absurd ⟨h1, h⟩ hj
              exact List.eq_nil_of_length_eq_zero (by rw [hLen.out, this])
            rw [if_neg h1]; unfold finG; simp [h2]
        clear hj
        have HM1 : Hid (cur.length + 1 ≤ maxLen) := by show _ ≤ _; rw [hLen.out]; unfold maxLen; omega
        have HM2 : Hid ((cur.length + 1) * 32 ≤ 140737488355328) := by show _ ≤ _; rw [hLen.out]; omega
        go_wp2_with (at_builtin; refine wpList_app eltRide rfl (.tmp 71) (.tmp 76) rfl (base := bg) _ cur rfl (hC2.out.alloc _) _ 1 1 [r] rfl (sl_new (c := Ride.cod) wc _ _ [r] 1 rfl (by unfold maxLen; omega) rfl) HM1.out HM2.out (by simp; omega) ?_; intro v2 w2 hown2 hg2; have HB2 : Hid (Below w1.heap.size w1 w2) := (HBW.out.alloc hww _).grown hg2 (by simp; omega) (fun k hk => by have := own_lt hC2.out k hk; omega); have HB3 : Hid (Below bg wc w2) := ((Below.refl _ _).alloc hbgc _).grown hg2 (by simp; omega) (fun k hk => own_lt hC2.out k hk); have HO2 := Lib.hid hown2; have HG2 := Lib.hid hg2; clear hown2 hg2)
        obtain ⟨a3, cap3, e3, -⟩ := HO2.out.slice
        have hl3 : (cur ++ [r]).length = L + 1 := by rw [List.length_append, hLen.out]; rfl
        rw [hl3] at e3
        subst e3
        go_roundw
        case rel => exact ⟨k + 1, hs, gs, cur ++ [r], bg, ao, a3, co, cap3, L + 1, by go_num, by omega, rfl, rfl, (hG2.out.below ((Below.refl _ _).alloc (Nat.le_refl _) _)).kept HG2.out (own_apart (by decide) hG2.out.own hC2.out) (fun x hx hh => by have h1 := hlt.out x hx; have h2 := own_lt hC2.out _ hh; omega), HO2.out, hlt.out, hb1, Nat.le_trans hbgc HB3.out.size, fold_take HR.out hf.out HST.out, HB2.out, by omega, by omega, hl3, fun q hq => by rcases List.mem_append.1 hq with h | h; exact HCR.out q h; simp at h; subst h; exact HLR.out _ (List.mem_of_getElem? HR.out)⟩
        case measure => simp [intOf]; omega
    · have hk' : k = n := by omega
      have HK := Lib.hid hk'; clear hk'
      by_cases hcur : cur = []
      · have hcl : L = 0 := by rw [← hLen.out, hcur]; rfl
        have HCU := Lib.hid hcur
        clear hcur
        subst hcl
        go_wp2_with fail
        go_ret
        refine ⟨.slice ao gs.length co, rfl, ?_, HB.out.trans (hB.out.mono HB.out.size)⟩
        have e : groupsOf window chain l = gs := by
          unfold groupsOf
          have hff := hf.out
          rw [HK.out, List.take_of_length_le (by rw [HLL.out]; exact Nat.le_refl _)] at hff
          rw [hff]; unfold finG; rw [if_pos HCU.out]
        rw [e]; exact ⟨hs, hG.out.lower HB.out.size⟩
      · have hcz2 : (0 : Int) < (L : Int) := by have := List.length_pos_iff.2 hcur; have := hLen.out; omega
        have HCU := Lib.hid hcur
        clear hcur
        have HM1 : Hid (hs.length + 1 ≤ maxLen) := by show _ ≤ _; rw [hG.out.len]; unfold maxLen; omega
        have HM2 : Hid ((hs.length + 1) * 24 ≤ 140737488355328) := by show _ ≤ _; rw [hG.out.len]; omega
        have hww : w1.heap.size ≤ wr.heap.size := by omega
        go_wp2_with (at_builtin; refine wpList_app eltRows rfl (.tmp 81) (.tmp 83) rfl (base := w1.heap.size) _ hs rfl (hG.out.own.alloc _) _ 1 1 [⟨ag, L, cg⟩] rfl (sl_new (c := Hdr.cod) wr #[.slice ag L cg] 27 [⟨ag, L, cg⟩] 1 rfl (by unfold maxLen; omega) rfl) HM1.out HM2.out (by simp; omega) ?_; intro v2 w2 hown2 hg2)
        have HO2 := Lib.hid hown2
        have HG2 := Lib.hid hg2
        clear hown2 hg2
        go_wp2_with fail
        go_ret
        refine ⟨v2, rfl, ?_, ?_⟩
        · have e : groupsOf window chain l = gs ++ [cur] := by
            unfold groupsOf
            have hff := hf.out
            rw [HK.out, List.take_of_length_le (by rw [HLL.out]; exact Nat.le_refl _)] at hff
            rw [hff]; unfold finG; rw [if_neg HCU.out]
          rw [e]
          refine ⟨_, OwnG.lower (base := w1.heap.size) (OwnG.push (by decide) (hG.out.below ((Below.refl _ _).alloc (Nat.le_refl _) _)) (Own.lower (hC.out.alloc _) hb1) HCU.out ?_ HO2.out HG2.out) HB.out.size⟩
          intro x hx
          have h1 := hlt.out x hx
          have h2 := (own_blk (h := ⟨ag, L, cg⟩) hC.out HCU.out).2.2.1
          omega
        · exact HB.out.trans (((hB.out.alloc hww _).grown HG2.out (by simp; omega) (fun j hj => (World.ownsRow.lt hG.out.own j hj).1)).mono HB.out.size)
end Go.Proofs.Ytjnggjhijedcpaa
