/- Networks: viterbi: what is left to be paid, row by row, as an iterator tells it: walked. -/
import Derived.Test.YtlfbbahihenilaaGreatMhNxC
namespace Go.Proofs.YtlfbbahihenilaaGreat.Ne
open Go.RowKit Go.V Go.Shelf Go.Proofs Go.Sort Go.Maps
attribute [local go_sem] Oper.semAt_some

/-- What the iterator is handed. -/
structure BI (Wa W0 : World) (Bp Bt Bw A l base tg mg N0 : Nat) (n : Net) (hs hl : Hdr) (x : Wgh) (hp : Hdr) (gs : List (List Pnt)) : Prop where
  bp : W0.heap[Bp]? = some (.cells #[.slice hp.a hp.n hp.cap] 63 (0, 0))
  bt : W0.heap[Bt]? = some (.cells #[.pointer (some ⟨tg, 0, none⟩)] 47 (0, 0))
  bw : W0.heap[Bw]? = some x.box
  pts : PtsIn Wa hp.a hp.n hp.cap gs
  wa : Chg Wa W0 mg none
  mp : MapAt Wa mg
  za : Wa.heap.size ≤ A ∧ Wa.heap.size ≤ l
  ok : checkE n = 0
  few : hs.n ≤ 60 ∧ hl.n ≤ 120 ∧ gs.length ≤ 60 ∧ N0 ≤ 20000
  rows : ∀ r ∈ gs, okRow r ∧ r.length ≤ 16
  tab : TabIn W0 base tg mg N0 n hs hl
  ne : tg ≠ mg ∧ tg ≠ A ∧ tg ≠ l ∧ mg ≠ A ∧ mg ≠ l
  lt : A < W0.heap.size ∧ l < W0.heap.size
  off : TOff W0 mg A ∧ TOff W0 mg l
  bs : base ≤ A ∧ base ≤ l
  bne : (Bp ≠ mg ∧ Bp ≠ A ∧ Bp ≠ l) ∧ (Bt ≠ mg ∧ Bt ≠ A ∧ Bt ≠ l) ∧ (Bw ≠ mg ∧ Bw ≠ A ∧ Bw ≠ l)
section
variable {Wa W0 W : World} {Bp Bt Bw A l base tg mg N0 : Nat} {n : Net} {hs hl : Hdr} {x : Wgh} {hp : Hdr} {gs : List (List Pnt)}
theorem BI.upto (h : BI Wa W0 Bp Bt Bw A l base tg mg N0 n hs hl x hp gs) (hk : Kp W0 W mg A l) : Chg Wa W mg none := by
  obtain ⟨z1, z2⟩ := h.za
  exact ⟨hk.os.trans h.wa.os, hk.tape.trans h.wa.tape, hk.output.trans h.wa.output, Nat.le_trans h.wa.size hk.size, fun k h1 h2 h3 => (hk.block k (by have := h.wa.size; omega) h2 (by omega) (by omega)).trans (h.wa.block k h1 h2 h3)⟩
theorem BI.cells (h : BI Wa W0 Bp Bt Bw A l base tg mg N0 n hs hl x hp gs) (hk : Kp W0 W mg A l) : W.cell? ⟨Bp, 0, none⟩ = some (.slice hp.a hp.n hp.cap) ∧ W.cell? ⟨Bt, 0, none⟩ = some (.pointer (some ⟨tg, 0, none⟩)) ∧ W.heap[Bw]? = some x.box ∧ PtsIn W hp.a hp.n hp.cap gs := by
  obtain ⟨⟨a1, a2, a3⟩, ⟨b1, b2, b3⟩, c1, c2, c3⟩ := h.bne
  refine ⟨(box_cell ((hk.block Bp (box_lt h.bp) a1 a2 a3).trans h.bp) 0).1, (box_cell ((hk.block Bt (box_lt h.bt) b1 b2 b3).trans h.bt) 0).1, (hk.block Bw (box_lt h.bw) c1 c2 c3).trans h.bw, ?_⟩
  exact pts_chgm h.mp (h.upto hk) h.pts
theorem BI.row (h : BI Wa W0 Bp Bt Bw A l base tg mg N0 n hs hl x hp gs) {i : Nat} (hi : i < hp.n) : ∃ (pb po : Nat) (rh : Hdr) (g : List Pnt), hp.a = some ⟨pb, po, none⟩ ∧ pb < Wa.heap.size ∧ gs[i]? = some g ∧ ∀ W, Kp W0 W mg A l → W.cell? ⟨pb, po + i, none⟩ = some (.slice rh.a rh.n rh.cap) ∧ SlQ pcod W rh.a rh.n rh.cap g := by
  obtain ⟨pb, po, rh, g, e1, hpb, hg, hrc, hgq⟩ := h.pts.at hi
  refine ⟨pb, po, rh, g, e1, hpb, hg, fun W hk => ?_⟩
  exact ⟨cell_chgm h.mp (h.upto hk) hrc, slq_chgm h.mp (h.upto hk) hgq⟩
end

set_option maxRecDepth 100000 in
set_option maxHeartbeats 16000000 in
theorem back1_in (m l Bp Bt Bw A base tg mg N0 : Nat) (n : Net) (hs hl : Hdr) (x : Wgh) (hp : Hdr) (gs : List (List Pnt)) (Wa W0 : World) (J : Nat → World → Prop) (h1m : 1 ≤ m)
    (hB : BI Wa W0 Bp Bt Bw A l base tg mg N0 n hs hl x hp gs)
    (hJ : ∀ i W W', J i W → Kq W0.heap.size mg W W' → J i W')
    (hY : ∀ i W, i < gs.length → J (i + 1) W → YieldAt Fence.wide (m - 1) Tryz.prog l #[.int .i64 ((i : Nat) : Int), .agg (padV (bkL (stepE n hs.n x) (gs.drop i))).toArray] W fun e W' => e = .returned (.bool true) ∧ J i W' ∧ Ky W W' A l)
    (h0 : J gs.length W0) :
    CallsIn Fence.wide m Tryz.prog 97 #[.func (.yield l) #[] #[], .pointer (some ⟨Bp, 0, none⟩), .pointer (some ⟨Bt, 0, none⟩), .pointer (some ⟨Bw, 0, none⟩)] W0 fun e W' => (∃ v, e = .returned v) ∧ J 0 W' ∧ TabIn W' base tg mg (N0 + 16000) n hs hl ∧ Kp W0 W' mg A l := by
  obtain ⟨pa, pn, pc⟩ := hp
  obtain ⟨xr, xm, xf, xc⟩ := x
  obtain ⟨hpl0, hp9⟩ := hB.pts.len
  have hpl : pn = gs.length := hpl0
  clear hpl0
  obtain ⟨f60, f120, f40, f10⟩ := hB.few
  have HB := Lib.hid hB
  have HPL := Lib.hid hpl
  have hpn : pn ≤ 60 := by omega
  have hW0 : mg < W0.heap.size := hB.tab.mg_lt
  have htgs : tg < W0.heap.size := box_lt hB.tab.box
  have HBK0 : Hid (BK W0 (W0.alloc (arrO [])) base tg mg N0 A l W0.heap.size n hs hl (J pn) []) :=
    ⟨hB.tab.below ((Below.refl _ _).alloc (Nat.le_refl _) _), box_new _ _, ⟨rfl, rfl, rfl, by simp, fun k hk _ _ _ => Below.heap_alloc W0 _ k hk⟩, hJ _ _ _ (by rw [hpl]; exact h0) (Kq.of_chg (Chg.of_below ((Below.refl _ _).alloc (Nat.le_refl _) _) mg none) (Nat.le_refl _)), ⟨⟨hB.off.1.same (Below.heap_alloc W0 _ mg hW0), hB.off.2.same (Below.heap_alloc W0 _ mg hW0)⟩, hB.lt.1, hB.lt.2, hB.ne.2.2.2.1, hB.ne.2.2.2.2⟩⟩
  have hc0 : W0.cell? ⟨Bp, 0, none⟩ = some (.slice pa pn pc) := (box_cell hB.bp 0).1
  have hbp9 : Bp < W0.heap.size := box_lt hB.bp
  refine callsIn_of_wp Tryz.func97 rfl trivial ?_ rfl
  simp only [Tryz.ntmps97, List.size_toArray, List.length_cons, List.length_nil, Nat.reduceAdd, Nat.reduceSub, Array.replicate_succ, Array.replicate_zero, List.push_toArray, List.append_toArray, List.nil_append, List.cons_append]
  have hst : ∀ a b, stepE n hs.n ⟨xr, xm, xf, xc⟩ a b ≤ 15461868568576 := fun a b => (stepE_in hB.ok hB.tab.netIn.s.hlen f60 (by have := hB.tab.netIn.l.hlen; omega) _ a b).2
  have HST0 : Hid (∀ a b, -1 ≤ stepE n hs.n ⟨xr, xm, xf, xc⟩ a b ∧ stepE n hs.n ⟨xr, xm, xf, xc⟩ a b ≤ 15461868568576) := fun a b => stepE_in hB.ok hB.tab.netIn.s.hlen f60 (by have := hB.tab.netIn.l.hlen; omega) _ a b
  have HLV : Hid (∀ i, ∀ v ∈ bkL (stepE n hs.n ⟨xr, xm, xf, xc⟩) (gs.drop i), -1 ≤ v ∧ v ≤ 1000000000000000) := by
    intro i v hv
    have h1 := bkL_in (stepE n hs.n ⟨xr, xm, xf, xc⟩) 15461868568576 (by omega) hst (gs.drop i) (fun r hr => (HB.out.rows r (List.mem_of_mem_drop hr)).1) v hv
    have h2 : (gs.drop i).length ≤ 60 := by simp; omega
    omega
  obtain ⟨st, hste⟩ : ∃ st, stepE n hs.n ⟨xr, xm, xf, xc⟩ = st := ⟨_, rfl⟩
  rw [hste] at HLV hY HST0
  have HSTE := Lib.hid hste
  have HBW : Hid (base ≤ W0.heap.size) := by have := HB.out.bs.1; have := HB.out.lt.1; show _ ≤ _; omega
  clear hB hpl h0 hp9 hst hste
  have hf1 : Fence.wide.fn 99 := trivial
  have hf2 : Fence.wide.fn 98 := trivial
  have hf3 : Fence.wide.fn 57 := trivial
  gi_wp2
  have ez : (W0.alloc (.cells #[.int .i64 0, .int .i64 0, .int .i64 0, .int .i64 0, .int .i64 0, .int .i64 0, .int .i64 0, .int .i64 0, .int .i64 0, .int .i64 0, .int .i64 0, .int .i64 0, .int .i64 0, .int .i64 0, .int .i64 0, .int .i64 0] 139)) = W0.alloc (arrO []) := rfl
  rw [ez]
  clear ez
  obtain ⟨W1, hW1⟩ : ∃ W1, W0.alloc (arrO []) = W1 := ⟨_, rfl⟩
  rw [hW1] at HBK0 ⊢
  have hsz1 : W1.heap.size = W0.heap.size + 1 := by rw [← hW1]; simp
  have HSZ1 := Lib.hid hsz1
  clear hW1 hsz1 hc0
  obtain ⟨Bn, hBn⟩ : ∃ Bn, W0.heap.size = Bn := ⟨_, rfl⟩
  have HBN := Lib.hid hBn
  rw [hBn] at HBK0 hW0 htgs hbp9 ⊢
  clear hBn
  gi_loopw [6] (fun i wr => ∃ z N, i = .int .i64 z ∧ -1 ≤ z ∧ z < (pn : Int) ∧ N ≤ N0 + (pn - (z + 1).toNat) * 256 ∧ Hid (BK W0 wr base tg mg N A l Bn n hs hl (J (z + 1).toNat) (bkL st (gs.drop (z + 1).toNat)))) (fun i _ => (intOf i + 1).toNat)
  case atStart =>
    refine ⟨(pn : Int) - 1, N0, rfl, by omega, by omega, by omega, ?_⟩
    have e : ((pn : Int) - 1 + 1).toNat = pn := by omega
    rw [e, List.drop_of_length_le (by rw [← HPL.out]; exact Nat.le_refl _)]
    exact HBK0.out
  case round =>
    clear HBK0 HSZ1
    obtain ⟨z, N, rfl, z0, z1, hNN, HK⟩ := hrel
    by_cases hz : 0 ≤ z
    · obtain ⟨i, rfl⟩ : ∃ i : Nat, z = i := ⟨z.toNat, by omega⟩
      have e1 : ((i : Int) + 1).toNat = i + 1 := by omega
      rw [e1] at hNN HK
      have hi : i < pn := by omega
      have hii : (i : Int) < (pn : Int) := by omega
      clear e1 z0 z1
      have HK1 := Lib.hid (HK.out.below (hJ _) ((Below.refl _ _).alloc (Nat.le_refl _) (arrO [])) (by omega))
      have hks : Bn < wr.heap.size := box_lt HK.out.nxt
      obtain ⟨cp, ct, cx, -⟩ := HB.out.cells HK.out.kp
      obtain ⟨pb, po, rh, g, e1, hpb, hg, hrw⟩ := HB.out.row (show i < pn from hi)
      have e1 : pa = _ := e1
      subst e1
      obtain ⟨ra, rn, rc⟩ := rh
      have HRW := Lib.hid hrw
      obtain ⟨hrc, hgq⟩ := hrw _ HK.out.kp
      have hpb1 : pb < Bn := by have := HB.out.wa.size; have := HBN.out; omega
      have hpb : pb < wr.heap.size := by omega
      clear hrw
      have hbpr : Bp < wr.heap.size := by omega
      have HG := Lib.hid hg
      have HRN : Hid (rn = g.length) := hgq.hlen
      have hrn : rn ≤ 16 := by
        have h1 := (HB.out.rows g (List.mem_of_getElem? hg)).2
        have h2 : rn = g.length := hgq.hlen
        omega
      have hr16 : rn ≤ 9223372036854775807 := by omega
      clear hg hgq cx ct
      gi_wp2
      have ez : (wr.alloc (.cells #[.int .i64 0, .int .i64 0, .int .i64 0, .int .i64 0, .int .i64 0, .int .i64 0, .int .i64 0, .int .i64 0, .int .i64 0, .int .i64 0, .int .i64 0, .int .i64 0, .int .i64 0, .int .i64 0, .int .i64 0, .int .i64 0] 139)) = wr.alloc (arrO []) := rfl
      rw [ez]
      clear ez
      have HG1 := Lib.hid (box_new wr (arrO []))
      obtain ⟨g1, hg1⟩ : ∃ g1, wr.heap.size = g1 := ⟨_, rfl⟩
      obtain ⟨W2, hW2⟩ : ∃ W2, wr.alloc (arrO []) = W2 := ⟨_, rfl⟩
      rw [hW2] at HK1 HG1 ⊢
      rw [hg1] at HG1 hks hpb hbpr ⊢
      have HLI : Hid (∃ nxt, bkL st (gs.drop i) = g.map (bkAt st g nxt) ∧ (i + 1 = pn → nxt = none) ∧ (∀ h, gs[i + 1]? = some h → nxt = some (h.zip (bkL st (gs.drop (i + 1)))))) := by
        have e : gs.drop i = g :: gs.drop (i + 1) := drop_at HG.out
        cases hd : gs.drop (i + 1) with
        | nil =>
          refine ⟨none, by rw [e, hd]; rfl, fun _ => rfl, fun h hh => ?_⟩
          rw [drop_at hh] at hd; cases hd
        | cons h rest =>
          refine ⟨some (h.zip (bkL st (h :: rest))), by rw [e, hd]; rfl, fun hp => ?_, fun h2 hh => ?_⟩
          · have := congrArg List.length hd
            have h3 := HPL.out
            simp at this; omega
          · rw [drop_at hh] at hd
            cases hd; rfl
      obtain ⟨nxt, hli, hn1, hn2⟩ := HLI.out
      have HN1 := Lib.hid hn1
      have HN2 := Lib.hid hn2
      have HLL : Hid (bkL st (gs.drop i) = g.map (bkAt st g nxt)) := hli
      clear hli hn1 hn2 HLI HK hW2 hg1
      have hg0 : Bn < g1 := hks
      gi_loopw [26] (fun c wq => ∃ kk N1, c = .int .i64 ((kk : Nat) : Int) ∧ kk ≤ rn ∧ N1 ≤ N + kk * 16 ∧ Hid (BK W0 wq base tg mg N1 A l Bn n hs hl (J (i + 1)) (bkL st (gs.drop (i + 1)))) ∧ Hid (wq.heap[g1]? = some (arrO ((g.map (bkAt st g nxt)).take kk)))) (fun c _ => rn - (intOf c).toNat)
      case atStart => exact ⟨0, N, by go_num, by omega, by omega, HK1.out, by rw [List.take_zero]; exact HG1.out⟩
      case round =>
        clear HK1 HG1 hrc cp hpb hbpr
        obtain ⟨kk, N1, rfl, hkk, hN1, HK, HA1⟩ := hrel
        by_cases hlk : kk < rn
        · obtain ⟨hrc, hgq⟩ := HRW.out _ HK.out.kp
          obtain ⟨b1, o1, p, e2, hbl1, hp, p0, p1⟩ := pnt_at hgq hlk
          have e2 : ra = _ := e2
          subst e2
          have HPK := Lib.hid hp
          have hki : (kk : Int) < (rn : Int) := by omega
          obtain ⟨ps, pq⟩ := p
          have hmem := List.mem_of_getElem? hp
          have hpe := ptE_of (HB.out.rows g (List.mem_of_getElem? HG.out)).1 hmem
          obtain ⟨ow, how⟩ : ∃ ow, (sqE g ps).1 = ow := ⟨_, rfl⟩
          have hob : 0 ≤ ow ∧ ow ≤ 1099511627776 := by
            obtain ⟨q, q1, -, q3⟩ := sqE_mem g ps (sqE_of g _ hmem)
            have := (HB.out.rows g (List.mem_of_getElem? HG.out)).1 q q1
            omega
          have HOW := Lib.hid how
          have hg1w : g1 < wr.heap.size := box_lt HA1.out
          have hlt16 : ((g.map (bkAt st g nxt)).take kk).length < 16 := by
            rw [List.length_take, List.length_map, ← HRN.out]; omega
          have HTL : Hid (((g.map (bkAt st g nxt)).take kk).length = kk) := by
            show _ = _
            rw [List.length_take, List.length_map, ← HRN.out]; omega
          have HSN : Hid ((g.map (bkAt st g nxt)).take (kk + 1) = (g.map (bkAt st g nxt)).take kk ++ [bkAt st g nxt ⟨ps, pq⟩]) := take_at (by rw [List.getElem?_map, hp]; rfl)
          obtain ⟨cp, ct, cx, -⟩ := HB.out.cells HK.out.kp
          obtain ⟨v0, n0, n1⟩ := arr_cell HA1.out (by omega) (show kk < 16 by omega)
          have hbg : Bp < g1 := by omega
          have hbg2 : Bp ≠ g1 := by omega
          have hpg : pb ≠ g1 := by omega
          have hbpw : Bp < wr.heap.size := by omega
          have hpbw : pb < wr.heap.size := by omega
          clear hp hmem hpe how hgq
          by_cases hnx : i + 1 = pn
          · have hd9 : decide ((i : Int) + 1 < (pn : Int)) = false := decide_eq_false (by omega)
            have hnn := HN1.out hnx
            subst hnn
            have HKS := Lib.hid ((HK.out.set (i := kk) (v := .int .i64 (-1)) (hJ _) HA1.out (by rw [HBN.out]; omega) (by have := HBW.out; have := HBN.out; omega) (by omega) (by omega) (by omega)).below (hJ _) ((Below.refl _ _).alloc (Nat.le_refl _) (.cells #[.int .i64 ps, .int .i64 pq] 141)) (by omega))
            have HAS : Hid ((wr.setCell ⟨g1, kk, none⟩ (.int .i64 (-1))).heap[g1]? = some (arrO ((g.map (bkAt st g none)).take kk ++ [-1]))) := by
              have := arr_set (x := -1) HA1.out hlt16
              rw [HTL.out] at this; exact this
            have HAS2 := Lib.hid (box_alloc (o := .cells #[.int .i64 ps, .int .i64 pq] 141) HAS.out)
            gi_wp2_with (gi_at_call 99; go_loud (refine (callsIn_wide.2 (vown_any (some ⟨b1, o1, none⟩) rn rc g kk ⟨ps, pq⟩ _ (HRW.out _ HKS.out.kp).2 hlk HPK.out)).mono ?_); rintro e w7 ⟨rfl, hb7⟩; rw [HOW.out]; have HK7 := Lib.hid (HKS.out.below (hJ _) hb7 (by omega)); have HA7 := Lib.hid (box_below HAS2.out hb7); obtain ⟨v7, m0, m1⟩ := arr_cell HA7.out (by have := HTL.out; rw [List.length_append]; simp; omega) (show kk < 16 by omega); have hg7 : g1 < w7.heap.size := box_lt HA7.out; clear hb7)
            go_roundw
            case rel =>
              refine ⟨kk + 1, N1, by go_num, by omega, by omega, HK7.out.set (hJ _) HA7.out (by rw [HBN.out]; omega) (by have := HBW.out; have := HBN.out; omega) (by omega) (by omega) (by omega), ?_⟩
              have e : bkAt st g none ⟨ps, pq⟩ = ow := by
                show (if (0 : Int) ≤ 0 then 0 + (sqE g ps).1 else -1) = _
                rw [if_pos (by omega), HOW.out]; omega
              rw [HSN.out, e]
              have := arr_reset (x := ow) HA7.out hlt16
              rw [HTL.out] at this; exact this
            case measure => simp [intOf] <;> omega
          · have hnx2 : i + 1 < pn := by omega
            have hd9 : decide ((i : Int) + 1 < (pn : Int)) = true := decide_eq_true (by omega)
            have hi1 : (i : Int) + 1 < (pn : Int) := by omega
            have hi2 : ((i : Int) + 1).toNat = i + 1 := by omega
            have hi3 : 0 ≤ (i : Int) + 1 := by omega
            obtain ⟨pb', po', rh2, h2, e3, -, hh2, hrw2⟩ := HB.out.row (show i + 1 < pn from hnx2)
            cases e3
            obtain ⟨qa, qn, qc⟩ := rh2
            have HR2 := Lib.hid hrw2
            obtain ⟨hrc2, hq2⟩ := hrw2 _ HK.out.kp
            have hq16 : qn ≤ 16 := by
              have h1 := (HB.out.rows h2 (List.mem_of_getElem? hh2)).2
              have h3 : qn = h2.length := hq2.hlen
              omega
            have hq9 : qn ≤ 9223372036854775807 := by omega
            have HQN : Hid (qn = h2.length) := hq2.hlen
            have hn2 := HN2.out h2 hh2
            subst hn2
            have HH2 := Lib.hid hh2
            clear hrw2 hq2 hh2
            gi_wp2
            have HK4 := Lib.hid (HK.out.below (hJ _) ((Below.refl _ _).alloc (Nat.le_refl _) (.cells #[.int .i64 ps, .int .i64 pq] 141)) (by omega))
            have HA4 := Lib.hid (box_alloc (o := .cells #[.int .i64 ps, .int .i64 pq] 141) HA1.out)
            have HX4 := Lib.hid (box_new wr (.cells #[.int .i64 ps, .int .i64 pq] 141))
            obtain ⟨gp, hgp⟩ : ∃ gp, wr.heap.size = gp := ⟨_, rfl⟩
            obtain ⟨W4, hW4⟩ : ∃ W4, wr.alloc (.cells #[.int .i64 ps, .int .i64 pq] 141) = W4 := ⟨_, rfl⟩
            rw [hW4] at HK4 HA4 HX4 ⊢
            rw [hgp] at HX4 hg1w hbpw hpbw ⊢
            obtain ⟨nx, hnx9⟩ : ∃ nx, bkL st (gs.drop (i + 1)) = nx := ⟨_, rfl⟩
            obtain ⟨B, hB9⟩ : ∃ B, bkBest st ps (h2.zip nx) (-1) = B := ⟨_, rfl⟩
            have HNX := Lib.hid hnx9
            have HBB := Lib.hid hB9
            have HNL : Hid (nx.length = h2.length) := by
              show _ = _
              rw [← hnx9, bkL_len, drop_at HH2.out]; rfl
            rw [hnx9] at HK4
            clear hW4 hgp hnx9 hB9 HK HA1 cp ct cx n0 n1 hrc hrc2
            gi_loopw [10, 42] (fun b c wr => ∃ jj N2 bb, c = .int .i64 ((jj : Nat) : Int) ∧ jj ≤ qn ∧ b = .int .i64 bb ∧ -1 ≤ bb ∧ bb ≤ 1100000000000000 ∧ N2 ≤ N1 + jj ∧ Hid (bkBest st ps ((h2.zip nx).drop jj) bb = B) ∧ Hid (BK W0 wr base tg mg N2 A l Bn n hs hl (J (i + 1)) nx) ∧ Hid (wr.heap[g1]? = some (arrO ((g.map (bkAt st g (some (h2.zip (bkL st (gs.drop (i + 1))))))).take kk))) ∧ Hid (wr.heap[gp]? = some (.cells #[.int .i64 ps, .int .i64 pq] 141 (0, 0)))) (fun _ c _ => qn - (intOf c).toNat)
            case atStart => exact ⟨0, N1, -1, by go_num, by omega, rfl, by omega, by omega, by omega, by rw [List.drop_zero]; exact HBB.out, HK4.out, HA4.out, HX4.out⟩
            case round =>
              clear HK4 HA4 HX4
              obtain ⟨jj, N2, bb, rfl, hjj, rfl, bb0, bb1, hN2, HBK, HK, HA1, HX⟩ := hrel
              by_cases hlj : jj < qn
              · obtain ⟨-, hq2⟩ := HR2.out _ HK.out.kp
                obtain ⟨b2, o2, q, e4, hbl2, hqq, q0, q1⟩ := pnt_at hq2 hlj
                have e4 : qa = _ := e4
                subst e4
                obtain ⟨qs, qv⟩ := q
                have hjn : jj < nx.length := by have := HNL.out; have := HQN.out; omega
                obtain ⟨v, hv⟩ : ∃ v, nx[jj]? = some v := ⟨_, List.getElem?_eq_getElem hjn⟩
                have hvb : -1 ≤ v ∧ v ≤ 1000000000000000 := HLV.out (i + 1) v (by rw [HNX.out]; exact List.mem_of_getElem? hv)
                have hz : (h2.zip nx)[jj]? = some (⟨qs, qv⟩, v) := by
                  rw [List.getElem?_zip_eq_some]; exact ⟨hqq, hv⟩
                obtain ⟨sv, hsv⟩ : ∃ sv, st ps qs = sv := ⟨_, rfl⟩
                have hsb := HST0.out ps qs
                rw [hsv] at hsb
                have HSV := Lib.hid hsv
                have hbk := HBK.out
                rw [drop_at hz] at hbk
                have hbk : bkBest st ps ((h2.zip nx).drop (jj + 1)) (if 0 ≤ st ps qs ∧ 0 ≤ v then lessE bb (st ps qs + v) else bb) = B := hbk
                rw [hsv] at hbk
                have HBK1 := Lib.hid hbk
                have HV := Lib.hid hv
                have hjI : (jj : Int) < (qn : Int) := by omega
                have hj16 : (jj : Int) < 16 := by omega
                obtain ⟨-, ct, cx, -⟩ := HB.out.cells HK.out.kp
                obtain ⟨x0, x1, x2, x3⟩ := box4_cells cx
                obtain ⟨y0, y1, -, -⟩ := box2_cells HX.out
                have hgpw : gp < wr.heap.size := box_lt HX.out
                have hbtw : Bt < wr.heap.size := World.block_lt_of_cell? wr _ ct
                have hbww : Bw < wr.heap.size := World.block_lt_of_cell? wr _ x0
                have HK5 := Lib.hid (HK.out.below (hJ _) ((Below.refl _ _).alloc (Nat.le_refl _) (.cells #[.int .i64 qs, .int .i64 qv] 141)) (by omega))
                have HA5 := Lib.hid (box_alloc (o := .cells #[.int .i64 qs, .int .i64 qv] 141) HA1.out)
                have HX5 := Lib.hid (box_alloc (o := .cells #[.int .i64 qs, .int .i64 qv] 141) HX.out)
                clear hqq hv hz hsv hbk hq2 cx HBK HK HA1 HX
                by_cases hs0 : 0 ≤ sv
                · by_cases hv0 : 0 ≤ v
                  · have HIF : Hid (bkBest st ps ((h2.zip nx).drop (jj + 1)) (lessE bb (sv + v)) = B) := by
                      have := HBK1.out
                      rw [if_pos ⟨hs0, hv0⟩] at this; exact this
                    obtain ⟨lb, hlb⟩ : ∃ lb, lessE bb (sv + v) = lb := ⟨_, rfl⟩
                    have hlbb : -1 ≤ lb ∧ lb ≤ 1100000000000000 := by rw [← hlb]; unfold lessE; split <;> omega
                    have HLB := Lib.hid hlb
                    rw [hlb] at HIF
                    clear hlb
                    gi_wp2_with (first
                      | (gi_at_call 57; go_loud (refine (callsIn_wide.2 (cstep_gen _ base tg mg N2 n hs hl ⟨xr, xm, xf, xc⟩ ps qs HK5.out.tab HB.out.ok f60 f120 (by omega) HB.out.ne.1)).mono ?_); rintro e w6 ⟨rfl, ht6, hc6⟩; rw [HSTE.out, HSV.out]; have HK6 := Lib.hid (HK5.out.chg (hJ _) ht6 hc6 (by omega)); have HA6 := Lib.hid (hc6.chg.box HA5.out (by omega) (by simp)); have HX6 := Lib.hid (hc6.chg.box HX5.out (by omega) (by simp)); have n6 := arr_int HK6.out.nxt HV.out; have hb6 : Bn < w6.heap.size := box_lt HK6.out.nxt; clear ht6 hc6)
                      | (gi_at_call 98; go_loud (refine (callsIn_wide.2 (vless_any bb (sv + v) _)).mono ?_); rintro e w7 ⟨rfl, hb7⟩; rw [HLB.out]; have HK7 := Lib.hid (HK6.out.below (hJ _) hb7 (by omega)); have HA7 := Lib.hid (box_below HA6.out hb7); have HX7 := Lib.hid (box_below HX6.out hb7); clear hb7))
                    go_roundw
                    case rel => exact ⟨jj + 1, N2 + 1, lb, by go_num, by omega, rfl, by omega, by omega, by omega, HIF.out, HK7.out, HA7.out, HX7.out⟩
                    case measure => simp [intOf] <;> omega
                  · have HIF : Hid (bkBest st ps ((h2.zip nx).drop (jj + 1)) bb = B) := by
                      have := HBK1.out
                      rw [if_neg (by omega)] at this; exact this
                    have hdv : decide (0 ≤ v) = false := decide_eq_false hv0
                    gi_wp2_with (first
                      | (gi_at_call 57; go_loud (refine (callsIn_wide.2 (cstep_gen _ base tg mg N2 n hs hl ⟨xr, xm, xf, xc⟩ ps qs HK5.out.tab HB.out.ok f60 f120 (by omega) HB.out.ne.1)).mono ?_); rintro e w6 ⟨rfl, ht6, hc6⟩; rw [HSTE.out, HSV.out]; have HK6 := Lib.hid (HK5.out.chg (hJ _) ht6 hc6 (by omega)); have HA6 := Lib.hid (hc6.chg.box HA5.out (by omega) (by simp)); have HX6 := Lib.hid (hc6.chg.box HX5.out (by omega) (by simp)); have n6 := arr_int HK6.out.nxt HV.out; have hb6 : Bn < w6.heap.size := box_lt HK6.out.nxt; clear ht6 hc6))
                    go_roundw
                    case rel => exact ⟨jj + 1, N2 + 1, bb, by go_num, by omega, rfl, by omega, by omega, by omega, HIF.out, HK6.out, HA6.out, HX6.out⟩
                    case measure => simp [intOf] <;> omega
                · have HIF : Hid (bkBest st ps ((h2.zip nx).drop (jj + 1)) bb = B) := by
                    have := HBK1.out
                    rw [if_neg (by omega)] at this; exact this
                  have hds : decide (0 ≤ sv) = false := decide_eq_false hs0
                  gi_wp2_with (first
                    | (gi_at_call 57; go_loud (refine (callsIn_wide.2 (cstep_gen _ base tg mg N2 n hs hl ⟨xr, xm, xf, xc⟩ ps qs HK5.out.tab HB.out.ok f60 f120 (by omega) HB.out.ne.1)).mono ?_); rintro e w6 ⟨rfl, ht6, hc6⟩; rw [HSTE.out, HSV.out]; have HK6 := Lib.hid (HK5.out.chg (hJ _) ht6 hc6 (by omega)); have HA6 := Lib.hid (hc6.chg.box HA5.out (by omega) (by simp)); have HX6 := Lib.hid (hc6.chg.box HX5.out (by omega) (by simp)); clear ht6 hc6))
                  go_roundw
                  case rel => exact ⟨jj + 1, N2 + 1, bb, by go_num, by omega, rfl, by omega, by omega, by omega, HIF.out, HK6.out, HA6.out, HX6.out⟩
                  case measure => simp [intOf] <;> omega
              · have hjq : qn = jj := by omega
                subst hjq
                have hbB : bb = B := by
                  have := HBK.out
                  rw [List.drop_of_length_le (by rw [List.length_zip]; have := HQN.out; omega)] at this
                  exact this
                subst hbB
                obtain ⟨cp, -, -, -⟩ := HB.out.cells HK.out.kp
                obtain ⟨hrc, -⟩ := HRW.out _ HK.out.kp
                obtain ⟨v0, n0, n1⟩ := arr_cell HA1.out (by omega) (show kk < 16 by omega)
                have hbpw2 : Bp < wr.heap.size := World.block_lt_of_cell? wr _ cp
                have hpbw2 : pb < wr.heap.size := World.block_lt_of_cell? wr _ hrc
                have HKS := Lib.hid (HK.out.set (i := kk) (v := .int .i64 (-1)) (hJ _) HA1.out (by rw [HBN.out]; omega) (by have := HBW.out; have := HBN.out; omega) (by omega) (by omega) (by omega))
                have HAS : Hid ((wr.setCell ⟨g1, kk, none⟩ (.int .i64 (-1))).heap[g1]? = some (arrO ((g.map (bkAt st g (some (h2.zip (bkL st (gs.drop (i + 1))))))).take kk ++ [-1]))) := by
                  have := arr_set (x := -1) HA1.out hlt16
                  rw [HTL.out] at this; exact this
                have HAT : Hid (bkAt st g (some (h2.zip (bkL st (gs.drop (i + 1))))) ⟨ps, pq⟩ = if 0 ≤ bb then bb + ow else -1) := by
                  have hb := HBB.out
                  rw [← HNX.out] at hb
                  show (if 0 ≤ bkBest st ps (h2.zip (bkL st (gs.drop (i + 1)))) (-1) then bkBest st ps (h2.zip (bkL st (gs.drop (i + 1)))) (-1) + (sqE g ps).1 else -1) = _
                  rw [hb, HOW.out]
                have hg1w2 : g1 < wr.heap.size := box_lt HA1.out
                clear HA1
                by_cases hb0 : 0 ≤ bb
                · gi_wp2_with (gi_at_call 99; go_loud (refine (callsIn_wide.2 (vown_any (some ⟨b1, o1, none⟩) rn rc g kk ⟨ps, pq⟩ _ (HRW.out _ HKS.out.kp).2 hlk HPK.out)).mono ?_); rintro e w7 ⟨rfl, hb7⟩; rw [HOW.out]; have HK7 := Lib.hid (HKS.out.below (hJ _) hb7 (by omega)); have HA7 := Lib.hid (box_below HAS.out hb7); obtain ⟨v7, m0, m1⟩ := arr_cell HA7.out (by have := HTL.out; rw [List.length_append]; simp; omega) (show kk < 16 by omega); have hg7 : g1 < w7.heap.size := box_lt HA7.out; clear hb7)
                  go_roundw
                  case rel =>
                    refine ⟨kk + 1, N2, by go_num, by omega, by omega, ?_, ?_⟩
                    · rw [HNX.out]
                      exact HK7.out.set (hJ _) HA7.out (by rw [HBN.out]; omega) (by have := HBW.out; have := HBN.out; omega) (by omega) (by omega) (by omega)
                    · rw [HSN.out, HAT.out, if_pos hb0]
                      have := arr_reset (x := bb + ow) HA7.out hlt16
                      rw [HTL.out] at this; exact this
                  case measure => simp [intOf] <;> omega
                · have hdb : decide (0 ≤ bb) = false := decide_eq_false hb0
                  gi_wp2
                  go_roundw
                  case rel =>
                    refine ⟨kk + 1, N2, by go_num, by omega, by omega, by rw [HNX.out]; exact HKS.out, ?_⟩
                    rw [HSN.out, HAT.out, if_neg (by omega)]
                    exact HAS.out
                  case measure => simp [intOf] <;> omega
        · have hkn : rn = kk := by omega
          have HTK : Hid ((g.map (bkAt st g nxt)).take kk = bkL st (gs.drop i)) := by
            show _ = _
            rw [HLL.out, List.take_of_length_le (by rw [List.length_map, ← HRN.out]; omega)]
          have hA1 := HA1.out
          rw [HTK.out] at hA1
          have HA := Lib.hid hA1
          obtain ⟨LI, hLI⟩ : ∃ LI, bkL st (gs.drop i) = LI := ⟨_, rfl⟩
          have HLE := Lib.hid hLI
          have hlen : LI.length ≤ 16 := by
            rw [← hLI, HLL.out, List.length_map, ← HRN.out]; omega
          have hy := hY i wr (by rw [← HPL.out]; exact hi) HK.out.j
          rw [hLI] at HA hy
          have HAL : Hid (A < Bn ∧ l < Bn) := by have := HB.out.lt; have := HBN.out; show _ ∧ _; omega
          clear hA1 hLI HTK HA1
          obtain ⟨fn, tmps, assign, body, hyr, hR⟩ := hy
          gi_wp2_with (with_reducible refine wpListIn_load_mid rfl 139 (.tmp 7) rfl g1 0 rfl (padV LI) _ (arr_range HA.out) Tryz.underlying139 rfl (by rw [padV_len hlen]; exact infoLeft) ?_)
          refine hR.mono ?_
          rintro e W3 ⟨rfl, hj3, hk3⟩
          have HK3 := Lib.hid (HK.out.yields hj3 hk3 HB.out.bs ⟨HB.out.ne.2.1, HB.out.ne.2.2.1⟩ (by have := HAL.out; omega))
          have HA3 : Hid (W3.heap[g1]? = some (arrO LI)) := (hk3.block g1 (box_lt HA.out) (by have := HAL.out; omega) (by have := HAL.out; omega)).trans HA.out
          clear hj3 hk3 hR hyr
          have HNL : Hid ((bkL st (gs.drop (i + 1))).length ≤ 16) := by
            show _ ≤ _
            rw [bkL_len]
            cases hd : gs.drop (i + 1) with
            | nil => simp
            | cons h rest => exact (HB.out.rows h (List.mem_of_mem_drop (by rw [hd]; simp))).2
          have HSZ : Hid ((padV LI).toArray.size = 16) := by show _ = _; rw [List.size_toArray, padV_len hlen]
          gi_wp2_with (first
            | (with_reducible refine wpListIn_load_mid rfl 139 (.tmp 7) rfl g1 0 rfl (padV LI) _ (arr_range HA3.out) Tryz.underlying139 rfl (by rw [padV_len hlen]; exact infoLeft) ?_)
            | (with_reducible refine wpListIn_store_mid rfl 139 (.tmp 5) (.tmp 90) rfl Bn 0 (padV LI).toArray rfl rfl (arr_there HK3.out.nxt HNL.out (by rw [HSZ.out]; omega)) (by rw [HSZ.out]; exact infoLeft) (all_oneCell_toArray (padV_one LI)) ?_))
          go_roundw
          case rel =>
            refine ⟨(i : Int) - 1, N1, rfl, by omega, by omega, ?_, ?_⟩
            · have e : ((i : Int) - 1 + 1).toNat = i := by omega
              rw [e]; omega
            · have e : ((i : Int) - 1 + 1).toNat = i := by omega
              rw [e, HLE.out]
              exact HK3.out.sets (hJ _) (by rw [HBN.out]; exact Nat.le_refl _) (by have := HBW.out; have := HBN.out; omega) (by omega) (by omega) HNL.out hlen
          case measure => simp [intOf] <;> omega
    · have hz1 : z = -1 := by omega
      subst hz1
      gi_wp2
      go_end0
      have hk := HK.out
      have e0 : ((-1 : Int) + 1).toNat = 0 := rfl
      rw [e0] at hk hNN
      exact ⟨⟨_, rfl⟩, hk.j, hk.tab.upto (by omega), hk.kp⟩
end Go.Proofs.YtlfbbahihenilaaGreat.Ne
