/- Fares: a month's bill, by the reference. -/
import Derived.Test.YtgdhlhjflbinmaaFaM
import Derived.Test.YtgdhlhjflbinmaaFaK
import Derived.StillTailTactics
import Derived.Deep.AppendLies
import Derived.Deep.RegionLaw
namespace Go.Proofs.Ytgdhlhjflbinmaa
open Go.RowKit Go.V Go.Proofs

theorem own_push {α : Type} {e : TypeId} {c : Cod α} {base : Nat} {w w' : World} {v : Value} {xs : List α} {o : Obj} (hh : w'.heap = w.heap.push o) (h : V.Own e c base w v xs) : V.Own e c base w' v xs := by
  obtain ⟨h1, h2⟩ := h
  refine ⟨h1, ?_⟩
  rcases h2 with h2 | ⟨g, cap, cur, h2, h3, h4, h5⟩
  · exact .inl h2
  · refine .inr ⟨g, cap, cur, h2, h3, ?_, h5⟩
    have h6 := (Array.getElem?_eq_some_iff.1 h4).1
    rw [hh, Array.getElem?_push, if_neg (by omega)]; exact h4
theorem row_push {e : TypeId} {k n base : Nat} {w w' : World} {v : Value} {cs : List Value} {o : Obj} (hh : w'.heap = w.heap.push o) (h : w.ownsRow base e k v n cs) : w'.ownsRow base e k v n cs := by
  obtain ⟨h1, h2⟩ := h
  refine ⟨h1, ?_⟩
  rcases h2 with h2 | ⟨g, cap, cur, h2, h3, h4, h5⟩
  · exact .inl h2
  · refine .inr ⟨g, cap, cur, h2, h3, ?_, h5⟩
    have h6 := (Array.getElem?_eq_some_iff.1 h4).1
    rw [hh, Array.getElem?_push, if_neg (by omega)]; exact h4
theorem monthE_all (t : Tar) (c : Int) (l : List Ride) (h : tarOk t = true) (hc : 0 ≤ c ∧ c < t.shares.length) : monthE t c l = if l.length ≤ 2048 then if RightP l then 0 else 2 else 3 := by
  have h2 := tarOk_all h
  unfold monthE groupsE
  rw [if_pos ⟨h, hc⟩]
  split
  · have e : GroupsP l t.window t.chain ↔ RightP l := ⟨fun q => q.1, fun q => ⟨q, h2.2.2.2.2.1, h2.2.2.2.2.2.1⟩⟩
    by_cases q : RightP l
    · rw [if_pos (e.2 q), if_pos q]
    · rw [if_neg (fun z => q (e.1 z)), if_neg q]
  · rfl

set_option maxHeartbeats 8000000 in
set_option maxRecDepth 100000 in
theorem rmonth_any (t : Tar) (hb hs hr : Hdr) (c : Int) (a : Option Addr) (n cap : Nat) (xs : List Ride) (w : World) (hm : hb.n ≤ 1000000 ∧ hs.n ≤ 1000000 ∧ hr.n ≤ 1000000) (hn : n ≤ 100000) (h : TarIn w t hb hs hr) (hx : Sl Ride.cod w a n cap xs) :
    Calls Try.prog 26 #[t.val hb hs hr, .int .i64 c, .slice a n cap] w fun e w' => ∃ v, e = .returned (.tuple #[v, .int .i64 (monthE t c xs)]) ∧ BillR w.heap.size w' v (billG t c xs) (billS t c xs) (billP t c xs) ∧ Below w.heap.size w w' := by
  have hns : hs.n = t.shares.length := h.s.hlen
  have hN := Lib.hid hx.hlen
  have TB0 : Hid (TarBox 26 ((w.alloc (t.box hb hs hr)).alloc (.cells #[.slice none 0 0, .int .i64 0, .int .i64 0] 61)) w.heap.size t hb hs hr) := box_alloc (box_new _ _)
  have RB0 : Hid (((w.alloc (t.box hb hs hr)).alloc (.cells #[.slice none 0 0, .int .i64 0, .int .i64 0] 61)).heap[w.heap.size + 1]? = some (.cells #[.slice none 0 0, .int .i64 0, .int .i64 0] 61 (0, 0))) := by
    have := box_new (w.alloc (t.box hb hs hr)) (.cells #[.slice none 0 0, .int .i64 0, .int .i64 0] 61)
    rwa [World.size_alloc] at this
  have B0 : Hid (Below w.heap.size w ((w.alloc (t.box hb hs hr)).alloc (.cells #[.slice none 0 0, .int .i64 0, .int .i64 0] 61))) := ((Below.refl _ _).alloc (Nat.le_refl _) _).alloc (by simp) _
  have HNS := Lib.hid hns
  clear hns
  have zero : ∀ W, BillR w.heap.size W (.agg #[.slice none 0 0, .int .i64 0, .int .i64 0]) [] 0 0 := fun W => ⟨none, 0, 0, [], rfl, OwnB.nil⟩
  unfold Tar.box at TB0 RB0 B0
  by_cases hP : MonthP t c
  case neg =>
    have hE : monthE t c xs = 2 := by unfold monthE; rw [if_neg hP]
    have hG : billG t c xs = [] := by unfold billG; rw [if_neg (by rw [hE]; decide)]
    have hS : billS t c xs = 0 := by unfold billS; rw [hG]; rfl
    have hPy : billP t c xs = 0 := by unfold billP; rw [if_neg (by rw [hE]; decide)]
    rw [hE, hG, hS, hPy]
    clear hE hG hS hPy
    obtain ⟨bb, hbb⟩ : ∃ bb, tarOk t = bb := ⟨_, rfl⟩
    unfold Tar.val
    go_enter Try.func26, Try.ntmps26
    cases bb with
    | false =>
      clear hP
      go_wp2_with (go_at_call 39; refine (rtarR_any t hb hs hr _ hm (h.below B0.out)).mono ?_; rintro e w1 ⟨rfl, hb1⟩; rw [hbb]; have HB1 := Lib.hid (B0.out.trans (hb1.mono B0.out.size)); have RB1 := Lib.hid (box_below RB0.out hb1); obtain ⟨r0, r1, r2, f0, f1, f2⟩ := box3_cells RB1.out; clear hb1)
      refine bodyPost_ret (results_row_tmp rfl _ _ (w.heap.size + 1) _ _ _ _ rfl (box3_set RB1.out _ _ _) Try.underlying61 rfl (by kernel_rfl)) rfl ?_
      exact ⟨_, ret_pair rfl, zero _, below_set3 HB1.out (by omega) _ _ _⟩
    | true =>
      have hcs : c < 0 ∨ (¬ c < 0 ∧ (hs.n : Int) ≤ c) := by
        by_cases q : c < 0
        · exact .inl q
        · refine .inr ⟨q, ?_⟩
          by_cases q2 : (hs.n : Int) ≤ c
          · exact q2
          · exact absurd ⟨hbb, by omega, by have := HNS.out; omega⟩ hP
      clear hP
      rcases hcs with q1 | ⟨q1, q2⟩
      all_goals
        go_wp2_with (go_at_call 39; refine (rtarR_any t hb hs hr _ hm (h.below B0.out)).mono ?_; rintro e w1 ⟨rfl, hb1⟩; rw [hbb]; have HB1 := Lib.hid (B0.out.trans (hb1.mono B0.out.size)); have RB1 := Lib.hid (box_below RB0.out hb1); obtain ⟨r0, r1, r2, f0, f1, f2⟩ := box3_cells RB1.out; obtain ⟨kk, k0, k1, k2, k3, k4, k5, k6, k7, k8⟩ := (TB0.out.below hb1).cells; clear hb1)
        refine bodyPost_ret (results_row_tmp rfl _ _ (w.heap.size + 1) _ _ _ _ rfl (box3_set RB1.out _ _ _) Try.underlying61 rfl (by kernel_rfl)) rfl ?_
        exact ⟨_, ret_pair rfl, zero _, below_set3 HB1.out (by omega) _ _ _⟩
  case pos =>
    have mixed : Try.prog.follows .mixedOrders = true := by kernel_rfl
    have hbb := hP.1
    have hc0 : ¬ c < 0 := by have := hP.2.1; omega
    have hc1 : ¬ (hs.n : Int) ≤ c := by have := hP.2.2; have := HNS.out; omega
    have hEE := monthE_all t c xs hbb hP.2
    have hE : monthE t c xs = groupsE xs t.window t.chain := by unfold monthE; rw [if_pos hP]
    obtain ⟨eg, heg⟩ : ∃ eg, groupsE xs t.window t.chain = eg := ⟨_, rfl⟩
    rw [heg] at hE
    rw [hE] at hEE
    by_cases hz : eg = 0
    case neg =>
      have hG : billG t c xs = [] := by unfold billG; rw [if_neg (by rw [hE]; exact hz)]
      have hS : billS t c xs = 0 := by unfold billS; rw [hG]; rfl
      have hPy : billP t c xs = 0 := by unfold billP; rw [if_neg (by rw [hE]; exact hz)]
      rw [hE, hG, hS, hPy]
      clear hE hG hS hPy hP heg
      unfold Tar.val
      by_cases hbig : 2048 < n
      · rw [if_neg (by have := hN.out; omega)] at hEE
        subst hEE
        clear hz
        go_enter Try.func26, Try.ntmps26
        go_wp2_with (go_at_call 39; refine (rtarR_any t hb hs hr _ hm (h.below B0.out)).mono ?_; rintro e w1 ⟨rfl, hb1⟩; rw [hbb]; have HB1 := Lib.hid (B0.out.trans (hb1.mono B0.out.size)); have RB1 := Lib.hid (box_below RB0.out hb1); obtain ⟨r0, r1, r2, f0, f1, f2⟩ := box3_cells RB1.out; obtain ⟨kk, k0, k1, k2, k3, k4, k5, k6, k7, k8⟩ := (TB0.out.below hb1).cells; clear hb1)
        refine bodyPost_ret (results_row_tmp rfl _ _ (w.heap.size + 1) _ _ _ _ rfl (box3_set RB1.out _ _ _) Try.underlying61 rfl (by kernel_rfl)) rfl ?_
        exact ⟨_, ret_pair rfl, zero _, below_set3 HB1.out (by omega) _ _ _⟩
      · rw [if_pos (by have := hN.out; omega)] at hEE
        have hnr : decide (RightP xs) = false := decide_eq_false (fun q => hz (by rw [hEE, if_pos q]))
        rw [if_neg (of_decide_eq_false hnr)] at hEE
        subst hEE
        clear hz
        go_enter Try.func26, Try.ntmps26
        go_wp2_with (first
          | (go_at_call 39; refine (rtarR_any t hb hs hr _ hm (h.below B0.out)).mono ?_; rintro e w1 ⟨rfl, hb1⟩; rw [hbb]; have HB1 := Lib.hid (B0.out.trans (hb1.mono B0.out.size)); have RB1 := Lib.hid (box_below RB0.out hb1); obtain ⟨kk, k0, k1, k2, k3, k4, k5, k6, k7, k8⟩ := (TB0.out.below hb1).cells; clear hb1)
          | (go_at_call 22; refine (rright_any a n cap xs _ (by omega) (hx.below HB1.out)).mono ?_; rintro e w2 ⟨rfl, hb2⟩; rw [hnr]; have HB2 := Lib.hid (HB1.out.trans (hb2.mono HB1.out.size)); have RB2 := Lib.hid (box_below RB1.out hb2); obtain ⟨r0, r1, r2, f0, f1, f2⟩ := box3_cells RB2.out; clear hb2))
        refine bodyPost_ret (results_row_tmp rfl _ _ (w.heap.size + 1) _ _ _ _ rfl (box3_set RB2.out _ _ _) Try.underlying61 rfl (by kernel_rfl)) rfl ?_
        exact ⟨_, ret_pair rfl, zero _, below_set3 HB2.out (by omega) _ _ _⟩
    case pos =>
      subst hz
      have hGP : GroupsP xs t.window t.chain := by
        unfold groupsE at heg
        split at heg
        · split at heg
          · assumption
          · cases heg
        · cases heg
      have hsmall : n ≤ 2048 := by have := hGP.1.1; have := hN.out; omega
      have hone := hGP.1.2.1
      have HONE := Lib.hid hone
      have hRP : decide (RightP xs) = true := decide_eq_true hGP.1
      have hgl := groups_le hGP.2.1.1 hGP.2.2.1 (window := t.window) (isort ltR xs)
      have hgf := groups_flat t.window t.chain (isort ltR xs)
      have hR : groupsR xs t.window t.chain = groupsOf t.window t.chain (isort ltR xs) := by unfold groupsR; rw [if_pos hGP]
      have hl : (isort ltR xs).length = n := by rw [(isort_perm xs).length_eq, ← hN.out]
      obtain ⟨G, hG⟩ : ∃ G, groupsOf t.window t.chain (isort ltR xs) = G := ⟨_, rfl⟩
      rw [hG] at hR hgl hgf
      rw [hl] at hgl
      have hGlen : G.length ≤ 2048 := by omega
      have hxin : ∀ x ∈ G, x.length ≤ n ∧ ∀ r ∈ x, oneB r = true := fun x hxg => by
        refine ⟨?_, fun r hr => hone r ((isort_perm xs).mem_iff.1 (by rw [← hgf]; exact List.mem_flatten.2 ⟨x, hxg, hr⟩))⟩
        have e3 : x.length ≤ G.flatten.length := (List.sublist_flatten_of_mem hxg).length_le
        rw [hgf, hl] at e3; exact e3
      have HXIN := Lib.hid hxin
      obtain ⟨ci, rfl⟩ : ∃ ci : Nat, c = ci := ⟨c.toNat, by have := hP.2.1; omega⟩
      have hci : ci < t.shares.length := by have := hP.2.2; omega
      obtain ⟨s, hs'⟩ : ∃ s, t.shares[ci]? = some s := ⟨t.shares[ci], List.getElem?_eq_getElem hci⟩
      have HSH := Lib.hid hs'
      have hssr := ((sharesOk_iff _).1 (tarOk_all hbb).2.2.1).2.2.2 s (List.mem_of_getElem? hs')
      have HSSR := Lib.hid hssr
      have hrok := (tarOk_all hbb).2.2.2.2.2.2
      have hrgo : rungGo ⟨-1, 1000⟩ t.rungs = true := by unfold rungsOk at hrok; simp only [Bool.and_eq_true] at hrok; exact hrok.1.2
      have hBG : billG t ci xs = G.map (grpOf t s) := by
        unfold billG grpsOf
        rw [if_pos hE, hR]
        have : t.shares.getD (ci : Int).toNat 0 = s := by simp [List.getD, hs']
        rw [this]
      have hBP : billP t ci xs = payOf t.rungs (sumG (G.map (grpOf t s))) := by unfold billP; rw [if_pos hE]; unfold billS; rw [hBG]
      have hBS : billS t ci xs = sumG (G.map (grpOf t s)) := by unfold billS; rw [hBG]
      rw [hE, hBG, hBS, hBP]
      have HR : Hid (groupsOf t.window t.chain (isort ltR xs) = G) := hG
      have hcost : ∀ g : List Ride, 0 ≤ (grpOf t s g).price ∧ (grpOf t s g).price ≤ 16777216 := fun g => costOf_in hbb hssr _
      have HCOST := Lib.hid hcost
      clear hE hEE hBG hBS hBP hR hG hl hgf hgl hone hGP hxin hs' hssr hci hP hcost
      have hnb : ¬ 2048 < n := by omega
      unfold Tar.val
      go_enter Try.func26, Try.ntmps26
      go_wp2_with (first
        | (go_at_call 39; refine (rtarR_any t hb hs hr _ hm (h.below B0.out)).mono ?_; rintro e w1 ⟨rfl, hb1⟩; rw [hbb]; have HB1 := Lib.hid (B0.out.trans (hb1.mono B0.out.size)); have RB1 := Lib.hid (box_below RB0.out hb1); have TB1 := Lib.hid (TB0.out.below hb1); obtain ⟨kk, k0, k1, k2, k3, k4, k5, k6, k7, k8⟩ := TB1.out.cells; clear hb1)
        | (go_at_call 22; refine (rright_any a n cap xs _ (by omega) (hx.below HB1.out)).mono ?_; rintro e w1' ⟨rfl, hb2⟩; rw [hRP]; have HB1' := Lib.hid (HB1.out.trans (hb2.mono HB1.out.size)); have RB1' := Lib.hid (box_below RB1.out hb2); have TB1' := Lib.hid (TB1.out.below hb2); obtain ⟨kk, k0, k1, k2, k3, k4, k5, k6, k7, k8⟩ := TB1'.out.cells; clear hb2)
        | (go_at_call 40; refine (rgroups_any a n cap xs t.window t.chain _ (by omega) HONE.out (hx.below HB1'.out)).mono ?_; rintro e w2 ⟨v, rfl, hg2, hb2⟩; rw [HR.out] at hg2; obtain ⟨hsg, ag, cg, rfl, hsl⟩ := isG_sls hg2; have HSL := Lib.hid hsl; have HB2 := Lib.hid (HB1'.out.trans (hb2.mono HB1'.out.size)); have RB2 := Lib.hid (box_below RB1'.out hb2); have TB2 := Lib.hid (TB1'.out.below hb2); clear hb2 hg2 hsl k0 k1 k2 k3 k4 k5 k6 k7 k8 kk))
      have hrb2 := box_lt RB2.out
      go_loopw [10] (fun i wr => ∃ (k : Nat) (gh : List GH) (ao : Option Addr) (co : Nat), i = .int .i64 k ∧ k ≤ G.length ∧ Hid (OwnB w2.heap.size wr (.slice ao k co) gh ((G.take k).map (grpOf t s))) ∧ Hid (wr.heap[w2.heap.size]? = some (.cells #[.slice ao k co, .int .i64 (sumG ((G.take k).map (grpOf t s))), .int .i64 0] 61 (0, 0))) ∧ Hid (Below w2.heap.size w2 wr)) (fun i _ => G.length - (intOf i).toNat)
      case atStart => exact ⟨0, [], none, 0, rfl, by omega, OwnB.nil, box_new _ _, (Below.refl _ _).alloc (Nat.le_refl _) _⟩
      case round =>
        obtain ⟨k, gh, ao, co, rfl, hk, hO, hBo, hB⟩ := hrel
        have hsz := hB.out.size
        by_cases hlt : k < G.length
        · obtain ⟨b, off, hd, x, rfl, hbl, hhd, hxk, hcx, hsx⟩ := (HSL.out.below hB.out).at hlt
          obtain ⟨ax, nx, cx⟩ := hd
          replace hcx : wr.cell? ⟨b, off + k, none⟩ = some (.slice ax nx cx) := hcx
          have hnx : nx = x.length := hsx.hlen
          have HNX := Lib.hid hnx
          obtain ⟨x1, x2⟩ := HXIN.out x (List.mem_of_getElem? hxk)
          have hx3 : nx ≤ 2048 := by omega
          have hfar : ∀ r ∈ x, -1 ≤ r.f ∧ r.f ≤ 4294967296 := fun r hr => by have := (oneB_iff r).1 (x2 r hr); omega
          have hfin := farT_in x 0 (by omega) (by omega)
          obtain ⟨far, hfr⟩ : ∃ far, farT x 0 = far := ⟨_, rfl⟩
          rw [hfr] at hfin
          have HFR := Lib.hid hfr
          have HFS : Hid (farS x 0 = farT x 0) := (far_same x 0 0 (fun r hr => (hfar r hr).1) (by omega) (by omega)).symm
          have HXK := Lib.hid hxk
          have HSX := Lib.hid hsx
          have b1 : (k : Int) < (G.length : Int) := by omega
          clear hxk hsx hhd x1 x2 hfr hnx
          obtain ⟨wk, rfl⟩ : ∃ wk : World, wk = wr := ⟨_, rfl⟩
          go_wp2_with (go_at_call 41; refine (rfar_any ax nx cx x _ (by omega) HSX.out hfar).mono ?_; rintro e w3 ⟨rfl, rfl⟩; rw [HFS.out, HFR.out])
          have hs3 := hsz
          have HB3 : Hid (Below wk.heap.size wk wk) := Below.refl _ _
          have HB23 : Hid (Below w2.heap.size w2 wk) := hB.out
          obtain ⟨w3, rfl⟩ : ∃ w3 : World, w3 = wk := ⟨_, rfl⟩
          go_loopw [12] (fun i wr => ∃ (j : Nat) (at_ : Option Addr) (ct : Nat), i = .int .i64 j ∧ j ≤ nx ∧ Hid (V.Own 3 icod w3.heap.size wr (.slice at_ j ct) ((x.take j).map Ride.t)) ∧ Hid (wr.heap[w3.heap.size]? = some (.cells #[.slice at_ j ct, .int .i64 far, .int .i64 0] 67 (0, 0))) ∧ Hid (Below w3.heap.size w3 wr)) (fun i _ => nx - (intOf i).toNat)
          case atStart => exact ⟨0, none, 0, rfl, by omega, V.Own.nil, box_new _ _, (Below.refl _ _).alloc (Nat.le_refl _) _⟩
          case round =>
            obtain ⟨j, at_, ct, rfl, hj, hT, hBg, hB4⟩ := hrel
            have hs4 := hB4.out.size
            have hcx2 : wr.cell? ⟨b, off + k, none⟩ = some (.slice ax nx cx) := by rw [(bcell hB4.out).1 _ _ hbl]; exact hcx
            have hbl2 := World.block_lt_of_cell? wr _ hcx2
            by_cases hjn : j < nx
            · obtain ⟨b', off', r, rfl, hbl', hr, c0, c1, c2, c3⟩ := ride_at (HSX.out.below hB4.out) hjn
              have HRJ := Lib.hid hr
              have b2 : (j : Int) < (nx : Int) := by omega
              have hgz := box_lt hBg.out
              obtain ⟨q0, q1, q2, f0, f1, f2⟩ := box3_cells hBg.out
              obtain ⟨i0, hi0, hz0, hz1, hz2⟩ := info_parts infoInt
              have htl : ((x.take j).map Ride.t).length = j := by rw [List.length_map, List.length_take, ← HNX.out]; omega
              have hflat : ((x.take j).map Ride.t).flatMap icod.enc = ((x.take j).map Ride.t).flatMap icod.enc := rfl
              have HRW : Hid (wr.ownsRow w3.heap.size 3 1 (.slice at_ j ct) j (((x.take j).map Ride.t).flatMap icod.enc)) := by have := hT.out; unfold V.Own at this; rw [htl] at this; exact this
              clear hr htl hflat
              go_upto_region 16 with fail
              go_region_law (go_loud (refine step_append_lies _ rfl (.tmp 66) (.tmp 75) 23 rfl w3.heap.size 3 i0 _ 1 8 Try.underlying23 hi0 hz0 hz1 hz2 rfl (by decide) (.slice at_ j ct) j _ (by simp [Act.eval]) (row_push (o := .cells #[.int .i64 r.t] 3) rfl HRW.out) ⟨wr.heap.size, 0, none⟩ 1 1 [.int .i64 r.t] (by simp [Act.eval]) rfl (World.news_of_block (cs := #[.int .i64 r.t]) (t := 3) (fr := (0, 0)) (box_new wr _)) (by simp [Value.oneCell']) (by decide) (by unfold maxLen; omega) (by omega) (by simp; omega) _ rfl ?_); intro g5 cap5 w5 hown5 hg5 hat5 hlt5; go_loud (have HBg5 : Hid (w5.heap[w3.heap.size]? = some (.cells #[.slice at_ j ct, .int .i64 far, .int .i64 0] 67 (0, 0))) := grown_box (v := .slice at_ j ct) hg5 (own_off hT.out hBg.out (by decide)) (box_alloc hBg.out)); go_loud (have HB5 : Hid (Below w3.heap.size w3 w5) := ((hB4.out.alloc hs4 _).drew).grown hg5 (by simp; omega) (fun k hk => own_lt hT.out k hk)); obtain ⟨q0, q1, q2, f0, f1, f2⟩ := box3_cells HBg5.out; have HT5 := Lib.hid hown5; clear hown5 hg5 hat5)
              all_goals
                go_wp2_with fail
                go_roundw
                case rel =>
                  refine ⟨j + 1, some ⟨g5, 0, none⟩, cap5, by go_num, by omega, ?_, ?_, ?_⟩
                  · have e6 : (x.take (j + 1)).map Ride.t = (x.take j).map Ride.t ++ [r.t] := by rw [take_at HRJ.out]; simp
                    have e7 : V.Own 3 icod w3.heap.size w5 (.slice (some ⟨g5, 0, none⟩) (j + 1) cap5) ((x.take (j + 1)).map Ride.t) := by
                      unfold V.Own
                      rw [e6, List.flatMap_append, List.length_append, List.length_map, List.length_take, ← HNX.out, show min j nx = j by omega]
                      exact HT5.out
                    exact e7.kept (setCell_grown _ _ _ _) (own_off e7 HBg5.out (by decide))
                  · exact (heap_setCell_same w5 w3.heap.size 0 _ _ _ HBg5.out).trans rfl
                  · exact HB5.out.setCell (p := ⟨w3.heap.size, 0, none⟩) (Nat.le_refl _) _
                case measure => simp [intOf]; omega
            · have hjx : j = nx := by omega
              subst hjx
              have hT2 := hT.out
              rw [List.take_of_length_le (by rw [← HNX.out]; exact Nat.le_refl _)] at hT2
              have HT2 := Lib.hid hT2
              have hsk3 : w2.heap.size < w3.heap.size := box_lt hBo.out
              have HB2r := Lib.hid (HB23.out.trans (hB4.out.mono (Nat.le_of_lt hsk3)))
              obtain ⟨S, hS⟩ : ∃ S, sumG ((G.take k).map (grpOf t s)) = S := ⟨_, rfl⟩
              have hSin := sumG_in ((G.take k).map (grpOf t s)) (fun g hg => by obtain ⟨y, -, rfl⟩ := List.mem_map.1 hg; exact HCOST.out y)
              have hkl : ((G.take k).map (grpOf t s)).length = k := by rw [List.length_map, List.length_take]; omega
              rw [hkl, hS] at hSin
              have HS := Lib.hid hS
              have hgh : gh.length = k := by rw [hO.out.len, hkl]
              have HGH := Lib.hid hgh
              have HBoS : Hid (w3.heap[w2.heap.size]? = some (.cells #[.slice ao k co, .int .i64 S, .int .i64 0] 61 (0, 0))) := by have := hBo.out; rw [hS] at this; exact this
              obtain ⟨pr, hpr⟩ : ∃ pr, costOf t s far = pr := ⟨_, rfl⟩
              obtain ⟨bs, hbs⟩ : ∃ bs, baseOf t far = bs := ⟨_, rfl⟩
              have hprin := costOf_in hbb HSSR.out far
              have hbsin := baseOf_in hbb far
              rw [hbs] at hbsin
              have hpart := part_in hbsin HSSR.out
              have hpr2 : bs * s / 1000 / t.unit * t.unit = pr := by rw [← hbs]; exact hpr
              rw [hpr] at hprin
              have HPR := Lib.hid hpr
              have HBS := Lib.hid hbs
              have HPR2 := Lib.hid hpr2
              have hunit := (tarOk_all hbb).2.2.2.1
              have hsok := (tarOk_all hbb).2.2.1
              have HTI := Lib.hid (h.below (HB2.out.trans (HB2r.out.mono HB2.out.size)))
              have TBr := Lib.hid (TB2.out.below HB2r.out)
              obtain ⟨kk, k0, k1, k2, k3, k4, k5, k6, k7, k8⟩ := TBr.out.cells
              obtain ⟨q0, q1, q2, f0, f1, f2⟩ := box3_cells hBg.out
              have hgz := box_lt hBg.out
              have HM1 : Hid (gh.length + 1 ≤ maxLen) := by show _ ≤ _; rw [hgh]; unfold maxLen; omega
              have HM2 : Hid ((gh.length + 1) * 40 ≤ 140737488355328) := by show _ ≤ _; rw [hgh]; omega
              clear hT2 hT hS hkl hgh hpr hbs hpr2
              obtain ⟨wj, rfl⟩ : ∃ wj : World, wj = wr := ⟨_, rfl⟩
              go_upto_if 82 with fail
              go_cut [13] (fun v wx => v = .int .i64 bs ∧ wj = wx)
              case first =>
                by_cases hfneg : far < 0
                · go_wp2_with fail
                  go_meet
                  exact ⟨by rw [← HBS.out]; unfold baseOf; rw [if_pos hfneg], rfl⟩
                · go_wp2_with (go_at_call 42; refine (rbprice_any _ _ _ t.bands t.over far _ hm.1 HTI.out.b).mono ?_; rintro e w' ⟨rfl, rfl⟩)
                  go_meet
                  exact ⟨by rw [← HBS.out]; unfold baseOf; rw [if_neg (by omega)], rfl⟩
              obtain ⟨rfl, rfl⟩ := hcut
              go_upto_region 20 with fail
              go_cut [] (fun wx => Hid (wx.heap[w3.heap.size]? = some (.cells #[.slice at_ j ct, .int .i64 far, .int .i64 pr] 67 (0, 0))) ∧ Hid (V.Own 3 icod w3.heap.size wx (.slice at_ j ct) (x.map Ride.t)) ∧ Hid (Below w3.heap.size w3 wx))
              case first =>
                go_region_law (first
                  | (go_simp; go_at_call 44; refine (rcapply_any _ _ _ t.shares ci s bs _ hsok HSH.out ⟨hbsin.1, by omega⟩ (HTI.out.s.below (by first | exact Below.refl _ _ | exact (Below.refl _ _).drew | exact ((Below.refl _ _).drew).drew))).mono ?_; rintro e w6 ⟨rfl, hb6⟩; have HB6 : Hid (Below wj.heap.size wj w6) := (by first | exact hb6 | exact (Below.drew (Below.refl _ _)).trans hb6 | exact (Below.drew (Below.drew (Below.refl _ _))).trans hb6); obtain ⟨kk, k0, k1, k2, k3, k4, k5, k6, k7, k8⟩ := (TBr.out.below HB6.out).cells; have HBg6 := Lib.hid (box_below hBg.out HB6.out); obtain ⟨q0, q1, q2, f0, f1, f2⟩ := box3_cells HBg6.out; clear hb6)
                  | (go_simp; go_at_call 43; refine (rround0_any _ _ _ ⟨hpart.1, by omega⟩ hunit).mono ?_; rintro e w7 ⟨rfl, rfl⟩; rw [HPR2.out]))
                all_goals
                  go_wp2_with fail
                  go_meet
                  refine ⟨(heap_setCell_same w6 w3.heap.size 2 _ _ (Value.int .i64 pr) HBg6.out).trans rfl, ?_, ?_⟩
                  · exact (HT2.out.below HB6.out).kept (setCell_grown w6 w3.heap.size 2 (.int .i64 pr)) (own_off (HT2.out.below HB6.out) HBg6.out (by decide))
                  · first
                    | exact (hB4.out.trans (HB6.out.mono hs4)).setCell (p := ⟨w3.heap.size, 2, none⟩) (Nat.le_refl _) _
                    | exact ((hB4.out.trans (HB6.out.mono hs4)).setCell (p := ⟨w3.heap.size, 2, none⟩) (Nat.le_refl _) _).drew
              obtain ⟨hBgc, hTc, hBc⟩ := hcut
              have hsc := hBc.out.size
              have HBoc := Lib.hid (box_below HBoS.out hBc.out)
              obtain ⟨o0, o1, o2, g0, g1, g2⟩ := box3_cells HBoc.out
              obtain ⟨q0, q1, q2, f0, f1, f2⟩ := box3_cells hBgc.out
              have hgz2 := box_lt hBgc.out
              have HO3 := hO
              have HSN2 : Hid (Sl GH.cod (wc.alloc (.cells #[.slice at_ j ct, .int .i64 far, .int .i64 pr] 67)) (some ⟨wc.heap.size, 0, none⟩) 1 1 [⟨⟨at_, j, ct⟩, far, pr⟩]) := sl_new (c := GH.cod) wc #[.slice at_ j ct, .int .i64 far, .int .i64 pr] 67 [⟨⟨at_, j, ct⟩, far, pr⟩] 1 rfl (by unfold maxLen; omega) rfl
              have HB2c := Lib.hid (HB23.out.trans (hBc.out.mono (Nat.le_of_lt hsk3)))
              clear k0 k1 k2 k3 k4 k5 k6 k7 k8 kk
              go_wp2_with (at_builtin; go_loud (refine wpList_app eltGrp rfl (.tmp 100) (.tmp 102) rfl (base := w2.heap.size) _ gh rfl (((HO3.out.below hBc.out).own).alloc _) _ 1 1 [⟨⟨at_, j, ct⟩, far, pr⟩] rfl HSN2.out HM1.out HM2.out (by simp; omega) ?_); intro v8 w8 hown8 hg8; go_loud (have HBo8 : Hid (w8.heap[w2.heap.size]? = some (.cells #[.slice ao k co, .int .i64 S, .int .i64 0] 61 (0, 0))) := grown_box (v := .slice ao k co) hg8 (own_off HO3.out.own HBoS.out (by decide)) (box_alloc HBoc.out)); go_loud (have HBg8 : Hid (w8.heap[w3.heap.size]? = some (.cells #[.slice at_ j ct, .int .i64 far, .int .i64 pr] 67 (0, 0))) := grown_box (v := .slice ao k co) hg8 (own_ge HO3.out.own (Nat.le_refl _)) (box_alloc hBgc.out)); obtain ⟨o0, o1, o2, g0, g1, g2⟩ := box3_cells HBo8.out; obtain ⟨q0, q1, q2, f0, f1, f2⟩ := box3_cells HBg8.out; have hl8 : (gh ++ [(⟨⟨at_, j, ct⟩, far, pr⟩ : GH)]).length = k + 1 := (by rw [List.length_append, HGH.out]; rfl); obtain ⟨a8, c8, e8, -⟩ := hown8.slice; rw [hl8] at e8; subst e8; have HO8 := Lib.hid hown8; have HG8 := Lib.hid hg8; clear hown8 hg8 hl8)
              have HB8 : Hid (Below w2.heap.size w2 w8) := (HB2c.out.alloc HB2c.out.size _).grown HG8.out (by have := HB2c.out.size; simp at this ⊢; omega) (fun q hq => own_lt HO3.out.own q hq)
              have HOB := HO3.out.below (hBc.out.alloc hsc (.cells #[.slice at_ j ct, .int .i64 far, .int .i64 pr] 67))
              have HTB : V.Own 3 icod w2.heap.size (wc.alloc (.cells #[.slice at_ j ct, .int .i64 far, .int .i64 pr] 67)) (.slice at_ j ct) (x.map Ride.t) := (hTc.out.alloc _).lower (Nat.le_of_lt hsk3)
              have HP8 := OwnB.push HOB (x := ⟨⟨at_, j, ct⟩, far, pr⟩) (g := grpOf t s x) HTB (by show far = farT x 0; rw [HFR.out]) (by show pr = costOf t s (farT x 0); rw [HFR.out, HPR.out]) HO8.out HG8.out
              have hgs : (G.take k).map (grpOf t s) ++ [grpOf t s x] = (G.take (k + 1)).map (grpOf t s) := by
                obtain ⟨z1, z2⟩ := List.getElem?_eq_some_iff.1 HXK.out
                rw [List.take_succ_eq_append_getElem z1, z2]; simp
              have hsum : sumG ((G.take (k + 1)).map (grpOf t s)) = S + pr := by
                rw [← hgs, sumG_snoc, HS.out]
                show S + costOf t s (farT x 0) = _
                rw [HFR.out, HPR.out]
              rw [hgs] at HP8
              have HP9 := Lib.hid HP8
              have HSUM := Lib.hid hsum
              clear HOB HTB HP8 hgs hsum
              go_wp2_with fail
              go_roundw
              case rel =>
                have hb9 := heap_setCell_same w8 w2.heap.size 0 _ _ (Value.slice a8 (k + 1) c8) HBo8.out
                have hb10 := heap_setCell_same _ w2.heap.size 1 _ _ (Value.int .i64 (S + pr)) hb9
                refine ⟨k + 1, gh ++ [⟨⟨at_, j, ct⟩, far, pr⟩], a8, c8, by go_num, by omega, ?_, ?_, ?_⟩
                · exact (HP9.out.box HBo8.out (by decide) (by decide) (setCell_grown _ _ _ _)).box hb9 (by decide) (by decide) (setCell_grown _ _ _ _)
                · show _ = _
                  rw [HSUM.out]
                  exact hb10.trans rfl
                · exact (HB8.out.setCell (p := ⟨w2.heap.size, 0, none⟩) (Nat.le_refl _) _).setCell (p := ⟨w2.heap.size, 1, none⟩) (Nat.le_refl _) _
              case measure => simp [intOf]; omega
        · have hkG : k = G.length := by omega
          subst hkG
          have hO2 := hO.out
          have hBo2 := hBo.out
          rw [List.take_of_length_le (Nat.le_refl _)] at hO2 hBo2
          obtain ⟨S, hS⟩ : ∃ S, sumG (G.map (grpOf t s)) = S := ⟨_, rfl⟩
          have hSin := sumG_in (G.map (grpOf t s)) (fun g hg => by obtain ⟨y, -, rfl⟩ := List.mem_map.1 hg; exact HCOST.out y)
          rw [List.length_map, hS] at hSin
          rw [hS] at hBo2
          have HS := Lib.hid hS
          have hpsame : payR t.rungs S = payOf t.rungs S := (pay_same t.rungs S hrgo hSin.1 (by omega)).symm
          have HOG := Lib.hid hO2
          have HBoS := Lib.hid hBo2
          have HBW := Lib.hid (HB2.out.trans (hB.out.mono HB2.out.size))
          have HRB := Lib.hid (box_below RB2.out hB.out)
          have hrbo : w.heap.size + 1 < w2.heap.size := hrb2
          have hbo := box_lt hBo2
          obtain ⟨kk, k0, k1, k2, k3, k4, k5, k6, k7, k8⟩ := (TB2.out.below hB.out).cells
          obtain ⟨q0, q1, q2, f0, f1, f2⟩ := box3_cells hBo2
          clear hO2 hBo2 hS hO hBo
          go_wp2_with (go_at_call 45; refine (rpay_any _ _ _ t.rungs S _ hrok ⟨hSin.1, by omega⟩ (h.below HBW.out).r).mono ?_; rintro e w9 ⟨rfl, hb9⟩; rw [hpsame]; have HB9 := Lib.hid (HBW.out.trans (hb9.mono HBW.out.size)); have HO9 := Lib.hid (HOG.out.below hb9); have HBo9 := Lib.hid (box_below HBoS.out hb9); have HRB9 := Lib.hid (box_below HRB.out hb9); obtain ⟨q0, q1, q2, f0, f1, f2⟩ := box3_cells HBo9.out; obtain ⟨r0, r1, r2, g0, g1, g2⟩ := box3_cells HRB9.out; have hs9 := box_lt HBo9.out; clear hb9)
          have hc1 := heap_setCell_same w9 w2.heap.size 2 _ _ (Value.int .i64 (payOf t.rungs S)) HBo9.out
          have hc2 : (w9.setCell ⟨w2.heap.size, 2, none⟩ (.int .i64 (payOf t.rungs S))).heap[w.heap.size + 1]? = some (.cells #[.slice none 0 0, .int .i64 0, .int .i64 0] 61 (0, 0)) := (heap_setCell_other _ _ _ _ (by simp; omega)).trans HRB9.out
          refine bodyPost_ret (results_row_tmp rfl _ _ (w.heap.size + 1) _ _ _ _ rfl (box3_set hc2 _ _ _) Try.underlying61 rfl (by kernel_rfl)) rfl ?_
          refine ⟨_, ret_pair rfl, ⟨ao, G.length, co, gh, ?_, ?_⟩, ?_⟩
          · rw [HS.out]
          · have o1 := HO9.out.box HBo9.out (by decide) (by decide) (setCell_grown w9 w2.heap.size 2 (.int .i64 (payOf t.rungs S)))
            have d1 := heap_setCell_same _ (w.heap.size + 1) 0 _ _ (Value.slice ao G.length co) hc2
            have d2 := heap_setCell_same _ (w.heap.size + 1) 1 _ _ (Value.int .i64 S) d1
            have o2 := o1.box hc2 (by decide) (by decide) (setCell_grown _ (w.heap.size + 1) 0 (.slice ao G.length co))
            have o3 := o2.box d1 (by decide) (by decide) (setCell_grown _ (w.heap.size + 1) 1 (.int .i64 S))
            have o4 := o3.box d2 (by decide) (by decide) (setCell_grown _ (w.heap.size + 1) 2 (.int .i64 (payOf t.rungs S)))
            exact o4.lower (by omega)
          · exact below_set3 (HB9.out.setCell (p := ⟨w2.heap.size, 2, none⟩) (by show w.heap.size ≤ w2.heap.size; omega) _) (by omega) _ _ _
end Go.Proofs.Ytgdhlhjflbinmaa
