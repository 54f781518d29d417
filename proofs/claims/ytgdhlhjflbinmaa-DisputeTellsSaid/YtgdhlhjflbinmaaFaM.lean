/- Fares: a month's bill. -/
import Derived.Test.YtgdhlhjflbinmaaFaL
import Derived.Test.YtgdhlhjflbinmaaTrL
namespace Go.Proofs.Ytgdhlhjflbinmaa
open Go.RowKit Go.V Go.Proofs

theorem isG_sls {base : Nat} {w : World} {v : Value} {gs : List (List Ride)} (h : IsG base w v gs) : ∃ hs a cap, v = .slice a gs.length cap ∧ Sls Ride.cod w a gs.length cap hs gs := by
  obtain ⟨hs, h⟩ := h
  obtain ⟨a, cap, h1, h2⟩ := h.sls
  exact ⟨hs, a, cap, h1, h2⟩

theorem box_below {w w' : World} {g : Nat} {ob : Obj} (h : w.heap[g]? = some ob) (hb : Below w.heap.size w w') : w'.heap[g]? = some ob := (hb.block g (Array.getElem?_eq_some_iff.1 h).1).trans h
theorem box_lt {w : World} {g : Nat} {ob : Obj} (h : w.heap[g]? = some ob) : g < w.heap.size := (Array.getElem?_eq_some_iff.1 h).1
theorem box3_cells {w : World} {g : Nat} {e : TypeId} {u0 u1 u2 : Value} (h : w.heap[g]? = some (.cells #[u0, u1, u2] e (0, 0))) : w.cell? ⟨g, 0, none⟩ = some u0 ∧ w.cell? ⟨g, 1, none⟩ = some u1 ∧ w.cell? ⟨g, 2, none⟩ = some u2 ∧ w.frozen? ⟨g, 0, none⟩ = false ∧ w.frozen? ⟨g, 1, none⟩ = false ∧ w.frozen? ⟨g, 2, none⟩ = false :=
  ⟨(box_cell h 0).1, (box_cell h 1).1, (box_cell h 2).1, (box_cell h 0).2, (box_cell h 1).2, (box_cell h 2).2⟩

theorem box3_set {w : World} {g : Nat} {e : TypeId} {u0 u1 u2 : Value} (h : w.heap[g]? = some (.cells #[u0, u1, u2] e (0, 0))) (v0 v1 v2 : Value) : (((w.setCell ⟨g, 0, none⟩ v0).setCell ⟨g, 1, none⟩ v1).setCell ⟨g, 2, none⟩ v2).heap[g]? = some (.cells #[v0, v1, v2] e (0, 0)) := by
  have h1 := heap_setCell_same w g 0 _ e v0 h
  have h2 := heap_setCell_same _ g 1 _ e v1 h1
  have h3 := heap_setCell_same _ g 2 _ e v2 h2
  rw [h3]; rfl
theorem setCell_grown (w : World) (g j : Nat) (v : Value) : w.grownBy (w.setCell ⟨g, j, none⟩ v) (some g) :=
  ⟨rfl, rfl, rfl, by simp, fun k _ hk => heap_setCell_other _ ⟨g, j, none⟩ k v (fun e => hk (by simp [e]))⟩
theorem grown_box {w w' : World} {v : Value} {B : Nat} {ob : Obj} (hg : w.grownBy w' v.ownBlock) (hne : v.ownBlock = none ∨ v.ownBlock ≠ some B) (hB : w.heap[B]? = some ob) : w'.heap[B]? = some ob :=
  (hg.block B (box_lt hB) (fun e => by rcases hne with q | q; rw [q] at e; cases e; exact q e.symm)).trans hB
theorem own_ge {α : Type} {e : TypeId} {c : Cod α} {base : Nat} {w : World} {v : Value} {xs : List α} {B : Nat} (h : V.Own e c base w v xs) (hB : w.heap.size ≤ B) : v.ownBlock = none ∨ v.ownBlock ≠ some B := by
  refine .inr (fun hh => ?_)
  have := (World.ownsRow.lt h _ hh).2
  omega
theorem below_set3 {w wr : World} {B g : Nat} (hb : Below B w wr) (hg : B ≤ g) (v0 v1 v2 : Value) : Below B w (((wr.setCell ⟨g, 0, none⟩ v0).setCell ⟨g, 1, none⟩ v1).setCell ⟨g, 2, none⟩ v2) :=
  ((hb.setCell (p := ⟨g, 0, none⟩) hg v0).setCell (p := ⟨g, 1, none⟩) hg v1).setCell (p := ⟨g, 2, none⟩) hg v2
theorem results_row_tmp {P : Program} {fn : Func} {p u : Tmp} {ty : TypeId} (h : fn.results = #[.cell p ty, .tmp u]) (tmps : Array Value) (w : World) (g : Nat) (t : TypeId) (cs : Array Value) (fr : Nat × Nat) (d : TypeDesc)
    (hp : tmps.getD p undef = .pointer (some ⟨g, 0, none⟩)) (hg : w.heap[g]? = some (.cells cs t fr))
    (hu : P.underlying ty = some d) (hd : (match d with | .struct _ | .array _ _ => true | _ => false) = true) (hi : (P.info? ty).map (·.size) = some cs.size) :
    (results fn tmps).run P w = .ok (.tuple #[.agg cs, tmps.getD u undef]) w := by
  rw [results_cell_tmp h, hp]
  simp [asAddr, run_loadVar_row w g t ty cs fr d hg hu hd hi, Result.andThen]
theorem ret_pair {v u x : Value} (h : u = x) : Ending.returned (.tuple #[v, u]) = .returned (.tuple #[v, x]) := by rw [h]

set_option maxHeartbeats 8000000 in
set_option maxRecDepth 100000 in
theorem month_any (t : Tar) (hb hs hr : Hdr) (c : Int) (a : Option Addr) (n cap : Nat) (xs : List Ride) (w : World) (hm : hb.n ≤ 1000000 ∧ hs.n ≤ 1000000 ∧ hr.n ≤ 1000000) (hn : n ≤ 100000) (hok : ∀ r ∈ xs, Ride.ok r) (h : TarIn w t hb hs hr) (hx : Sl Ride.cod w a n cap xs) :
    Calls Try.prog 25 #[t.val hb hs hr, .int .i64 c, .slice a n cap] w fun e w' => ∃ v, e = .returned (.tuple #[v, .int .i64 (monthE t c xs)]) ∧ BillR w.heap.size w' v (billG t c xs) (billS t c xs) (billP t c xs) ∧ Below w.heap.size w w' := by
  have hns : hs.n = t.shares.length := h.s.hlen
  have hN := Lib.hid hx.hlen
  have TB0 : Hid (TarBox 26 ((w.alloc (t.box hb hs hr)).alloc (.cells #[.slice none 0 0, .int .i64 0, .int .i64 0] 61)) w.heap.size t hb hs hr) := box_alloc (box_new _ _)
  have RB0 : Hid (((w.alloc (t.box hb hs hr)).alloc (.cells #[.slice none 0 0, .int .i64 0, .int .i64 0] 61)).heap[w.heap.size + 1]? = some (.cells #[.slice none 0 0, .int .i64 0, .int .i64 0] 61 (0, 0))) := by
    have := box_new (w.alloc (t.box hb hs hr)) (.cells #[.slice none 0 0, .int .i64 0, .int .i64 0] 61)
    rwa [World.size_alloc] at this
  have B0 : Hid (Below w.heap.size w ((w.alloc (t.box hb hs hr)).alloc (.cells #[.slice none 0 0, .int .i64 0, .int .i64 0] 61))) := ((Below.refl _ _).alloc (Nat.le_refl _) _).alloc (by simp) _
  have HNS := Lib.hid hns
  clear hns
  have zero : ∀ W, BillR w.heap.size W (.agg #[.slice none 0 0, .int .i64 0, .int .i64 0]) [] 0 0 := fun W => ⟨none, 0, 0, [], rfl, OwnB.nil⟩
  unfold Tar.box at TB0 RB0 B0
  by_cases hP : MonthP t c
  case neg =>
    have hE : monthE t c xs = 2 := by unfold monthE; rw [if_neg hP]
    have hG : billG t c xs = [] := by unfold billG; rw [if_neg (by rw [hE]; decide)]
    have hS : billS t c xs = 0 := by unfold billS; rw [hG]; rfl
    have hPy : billP t c xs = 0 := by unfold billP; rw [if_neg (by rw [hE]; decide)]
    rw [hE, hG, hS, hPy]
    clear hE hG hS hPy
    obtain ⟨bb, hbb⟩ : ∃ bb, tarOk t = bb := ⟨_, rfl⟩
    unfold Tar.val
    go_enter Try.func25, Try.ntmps25
    cases bb with
    | false =>
      clear hP
      go_wp2_with (go_at_call 33; refine (tarR_any t hb hs hr _ hm (h.below B0.out)).mono ?_; rintro e w1 ⟨rfl, hb1⟩; rw [hbb]; have HB1 := Lib.hid (B0.out.trans (hb1.mono B0.out.size)); have RB1 := Lib.hid (box_below RB0.out hb1); obtain ⟨r0, r1, r2, f0, f1, f2⟩ := box3_cells RB1.out; clear hb1)
      refine bodyPost_ret (results_row_tmp rfl _ _ (w.heap.size + 1) _ _ _ _ rfl (box3_set RB1.out _ _ _) Try.underlying61 rfl (by kernel_rfl)) rfl ?_
      exact ⟨_, ret_pair rfl, zero _, below_set3 HB1.out (by omega) _ _ _⟩
    | true =>
      have hcls : wB c 0 ((hs.n : Int) - 1) = false := decide_eq_false (fun q => hP ⟨hbb, q.1, by have := HNS.out; omega⟩)
      clear hP
      go_wp2_with (first
        | (go_at_call 33; refine (tarR_any t hb hs hr _ hm (h.below B0.out)).mono ?_; rintro e w1 ⟨rfl, hb1⟩; rw [hbb]; have HB1 := Lib.hid (B0.out.trans (hb1.mono B0.out.size)); have RB1 := Lib.hid (box_below RB0.out hb1); obtain ⟨r0, r1, r2, f0, f1, f2⟩ := box3_cells RB1.out; obtain ⟨kk, k0, k1, k2, k3, k4, k5, k6, k7, k8⟩ := (TB0.out.below hb1).cells; clear hb1)
        | (go_at_call 34; refine (pwithin_any _ _ _ _).mono ?_; rintro e w' ⟨rfl, rfl⟩; rw [hcls]))
      refine bodyPost_ret (results_row_tmp rfl _ _ (w.heap.size + 1) _ _ _ _ rfl (box3_set RB1.out _ _ _) Try.underlying61 rfl (by kernel_rfl)) rfl ?_
      exact ⟨_, ret_pair rfl, zero _, below_set3 HB1.out (by omega) _ _ _⟩
  case pos =>
    have hcls : wB c 0 ((hs.n : Int) - 1) = true := decide_eq_true ⟨hP.2.1, by have := hP.2.2; have := HNS.out; omega⟩
    have hbb := hP.1
    have hE : monthE t c xs = groupsE xs t.window t.chain := by unfold monthE; rw [if_pos hP]
    obtain ⟨eg, heg⟩ : ∃ eg, groupsE xs t.window t.chain = eg := ⟨_, rfl⟩
    rw [heg] at hE
    by_cases hz : eg = 0
    case neg =>
      have hG : billG t c xs = [] := by unfold billG; rw [if_neg (by rw [hE]; exact hz)]
      have hS : billS t c xs = 0 := by unfold billS; rw [hG]; rfl
      have hPy : billP t c xs = 0 := by unfold billP; rw [if_neg (by rw [hE]; exact hz)]
      rw [hE, hG, hS, hPy]
      clear hE hG hS hPy hP
      have hz' : (eg != 0) = true := by simp [hz]
      unfold Tar.val
      go_enter Try.func25, Try.ntmps25
      go_wp2_with (first
        | (go_at_call 33; refine (tarR_any t hb hs hr _ hm (h.below B0.out)).mono ?_; rintro e w1 ⟨rfl, hb1⟩; rw [hbb]; have HB1 := Lib.hid (B0.out.trans (hb1.mono B0.out.size)); have RB1 := Lib.hid (box_below RB0.out hb1); have TB1 := Lib.hid (TB0.out.below hb1); obtain ⟨kk, k0, k1, k2, k3, k4, k5, k6, k7, k8⟩ := TB1.out.cells; clear hb1)
        | (go_at_call 34; refine (pwithin_any _ _ _ _).mono ?_; rintro e w' ⟨rfl, rfl⟩; rw [hcls])
        | (go_at_call 35; refine (groups_any a n cap xs t.window t.chain _ hn hok (hx.below HB1.out)).mono ?_; rintro e w2 ⟨v, rfl, -, hb2⟩; rw [heg]; have HB2 := Lib.hid (HB1.out.trans (hb2.mono HB1.out.size)); have RB2 := Lib.hid (box_below RB1.out hb2); obtain ⟨r0, r1, r2, f0, f1, f2⟩ := box3_cells RB2.out; clear hb2))
      refine bodyPost_ret (results_row_tmp rfl _ _ (w.heap.size + 1) _ _ _ _ rfl (box3_set RB2.out _ _ _) Try.underlying61 rfl (by kernel_rfl)) rfl ?_
      exact ⟨_, ret_pair rfl, zero _, below_set3 HB2.out (by omega) _ _ _⟩
    case pos =>
      subst hz
      have hGP : GroupsP xs t.window t.chain := by
        unfold groupsE at heg
        split at heg
        · split at heg
          · assumption
          · cases heg
        · cases heg
      have hsmall : n ≤ 2048 := by have := hGP.1.1; have := hN.out; omega
      have hone := hGP.1.2.1
      have hgl := groups_le hGP.2.1.1 hGP.2.2.1 (window := t.window) (isort ltR xs)
      have hgf := groups_flat t.window t.chain (isort ltR xs)
      have hR : groupsR xs t.window t.chain = groupsOf t.window t.chain (isort ltR xs) := by unfold groupsR; rw [if_pos hGP]
      have hl : (isort ltR xs).length = n := by rw [(isort_perm xs).length_eq, ← hN.out]
      obtain ⟨G, hG⟩ : ∃ G, groupsOf t.window t.chain (isort ltR xs) = G := ⟨_, rfl⟩
      rw [hG] at hR hgl hgf
      rw [hl] at hgl
      have hGlen : G.length ≤ 2048 := by omega
      have hxin : ∀ x ∈ G, x.length ≤ n ∧ ∀ r ∈ x, oneB r = true := fun x hxg => by
        refine ⟨?_, fun r hr => hone r ((isort_perm xs).mem_iff.1 (by rw [← hgf]; exact List.mem_flatten.2 ⟨x, hxg, hr⟩))⟩
        have e3 : x.length ≤ G.flatten.length := (List.sublist_flatten_of_mem hxg).length_le
        rw [hgf, hl] at e3; exact e3
      have HXIN := Lib.hid hxin
      obtain ⟨ci, rfl⟩ : ∃ ci : Nat, c = ci := ⟨c.toNat, by have := hP.2.1; omega⟩
      have hci : ci < t.shares.length := by have := hP.2.2; omega
      obtain ⟨s, hs'⟩ : ∃ s, t.shares[ci]? = some s := ⟨t.shares[ci], List.getElem?_eq_getElem hci⟩
      have HSH := Lib.hid hs'
      have hssr := ((sharesOk_iff _).1 (tarOk_all hbb).2.2.1).2.2.2 s (List.mem_of_getElem? hs')
      have HSSR := Lib.hid hssr
      have hrok := (tarOk_all hbb).2.2.2.2.2.2
      have hBG : billG t ci xs = G.map (grpOf t s) := by
        unfold billG grpsOf
        rw [if_pos hE, hR]
        have : t.shares.getD (ci : Int).toNat 0 = s := by simp [List.getD, hs']
        rw [this]
      have hBP : billP t ci xs = payOf t.rungs (sumG (G.map (grpOf t s))) := by unfold billP; rw [if_pos hE]; unfold billS; rw [hBG]
      have hBS : billS t ci xs = sumG (G.map (grpOf t s)) := by unfold billS; rw [hBG]
      rw [hE, hBG, hBS, hBP]
      have HR := Lib.hid hR
      have hcost : ∀ g : List Ride, 0 ≤ (grpOf t s g).price ∧ (grpOf t s g).price ≤ 16777216 := fun g => costOf_in hbb hssr _
      have HCOST := Lib.hid hcost
      clear hE hBG hBS hBP hR hG hl hgf hgl hone hGP hxin hs' hssr hci hP hcost
      unfold Tar.val
      go_enter Try.func25, Try.ntmps25
      go_wp2_with (first
        | (go_at_call 33; refine (tarR_any t hb hs hr _ hm (h.below B0.out)).mono ?_; rintro e w1 ⟨rfl, hb1⟩; rw [hbb]; have HB1 := Lib.hid (B0.out.trans (hb1.mono B0.out.size)); have RB1 := Lib.hid (box_below RB0.out hb1); have TB1 := Lib.hid (TB0.out.below hb1); obtain ⟨kk, k0, k1, k2, k3, k4, k5, k6, k7, k8⟩ := TB1.out.cells; clear hb1)
        | (go_at_call 34; refine (pwithin_any _ _ _ _).mono ?_; rintro e w' ⟨rfl, rfl⟩; rw [hcls])
        | (go_at_call 35; refine (groups_any a n cap xs t.window t.chain _ hn hok (hx.below HB1.out)).mono ?_; rintro e w2 ⟨v, rfl, hg2, hb2⟩; rw [heg]; rw [HR.out] at hg2; obtain ⟨hsg, ag, cg, rfl, hsl⟩ := isG_sls hg2; have HSL := Lib.hid hsl; have HB2 := Lib.hid (HB1.out.trans (hb2.mono HB1.out.size)); have RB2 := Lib.hid (box_below RB1.out hb2); have TB2 := Lib.hid (TB1.out.below hb2); clear hb2 hg2 hsl k0 k1 k2 k3 k4 k5 k6 k7 k8 kk))
      have hrb2 := box_lt RB2.out
      go_loopw [44] (fun i wr => ∃ (k : Nat) (gh : List GH) (ao : Option Addr) (co : Nat), i = .int .i64 k ∧ k ≤ G.length ∧ Hid (OwnB w2.heap.size wr (.slice ao k co) gh ((G.take k).map (grpOf t s))) ∧ Hid (wr.heap[w2.heap.size]? = some (.cells #[.slice ao k co, .int .i64 (sumG ((G.take k).map (grpOf t s))), .int .i64 0] 61 (0, 0))) ∧ Hid (Below w2.heap.size w2 wr)) (fun i _ => G.length - (intOf i).toNat)
      case atStart => exact ⟨0, [], none, 0, rfl, by omega, OwnB.nil, box_new _ _, (Below.refl _ _).alloc (Nat.le_refl _) _⟩
      case round =>
        obtain ⟨k, gh, ao, co, rfl, hk, hO, hBo, hB⟩ := hrel
        have hsz := hB.out.size
        by_cases hlt : k < G.length
        · obtain ⟨b, off, hd, x, rfl, hbl, hhd, hxk, hcx, hsx⟩ := (HSL.out.below hB.out).at hlt
          obtain ⟨ax, nx, cx⟩ := hd
          replace hcx : wr.cell? ⟨b, off + k, none⟩ = some (.slice ax nx cx) := hcx
          have hnx : nx = x.length := hsx.hlen
          have HNX := Lib.hid hnx
          obtain ⟨x1, x2⟩ := HXIN.out x (List.mem_of_getElem? hxk)
          have hx3 : nx ≤ 2048 := by omega
          have hfar : ∀ r ∈ x, -1 ≤ r.f ∧ r.f ≤ 4294967296 := fun r hr => by have := (oneB_iff r).1 (x2 r hr); omega
          have hfin := farT_in x 0 (by omega) (by omega)
          obtain ⟨far, hfr⟩ : ∃ far, farT x 0 = far := ⟨_, rfl⟩
          rw [hfr] at hfin
          have HFR := Lib.hid hfr
          have HXK := Lib.hid hxk
          have HSX := Lib.hid hsx
          have b1 : (k : Int) < (G.length : Int) := by omega
          clear hxk hsx hhd x1 x2 hfr hnx
          obtain ⟨wk, rfl⟩ : ∃ wk : World, wk = wr := ⟨_, rfl⟩
          go_wp2_with (go_at_call 36; refine (far_any ax nx cx x _ (by omega) HSX.out hfar).mono ?_; rintro e w3 ⟨rfl, hb3⟩; rw [HFR.out]; have HB3 := Lib.hid hb3; have hs3 := hb3.size; clear hb3)
          have HB23 : Hid (Below w2.heap.size w2 w3) := hB.out.trans (HB3.out.mono hsz)
          go_loopw [53] (fun i wr => ∃ (j : Nat) (at_ : Option Addr) (ct : Nat), i = .int .i64 j ∧ j ≤ nx ∧ Hid (V.Own 3 icod w3.heap.size wr (.slice at_ j ct) ((x.take j).map Ride.t)) ∧ Hid (wr.heap[w3.heap.size]? = some (.cells #[.slice at_ j ct, .int .i64 far, .int .i64 0] 67 (0, 0))) ∧ Hid (Below w3.heap.size w3 wr)) (fun i _ => nx - (intOf i).toNat)
          case atStart => exact ⟨0, none, 0, rfl, by omega, V.Own.nil, box_new _ _, (Below.refl _ _).alloc (Nat.le_refl _) _⟩
          case round =>
            obtain ⟨j, at_, ct, rfl, hj, hT, hBg, hB4⟩ := hrel
            have hs4 := hB4.out.size
            by_cases hjn : j < nx
            · obtain ⟨b', off', r, rfl, hbl', hr, c0, c1, c2, c3⟩ := ride_at (HSX.out.below (HB3.out.trans (hB4.out.mono hs3))) hjn
              have HRJ := Lib.hid hr
              have b2 : (j : Int) < (nx : Int) := by omega
              have hgz := box_lt hBg.out
              obtain ⟨q0, q1, q2, f0, f1, f2⟩ := box3_cells hBg.out
              have htl : ((x.take j).map Ride.t).length = j := by rw [List.length_map, List.length_take, ← HNX.out]; omega
              have HM1 : Hid (((x.take j).map Ride.t).length + 1 ≤ maxLen) := by show _ ≤ _; rw [htl]; unfold maxLen; omega
              have HM2 : Hid ((((x.take j).map Ride.t).length + 1) * 8 ≤ 140737488355328) := by show _ ≤ _; rw [htl]; omega
              have HSN : Hid (Sl icod ((wr.alloc (.cells #[.int .i64 r.t, .int .i64 r.s, .int .i64 r.e, .int .i64 r.f] 29)).alloc (.cells #[.int .i64 r.t] 3)) (some ⟨wr.heap.size + 1, 0, none⟩) 1 1 [r.t]) := by
                have := sl_new (c := icod) (wr.alloc (.cells #[.int .i64 r.t, .int .i64 r.s, .int .i64 r.e, .int .i64 r.f] 29)) #[.int .i64 r.t] 3 [r.t] 1 rfl (by unfold maxLen; omega) rfl
                exact Lib.hid (by simpa using this)
              clear hr htl
              go_wp2_with (at_builtin; go_loud (refine wpList_app eltInt rfl (.tmp 58) (.tmp 61) rfl (base := w3.heap.size) _ ((x.take j).map Ride.t) rfl ((hT.out.alloc _).alloc _) _ 1 1 [r.t] rfl HSN.out HM1.out HM2.out (by simp; omega) ?_); intro v5 w5 hown5 hg5; go_loud (have hl5 : ((x.take j).map Ride.t ++ [r.t]).length = j + 1 := (by rw [List.length_append, List.length_map, List.length_take, ← HNX.out]; simp; omega)); obtain ⟨a5, c5, e5, -⟩ := hown5.slice; rw [hl5] at e5; subst e5; have HT5 := Lib.hid hown5; go_loud (have HBg5 : Hid (w5.heap[w3.heap.size]? = some (.cells #[.slice at_ j ct, .int .i64 far, .int .i64 0] 67 (0, 0))) := grown_box (v := .slice at_ j ct) hg5 (own_off hT.out hBg.out (by decide)) (box_alloc (box_alloc hBg.out))); go_loud (have HB5 : Hid (Below w3.heap.size w3 w5) := ((hB4.out.alloc hs4 _).alloc (by simp; omega) _).grown hg5 (by simp; omega) (fun k hk => own_lt hT.out k hk)); obtain ⟨q0, q1, q2, f0, f1, f2⟩ := box3_cells HBg5.out; clear hown5 hg5 hl5)
              go_roundw
              case rel =>
                refine ⟨j + 1, a5, c5, by go_num, by omega, ?_, ?_, HB5.out.setCell (p := ⟨w3.heap.size, 0, none⟩) (Nat.le_refl _) _⟩
                · have e6 : (x.take (j + 1)).map Ride.t = (x.take j).map Ride.t ++ [r.t] := by rw [take_at HRJ.out]; simp
                  show V.Own _ _ _ _ _ _
                  rw [e6]
                  exact HT5.out.kept (setCell_grown _ _ _ _) (own_off HT5.out HBg5.out (by decide))
                · exact (heap_setCell_same w5 w3.heap.size 0 _ _ _ HBg5.out).trans rfl
              case measure => simp [intOf]; omega
            · have hjx : j = nx := by omega
              subst hjx
              have hT2 := hT.out
              rw [List.take_of_length_le (by rw [← HNX.out]; exact Nat.le_refl _)] at hT2
              have HT2 := Lib.hid hT2
              have HBK := Lib.hid (HB3.out.trans (hB4.out.mono hs3))
              have hsk3 : w2.heap.size < w3.heap.size := by have := box_lt hBo.out; omega
              have HO3 := Lib.hid (hO.out.below HB3.out)
              have HB2r := Lib.hid (HB23.out.trans (hB4.out.mono (Nat.le_of_lt hsk3)))
              have HBo3 := Lib.hid (box_below hBo.out HB3.out)
              obtain ⟨S, hS⟩ : ∃ S, sumG ((G.take k).map (grpOf t s)) = S := ⟨_, rfl⟩
              have hSin := sumG_in ((G.take k).map (grpOf t s)) (fun g hg => by obtain ⟨y, -, rfl⟩ := List.mem_map.1 hg; exact HCOST.out y)
              have hkl : ((G.take k).map (grpOf t s)).length = k := by rw [List.length_map, List.length_take]; omega
              rw [hkl, hS] at hSin
              have HS := Lib.hid hS
              have hgh : gh.length = k := by rw [hO.out.len, hkl]
              have HGH := Lib.hid hgh
              have HBoS : Hid (w3.heap[w2.heap.size]? = some (.cells #[.slice ao k co, .int .i64 S, .int .i64 0] 61 (0, 0))) := by have := HBo3.out; rw [hS] at this; exact this
              obtain ⟨pr, hpr⟩ : ∃ pr, costOf t s far = pr := ⟨_, rfl⟩
              have hprin := costOf_in hbb HSSR.out far
              rw [hpr] at hprin
              have HPR := Lib.hid hpr
              obtain ⟨kk, k0, k1, k2, k3, k4, k5, k6, k7, k8⟩ := (TB2.out.below HB2r.out).cells
              obtain ⟨q0, q1, q2, f0, f1, f2⟩ := box3_cells hBg.out
              have HM1 : Hid (gh.length + 1 ≤ maxLen) := by show _ ≤ _; rw [hgh]; unfold maxLen; omega
              have HM2 : Hid ((gh.length + 1) * 40 ≤ 140737488355328) := by show _ ≤ _; rw [hgh]; omega
              clear hT2 hT hS hkl hgh hpr
              go_wp2_with (first
                | (go_at_call 37; refine (cost_any t hb hs hr ci s far _ ⟨hm.1, hm.2.1⟩ hbb HSH.out hfin (h.below (HB2.out.trans (HB2r.out.mono HB2.out.size)))).mono ?_; rintro e w6 ⟨rfl, hb6⟩; rw [HPR.out]; have HB6 := Lib.hid (hB4.out.trans (hb6.mono hs4)); have hs6 := HB6.out.size; have HBg6 := Lib.hid (box_below hBg.out hb6); obtain ⟨q0, q1, q2, f0, f1, f2⟩ := box3_cells HBg6.out; have HBo6 := Lib.hid (box_below HBoS.out HB6.out); obtain ⟨o0, o1, o2, g0, g1, g2⟩ := box3_cells HBo6.out; have HT6 := Lib.hid (HT2.out.below hb6); have hgz := box_lt HBg6.out; go_loud (have HSN2 : Hid (Sl GH.cod ((w6.setCell ⟨w3.heap.size, 2, none⟩ (.int .i64 pr)).alloc (.cells #[.slice at_ j ct, .int .i64 far, .int .i64 pr] 67)) (some ⟨w6.heap.size, 0, none⟩) 1 1 [⟨⟨at_, j, ct⟩, far, pr⟩]) := (by have := sl_new (c := GH.cod) (w6.setCell ⟨w3.heap.size, 2, none⟩ (.int .i64 pr)) #[.slice at_ j ct, .int .i64 far, .int .i64 pr] 67 [⟨⟨at_, j, ct⟩, far, pr⟩] 1 rfl (by unfold maxLen; omega) rfl; exact Lib.hid (by simpa using this))); clear hb6)
                | (at_builtin; go_loud (refine wpList_app eltGrp rfl (.tmp 79) (.tmp 81) rfl (base := w2.heap.size) _ gh rfl (((HO3.out.below (HB6.out.setCell (p := ⟨w3.heap.size, 2, none⟩) (Nat.le_refl _) _)).own).alloc _) _ 1 1 [⟨⟨at_, j, ct⟩, far, pr⟩] rfl HSN2.out HM1.out HM2.out (by simp; omega) ?_); intro v8 w8 hown8 hg8; go_loud (have HBo8 : Hid (w8.heap[w2.heap.size]? = some (.cells #[.slice ao k co, .int .i64 S, .int .i64 0] 61 (0, 0))) := grown_box (v := .slice ao k co) hg8 (own_off HO3.out.own HBoS.out (by decide)) (box_alloc ((heap_setCell_other _ _ _ _ (by simp; omega)).trans HBo6.out))); go_loud (have HBg8 : Hid (w8.heap[w3.heap.size]? = some (.cells #[.slice at_ j ct, .int .i64 far, .int .i64 pr] 67 (0, 0))) := grown_box (v := .slice ao k co) hg8 (own_ge HO3.out.own (Nat.le_refl _)) (box_alloc ((heap_setCell_same w6 w3.heap.size 2 _ _ _ HBg6.out).trans rfl))); obtain ⟨o0, o1, o2, g0, g1, g2⟩ := box3_cells HBo8.out; obtain ⟨q0, q1, q2, f0, f1, f2⟩ := box3_cells HBg8.out; have hl8 : (gh ++ [(⟨⟨at_, j, ct⟩, far, pr⟩ : GH)]).length = k + 1 := (by rw [List.length_append, HGH.out]; rfl); obtain ⟨a8, c8, e8, -⟩ := hown8.slice; rw [hl8] at e8; subst e8; have HO8 := Lib.hid hown8; have HG8 := Lib.hid hg8; clear hown8 hg8 hl8))
              have HB26 : Hid (Below w2.heap.size w2 (w6.setCell ⟨w3.heap.size, 2, none⟩ (.int .i64 pr))) := (HB23.out.trans (HB6.out.mono (Nat.le_of_lt hsk3))).setCell (p := ⟨w3.heap.size, 2, none⟩) (Nat.le_of_lt hsk3) _
              have HB8 : Hid (Below w2.heap.size w2 w8) := (HB26.out.alloc HB26.out.size _).grown HG8.out (by have := HB26.out.size; simp at this ⊢; omega) (fun q hq => own_lt HO3.out.own q hq)
              have HOB := HO3.out.below ((HB6.out.setCell (p := ⟨w3.heap.size, 2, none⟩) (Nat.le_refl _) (.int .i64 pr)).alloc (by simp; omega) (.cells #[.slice at_ j ct, .int .i64 far, .int .i64 pr] 67))
              have HTB : V.Own 3 icod w2.heap.size ((w6.setCell ⟨w3.heap.size, 2, none⟩ (.int .i64 pr)).alloc (.cells #[.slice at_ j ct, .int .i64 far, .int .i64 pr] 67)) (.slice at_ j ct) (x.map Ride.t) := ((HT6.out.kept (setCell_grown _ _ _ _) (own_off HT6.out HBg6.out (by decide))).alloc _).lower (Nat.le_of_lt hsk3)
              have HP8 := OwnB.push HOB (x := ⟨⟨at_, j, ct⟩, far, pr⟩) (g := grpOf t s x) HTB (by show far = farT x 0; rw [HFR.out]) (by show pr = costOf t s (farT x 0); rw [HFR.out, HPR.out]) HO8.out HG8.out
              have hgs : (G.take k).map (grpOf t s) ++ [grpOf t s x] = (G.take (k + 1)).map (grpOf t s) := by
                obtain ⟨z1, z2⟩ := List.getElem?_eq_some_iff.1 HXK.out
                rw [List.take_succ_eq_append_getElem z1, z2]; simp
              have hsum : sumG ((G.take (k + 1)).map (grpOf t s)) = S + pr := by
                rw [← hgs, sumG_snoc, HS.out]
                show S + costOf t s (farT x 0) = _
                rw [HFR.out, HPR.out]
              rw [hgs] at HP8
              have HP9 := Lib.hid HP8
              have HSUM := Lib.hid hsum
              clear HOB HTB HP8 hgs hsum
              go_wp2_with fail
              go_roundw
              case rel =>
                have hb9 := heap_setCell_same w8 w2.heap.size 0 _ _ (Value.slice a8 (k + 1) c8) HBo8.out
                have hb10 := heap_setCell_same _ w2.heap.size 1 _ _ (Value.int .i64 (S + pr)) hb9
                refine ⟨k + 1, gh ++ [⟨⟨at_, j, ct⟩, far, pr⟩], a8, c8, by go_num, by omega, ?_, ?_, ?_⟩
                · exact (HP9.out.box HBo8.out (by decide) (by decide) (setCell_grown _ _ _ _)).box hb9 (by decide) (by decide) (setCell_grown _ _ _ _)
                · show _ = _
                  rw [HSUM.out]
                  exact hb10.trans rfl
                · exact (HB8.out.setCell (p := ⟨w2.heap.size, 0, none⟩) (Nat.le_refl _) _).setCell (p := ⟨w2.heap.size, 1, none⟩) (Nat.le_refl _) _
              case measure => simp [intOf]; omega
        · have hkG : k = G.length := by omega
          subst hkG
          have hO2 := hO.out
          have hBo2 := hBo.out
          rw [List.take_of_length_le (Nat.le_refl _)] at hO2 hBo2
          obtain ⟨S, hS⟩ : ∃ S, sumG (G.map (grpOf t s)) = S := ⟨_, rfl⟩
          have hSin := sumG_in (G.map (grpOf t s)) (fun g hg => by obtain ⟨y, -, rfl⟩ := List.mem_map.1 hg; exact HCOST.out y)
          rw [List.length_map, hS] at hSin
          rw [hS] at hBo2
          have HS := Lib.hid hS
          have HOG := Lib.hid hO2
          have HBoS := Lib.hid hBo2
          have HBW := Lib.hid (HB2.out.trans (hB.out.mono HB2.out.size))
          have HRB := Lib.hid (box_below RB2.out hB.out)
          have hrbo : w.heap.size + 1 < w2.heap.size := hrb2
          have hbo := box_lt hBo2
          obtain ⟨kk, k0, k1, k2, k3, k4, k5, k6, k7, k8⟩ := (TB2.out.below hB.out).cells
          obtain ⟨q0, q1, q2, f0, f1, f2⟩ := box3_cells hBo2
          clear hO2 hBo2 hS hO hBo
          go_wp2_with (go_at_call 38; refine (pay_any _ _ _ t.rungs S _ hm.2.2 hrok ⟨hSin.1, by omega⟩ (h.below HBW.out).r).mono ?_; rintro e w9 ⟨rfl, hb9⟩; have HB9 := Lib.hid (HBW.out.trans (hb9.mono HBW.out.size)); have HO9 := Lib.hid (HOG.out.below hb9); have HBo9 := Lib.hid (box_below HBoS.out hb9); have HRB9 := Lib.hid (box_below HRB.out hb9); obtain ⟨q0, q1, q2, f0, f1, f2⟩ := box3_cells HBo9.out; obtain ⟨r0, r1, r2, g0, g1, g2⟩ := box3_cells HRB9.out; have hs9 := box_lt HBo9.out; clear hb9)
          have hc1 := heap_setCell_same w9 w2.heap.size 2 _ _ (Value.int .i64 (payOf t.rungs S)) HBo9.out
          have hc2 : (w9.setCell ⟨w2.heap.size, 2, none⟩ (.int .i64 (payOf t.rungs S))).heap[w.heap.size + 1]? = some (.cells #[.slice none 0 0, .int .i64 0, .int .i64 0] 61 (0, 0)) := (heap_setCell_other _ _ _ _ (by simp; omega)).trans HRB9.out
          refine bodyPost_ret (results_row_tmp rfl _ _ (w.heap.size + 1) _ _ _ _ rfl (box3_set hc2 _ _ _) Try.underlying61 rfl (by kernel_rfl)) rfl ?_
          refine ⟨_, ret_pair rfl, ⟨ao, G.length, co, gh, ?_, ?_⟩, ?_⟩
          · rw [HS.out]
          · have o1 := HO9.out.box HBo9.out (by decide) (by decide) (setCell_grown w9 w2.heap.size 2 (.int .i64 (payOf t.rungs S)))
            have d1 := heap_setCell_same _ (w.heap.size + 1) 0 _ _ (Value.slice ao G.length co) hc2
            have d2 := heap_setCell_same _ (w.heap.size + 1) 1 _ _ (Value.int .i64 S) d1
            have o2 := o1.box hc2 (by decide) (by decide) (setCell_grown _ (w.heap.size + 1) 0 (.slice ao G.length co))
            have o3 := o2.box d1 (by decide) (by decide) (setCell_grown _ (w.heap.size + 1) 1 (.int .i64 S))
            have o4 := o3.box d2 (by decide) (by decide) (setCell_grown _ (w.heap.size + 1) 2 (.int .i64 (payOf t.rungs S)))
            exact o4.lower (by omega)
          · exact below_set3 (HB9.out.setCell (p := ⟨w2.heap.size, 2, none⟩) (by show w.heap.size ≤ w2.heap.size; omega) _) (by omega) _ _ _
end Go.Proofs.Ytgdhlhjflbinmaa
