/- Networks: a way's weight, walked both ways; what it is against the distance of its ends. -/
import Derived.Test.YteihffnmgacfpaaNuQ
import Derived.Test.YteihffnmgacfpaaNsC
import Derived.Test.YteihffnmgacfpaaNeM
import Derived.Deep.RegionHeld3
namespace Go.Proofs.Yteihffnmgacfpaa.Ne
open Go.RowKit Go.V Go.Proofs Go.Sort

/-! ### The plain weight -/
def wRun (L : List Lnk) (xs : List Int) : Nat → Nat → Int → Int × Bool
  | 0, _, acc => (acc, true)
  | c + 1, i, acc => if wtE L (xs.getD i 0) (xs.getD (i + 1) 0) = 0 then (0, false) else wRun L xs c (i + 1) (acc + wtE L (xs.getD i 0) (xs.getD (i + 1) 0))
def wayW (L : List Lnk) (k : Nat) (xs : List Int) : Int × Bool := if xs = [] ∨ ¬ (0 ≤ xs.getD 0 0 ∧ xs.getD 0 0 < k) then (0, false) else wRun L xs (xs.length - 1) 0 0
theorem wRun_step {L : List Lnk} {xs : List Int} {c i : Nat} {acc x : Int} (h : wtE L (xs.getD i 0) (xs.getD (i + 1) 0) = x) (hx : x ≠ 0) : wRun L xs (c + 1) i acc = wRun L xs c (i + 1) (acc + x) := by
  show (if _ then _ else _) = _
  rw [h, if_neg hx]
theorem wRun_stop {L : List Lnk} {xs : List Int} {c i : Nat} {acc : Int} (h : wtE L (xs.getD i 0) (xs.getD (i + 1) 0) = 0) : wRun L xs (c + 1) i acc = (0, false) := by
  show (if _ then _ else _) = _
  rw [if_pos h]

theorem first_at {α : Type} {p : α → Prop} [DecidablePred p] : ∀ {M : List α}, (∃ x ∈ M, p x) → ∃ (j : Nat) (x : α), M[j]? = some x ∧ p x ∧ ∀ (i : Nat) (y : α), i < j → M[i]? = some y → ¬ p y
  | [], h => by obtain ⟨x, hx, -⟩ := h; simp at hx
  | x :: M, h => by
    by_cases hp : p x
    · exact ⟨0, x, rfl, hp, fun i y hi => absurd hi (by omega)⟩
    · obtain ⟨y, hy, hpy⟩ := h
      rcases List.mem_cons.1 hy with e | hy
      · rw [e] at hpy; exact absurd hpy hp
      · obtain ⟨j, z, h1, h2, h3⟩ := first_at (M := M) ⟨y, hy, hpy⟩
        refine ⟨j + 1, z, by rw [List.getElem?_cons_succ]; exact h1, h2, fun i u hi hu => ?_⟩
        cases i with
        | zero => simp at hu; subst hu; exact hp
        | succ i => rw [List.getElem?_cons_succ] at hu; exact h3 i u (by omega) hu
theorem near_no {L : List Lnk} {k : Nat} (hL : LinksOk L k) (hp : L.Pairwise fun a b => aftB a b = true) {s t : Int} (h : wtE L s t = 0) : ∀ x ∈ nearL L s, x.b ≠ t := by
  intro x hx e
  obtain ⟨h1, h2⟩ := mem_nearL hx
  have := (edge_wt hL hp h2).2
  rw [e] at this; exact this h
theorem near_yes {L : List Lnk} {k : Nat} (hL : LinksOk L k) (hp : L.Pairwise fun a b => aftB a b = true) {s t : Int} (h : wtE L s t ≠ 0) : ∃ (j : Nat) (x : Lnk), (nearL L s)[j]? = some x ∧ x.b = t ∧ x.w = wtE L s t ∧ ∀ (i : Nat) (y : Lnk), i < j → (nearL L s)[i]? = some y → y.b ≠ t := by
  have he := wt_edge h
  have hm := nearL_mem he (hL.edge he).2.2.2.2.1
  obtain ⟨j, x, h1, h2, h3⟩ := first_at (p := fun x : Lnk => x.b = t) ⟨_, hm, rfl⟩
  refine ⟨j, x, h1, h2, ?_, h3⟩
  obtain ⟨g1, g2⟩ := mem_nearL (List.mem_of_getElem? h1)
  have := (edge_wt hL hp g2).1
  rw [h2] at this; exact this.symm

/-! ### The question, and who asks it -/
set_option maxHeartbeats 1000000 in
theorem wcl_any (l : Lnk) (gw gi i : Nat) (wa : Option Addr) (wn wc : Nat) (xs : List Int) (t : Int) (w : World) (h1 : w.cell? ⟨gw, 0, none⟩ = some (.slice wa wn wc)) (h2 : w.cell? ⟨gi, 0, none⟩ = some (.int .i64 i)) (hs : Sl icod w wa wn wc xs) (hi : i < wn) (ht : xs[i]? = some t) :
    Calls Try.prog 84 #[lval l, .pointer (some ⟨gw, 0, none⟩), .pointer (some ⟨gi, 0, none⟩)] w fun e w' => e = .returned (.bool (l.b == t)) ∧ Below w.heap.size w w' := by
  have mixed : Try.prog.follows .mixedOrders = true := by kernel_rfl
  obtain ⟨b, off, r, rfl, hbl, hr, c0⟩ := int_at hs hi
  have hrt := Option.some.inj (hr.symm.trans ht)
  subst hrt
  have g1 := World.block_lt_of_cell? w _ h1
  have g2 := World.block_lt_of_cell? w _ h2
  have HB : Hid (Below w.heap.size w (w.alloc (.cells #[.int .i64 l.a, .int .i64 l.b, .int .i64 l.w] 49))) := (Below.refl _ _).alloc (Nat.le_refl _) _
  have hii : (i : Int) < (wn : Int) := by omega
  clear hr ht
  go_enter Try.func84, Try.ntmps84
  go_wp2_with fail
  go_quiet (fail)
  go_wp2_with fail
  go_ret
  exact ⟨rfl, below_drewN HB.out _⟩

set_option maxHeartbeats 2000000 in
theorem ixf_any (na : Option Addr) (nn nc : Nat) (M : List Lnk) (gw gi i : Nat) (wa : Option Addr) (wn wc : Nat) (xs : List Int) (t : Int) (w : World) (hm : Sl lcod w na nn nc M) (h1 : w.cell? ⟨gw, 0, none⟩ = some (.slice wa wn wc)) (h2 : w.cell? ⟨gi, 0, none⟩ = some (.int .i64 i)) (hs : Sl icod w wa wn wc xs) (hi : i < wn) (ht : xs[i]? = some t) :
    Calls Try.prog 83 #[.slice na nn nc, .func (.func 84) #[] #[.pointer (some ⟨gw, 0, none⟩), .pointer (some ⟨gi, 0, none⟩)]] w fun e w' => ∃ r : Int, e = .returned (.int .i64 r) ∧ ((∀ x ∈ M, x.b ≠ t) ∧ r = -1 ∨ ∃ (j : Nat) (x : Lnk), M[j]? = some x ∧ x.b = t ∧ (∀ (i : Nat) (y : Lnk), i < j → M[i]? = some y → y.b ≠ t) ∧ r = j) ∧ Below w.heap.size w w' := by
  have mixed : Try.prog.follows .mixedOrders = true := by kernel_rfl
  have HM := Lib.hid hm
  have HML := Lib.hid hm.hlen
  have hn9 : nn ≤ 9223372036854775807 := by have h1 : nn ≤ nc := hm.hcap; have h2 : nc ≤ maxLen := hm.hmax; unfold maxLen at h2; omega
  have HC1 := Lib.hid h1
  have HC2 := Lib.hid h2
  have HS := Lib.hid hs
  have HG : Hid (gw < w.heap.size ∧ gi < w.heap.size) := ⟨World.block_lt_of_cell? w _ h1, World.block_lt_of_cell? w _ h2⟩
  clear hm h1 h2 hs
  go_enter Try.func83, Try.ntmps83
  go_wp2_with fail
  go_loopw [8] (fun v wr => ∃ j : Nat, v = .int .i64 j ∧ j ≤ nn ∧ Hid (∀ (i : Nat) (y : Lnk), i < j → M[i]? = some y → y.b ≠ t) ∧ Hid (Below w.heap.size w wr)) (fun v _ => nn - (intOf v).toNat)
  case atStart => exact ⟨0, by go_num, by omega, (fun i y hi => absurd hi (by omega)), Below.refl _ _⟩
  case round =>
    obtain ⟨j, rfl, hj, HN, HB⟩ := hrel
    by_cases hlt : j < nn
    · obtain ⟨b', off, l, e1, hbl, hr, p0, p1, p2⟩ := lnk_at (HM.out.below HB.out) hlt
      have e1 : na = _ := e1
      subst e1
      have HR := Lib.hid hr
      clear hr
      obtain ⟨bb, hbb⟩ : ∃ bb, (l.b == t) = bb := ⟨_, rfl⟩
      have HBB := Lib.hid hbb
      clear hbb
      have hji : (j : Int) < (nn : Int) := by omega
      cases bb with
      | true =>
        go_wp2_with (go_at_call 84; go_loud (refine (wcl_any l gw gi i wa wn wc xs t wr ((HB.out.cell (p := ⟨gw, 0, none⟩) HG.out.1).trans HC1.out) ((HB.out.cell (p := ⟨gi, 0, none⟩) HG.out.2).trans HC2.out) (HS.out.below HB.out) hi ht).mono ?_); rintro e w1 ⟨rfl, hb1⟩; rw [HBB.out]; have HB1 := Lib.hid (HB.out.trans (hb1.mono HB.out.size)); clear hb1)
        go_ret
        exact ⟨_, rfl, .inr ⟨j, l, HR.out, by have := HBB.out; simpa using this, HN.out, rfl⟩, HB1.out⟩
      | false =>
        have HN2 : Hid (∀ (i : Nat) (y : Lnk), i < j + 1 → M[i]? = some y → y.b ≠ t) := by
          intro i y hi hy
          by_cases e : i = j
          · subst e
            have := Option.some.inj (hy.symm.trans HR.out)
            subst this
            have := HBB.out
            simpa using this
          · exact HN.out i y (by omega) hy
        go_wp2_with (go_at_call 84; go_loud (refine (wcl_any l gw gi i wa wn wc xs t wr ((HB.out.cell (p := ⟨gw, 0, none⟩) HG.out.1).trans HC1.out) ((HB.out.cell (p := ⟨gi, 0, none⟩) HG.out.2).trans HC2.out) (HS.out.below HB.out) hi ht).mono ?_); rintro e w1 ⟨rfl, hb1⟩; rw [HBB.out]; have HB1 := Lib.hid (HB.out.trans (hb1.mono HB.out.size)); clear hb1)
        go_roundw
        case rel => exact ⟨j + 1, by go_num, by omega, HN2.out, HB1.out⟩
        case measure => simp [intOf]; omega
    · have hjn : nn = j := by omega
      subst hjn
      go_wp2_with fail
      go_ret
      refine ⟨_, rfl, .inl ⟨fun x hx => ?_, rfl⟩, HB.out⟩
      obtain ⟨i, hi⟩ := List.getElem?_of_mem hx
      exact HN.out i x (by rw [HML.out]; exact (List.getElem?_eq_some_iff.1 hi).1) hi

/-- What path.Weight has in memory. -/
structure PW (w wr : World) (n : Net) (hs hl : Hdr) (z g : Nat) (wa : Option Addr) (wn wc i : Nat) : Prop where
  bx : wr.heap[z]? = some (n.box hs hl)
  wy : wr.heap[z + 1]? = some (.cells #[.slice wa wn wc] 42 (0, 0))
  iv : wr.heap[g]? = some (.cells #[.int .i64 (i : Int)] 3 (0, 0))
  bl : Below z w wr
  gz : z + 1 < g
section
variable {w wr w' : World} {n : Net} {hs hl : Hdr} {z g : Nat} {wa : Option Addr} {wn wc i : Nat}
theorem PW.below (h : PW w wr n hs hl z g wa wn wc i) (hb : Below wr.heap.size wr w') : PW w w' n hs hl z g wa wn wc i :=
  ⟨box_below h.bx hb, box_below h.wy hb, box_below h.iv hb, h.bl.trans (hb.mono (by have := box_lt h.bx; omega)), h.gz⟩
end

theorem near_w {L : List Lnk} {k : Nat} (hL : LinksOk L k) (hp : L.Pairwise fun a b => aftB a b = true) {s t : Int} {x : Lnk} (hx : x ∈ nearL L s) (e : x.b = t) : wtE L s t = x.w ∧ wtE L s t ≠ 0 := by
  obtain ⟨h1, h2⟩ := mem_nearL hx
  rw [e] at h2
  exact edge_wt hL hp h2

set_option maxHeartbeats 4000000 in
set_option maxRecDepth 100000 in
theorem pweight_any (n : Net) (hs hl : Hdr) (wa : Option Addr) (wn wc : Nat) (xs : List Int) (w : World) (h : NetIn w n hs hl) (hok : checkE n = 0) (hx : Sl icod w wa wn wc xs) (h1000 : wn ≤ 30000000000) :
    Calls Try.prog 46 #[n.val hs hl, .slice wa wn wc] w fun e w' => e = .returned (.tuple #[.int .i64 (wayW n.links hs.n xs).1, .bool (wayW n.links hs.n xs).2]) ∧ Below w.heap.size w w' := by
  have mixed : Try.prog.follows .mixedOrders = true := by kernel_rfl
  obtain ⟨kk1, kk2, -, -, kk5, kk6⟩ := check_ok hok
  have HKN := Lib.hid h.s.hlen
  have HLN := Lib.hid h.l.hlen
  obtain ⟨sa, k, sc⟩ := hs
  obtain ⟨la, m, lc⟩ := hl
  have hm4 : m ≤ 16384 := by have e : m = n.links.length := HLN.out; omega
  have HLO : Hid (LinksOk n.links k) := by have e : k = n.stops.length := HKN.out; show LinksOk _ _; rw [e]; exact kk5
  have HPW := Lib.hid kk6
  have HH := Lib.hid h
  have HS := Lib.hid hx
  have HXL := Lib.hid hx.hlen
  have hwn : wn ≤ 9223372036854775807 := by omega
  have HX0 := Lib.hid (box_alloc (o := .cells #[.slice wa wn wc] 42) (box_new w (n.box ⟨sa, k, sc⟩ ⟨la, m, lc⟩)))
  have HY0 : Hid (((w.alloc (n.box ⟨sa, k, sc⟩ ⟨la, m, lc⟩)).alloc (.cells #[.slice wa wn wc] 42)).heap[w.heap.size + 1]? = some (.cells #[.slice wa wn wc] 42 (0, 0))) := by
    show _ = _
    rw [show w.heap.size + 1 = (w.alloc (n.box ⟨sa, k, sc⟩ ⟨la, m, lc⟩)).heap.size by simp]
    exact box_new _ _
  have HB0 : Hid (Below w.heap.size w ((w.alloc (n.box ⟨sa, k, sc⟩ ⟨la, m, lc⟩)).alloc (.cells #[.slice wa wn wc] 42))) := ((Below.refl _ _).alloc (Nat.le_refl _) _).alloc (by simp) _
  obtain ⟨ab, hab⟩ : ∃ ab, wayW n.links k xs = ab := ⟨_, rfl⟩
  have HAB := Lib.hid hab
  rw [hab]
  clear h hx kk1 kk2 kk5 kk6 hok hab
  obtain ⟨A, bo⟩ := ab
  by_cases h0 : wn = 0
  · subst h0
    have hxs : xs = [] := List.eq_nil_of_length_eq_zero HXL.out.symm
    have hr : ((0 : Int), false) = (A, bo) := by rw [← HAB.out]; unfold wayW; rw [if_pos (.inl hxs)]
    cases hr
    go_enter Try.func46, Try.ntmps46
    go_upto_region 1 with fail
    go_quiet (fail)
    go_wp2_with fail
    go_ret2
    exact ⟨rfl, below_drewN HB0.out _⟩
  · have hxl : 0 < xs.length := by have e : wn = xs.length := HXL.out; omega
    have hne : xs ≠ [] := fun e => by rw [e] at hxl; simp at hxl
    obtain ⟨x0, hx0⟩ : ∃ x, xs[0]? = some x := ⟨xs[0], List.getElem?_eq_getElem hxl⟩
    have hg0 : xs.getD 0 0 = x0 := by rw [List.getD_eq_getElem?_getD, hx0]; rfl
    have hwb : ((wn : Int) == 0) = false := by simpa using h0
    have hwi : (0 : Int) < (wn : Int) := by omega
    have hwn0 : 0 < wn := by omega
    obtain ⟨b, off, r, e1, hbl, hr, p0⟩ := int_at (HS.out.below HB0.out) (show 0 < wn by omega)
    have hr2 := Option.some.inj (hr.symm.trans hx0)
    subst hr2
    have e1 : wa = _ := e1
    subst e1
    rw [Nat.add_zero] at p0
    obtain ⟨ib, hib⟩ : ∃ ib, decide (0 ≤ r ∧ r < (k : Int)) = ib := ⟨_, rfl⟩
    have HIB := Lib.hid hib
    have HG0 := Lib.hid hg0
    have HNE := Lib.hid hne
    clear hib hg0 hne hr hx0 hxl
    go_enter Try.func46, Try.ntmps46
    go_upto_region 1 with fail
    unfold Net.box at HX0 HY0 HB0
    obtain ⟨X, hX⟩ : ∃ X, (w.alloc (.cells #[.int .i64 n.ver, .slice sa k sc, .slice la m lc] 25)).alloc (.cells #[.slice (some ⟨b, off, none⟩) wn wc] 42) = X := ⟨_, rfl⟩
    unfold Net.box at hbl p0
    rw [hX] at HX0 HY0 HB0 hbl p0 ⊢
    clear hX
    obtain ⟨z, hz⟩ : ∃ z, w.heap.size = z := ⟨_, rfl⟩
    have HZ := Lib.hid hz
    rw [hz] at HX0 HY0 HB0 ⊢
    clear hz
    obtain ⟨c0, c1, c2, -, -, -⟩ := box3_cells HX0.out
    have g0 : X.cell? ⟨z + 1, 0, none⟩ = some (.slice (some ⟨b, off, none⟩) wn wc) := (box_cell HY0.out 0).1
    have HB0' : Hid (Below w.heap.size w X) := by show Below _ _ _; rw [HZ.out]; exact HB0.out
    go_region_held3 (fun w' => w'.cell? ⟨z, 0, none⟩ = some (.int .i64 n.ver) ∧ w'.cell? ⟨z, 1, none⟩ = some (.slice sa k sc) ∧ w'.cell? ⟨z, 2, none⟩ = some (.slice la m lc) ∧ w'.cell? ⟨z + 1, 0, none⟩ = some (.slice (some ⟨b, off, none⟩) wn wc) ∧ w'.cell? ⟨b, off, none⟩ = some (.int .i64 r))
      (first | go_keep | (exact ⟨d0, d1, d2, h0', q0⟩))
      (first
        | (go_at_call 74; go_loud (refine (pis_any n ⟨sa, k, sc⟩ ⟨la, m, lc⟩ r X.drew).mono ?_); rintro e w1 ⟨rfl, hb1⟩; rw [HIB.out]; have HB1 := Lib.hid (HB0.out.trans ((Below.refl z X).drew.trans (hb1.mono (by have := box_lt HX0.out; show z ≤ X.heap.size; omega)))); have HX1 := Lib.hid (box_below (w := X.drew) HX0.out hb1); have HY1 := Lib.hid (box_below (w := X.drew) HY0.out hb1); obtain ⟨d0, d1, d2, -, -, -⟩ := box3_cells HX1.out; have h0' := (box_cell HY1.out 0).1; have q0 := (hb1.cell (p := ⟨b, off, none⟩) hbl).trans p0; clear hb1))
    clear c0 c1 c2 g0 d0 d1 d2 h0' q0 HX0 HY0 HB0 HB0' p0 hbl
    have hw1 := box_lt HY1.out
    cases ib with
    | false =>
      have hr : ((0 : Int), false) = (A, bo) := by
        rw [← HAB.out]; unfold wayW
        rw [if_pos (.inr (by rw [HG0.out]; exact of_decide_eq_false HIB.out))]
      cases hr
      go_wp2_with fail
      go_ret2
      exact ⟨rfl, by rw [HZ.out]; exact HB1.out⟩
    | true =>
      have HRun : Hid (wRun n.links xs (wn - 1) 0 0 = (A, bo)) := by
        show _ = _
        rw [← HAB.out]; unfold wayW
        rw [if_neg (by rw [HG0.out]; exact fun h => h.elim (fun h => HNE.out h) (fun h => h (of_decide_eq_true HIB.out))), ← HXL.out]
      clear HIB HAB HG0
      have HP0 : Hid (PW w (w1.alloc (.cells #[.int .i64 1] 3)) n ⟨sa, k, sc⟩ ⟨la, m, lc⟩ z w1.heap.size (some ⟨b, off, none⟩) wn wc 1) :=
        ⟨box_alloc HX1.out, box_alloc HY1.out, box_new _ _, HB1.out.alloc (by omega) _, hw1⟩
      go_wp2_with fail
      go_loopg [6, 7] wn (fun kx acc ip wr => ∃ (j g : Nat) (S : Int), acc = .int .i64 S ∧ ip = .pointer (some ⟨g, 0, none⟩) ∧ j + 1 ≤ wn ∧ wn - (j + 1) ≤ kx ∧ kx ≤ 30000000000 ∧ Hid (PW w wr n ⟨sa, k, sc⟩ ⟨la, m, lc⟩ z g (some ⟨b, off, none⟩) wn wc (j + 1)) ∧ 0 ≤ S ∧ S ≤ j * 1048575 ∧ Hid (wRun n.links xs (wn - (j + 1)) j S = (A, bo)))
      case atStart => exact ⟨0, _, 0, by go_num, rfl, by omega, by omega, by omega, HP0.out, by omega, by omega, HRun.out⟩
      case round =>
        clear HRun HP0 HX1 HY1 HB1 hw1
        obtain ⟨j, g, S, rfl, rfl, hj, hkx, hk9, HP, hS0, hS1, HRun⟩ := hrel
        obtain ⟨c0, c1, c2, -, -, -⟩ := box3_cells HP.out.bx
        have g0 : wr.cell? ⟨z + 1, 0, none⟩ = some (.slice (some ⟨b, off, none⟩) wn wc) := (box_cell HP.out.wy 0).1
        have v0 : wr.cell? ⟨g, 0, none⟩ = some (.int .i64 ((j : Int) + 1)) := (box_cell HP.out.iv 0).1
        by_cases hlt : j + 1 < wn
        · have HBw : Hid (Below w.heap.size w wr) := by show Below _ _ _; rw [HZ.out]; exact HP.out.bl
          obtain ⟨b', off', s, e2, hbl, hs, p0⟩ := int_at (HS.out.below HBw.out) (show j < wn by omega)
          obtain ⟨b2, off2, t, e3, -, ht, -⟩ := int_at (HS.out.below HBw.out) hlt
          cases e2
          clear e3
          have HT := Lib.hid ht
          have hj1 : IntKind.i64.wrap (j : Int) = (j : Int) := by rw [IntKind.wrap_i64]; omega
          have hjw : (j : Int) < (wn : Int) := by omega
          have hjw2 : (j : Int) + 1 < (wn : Int) := by omega
          have hXW : wtE n.links (xs.getD j 0) (xs.getD (j + 1) 0) = wtE n.links s t := by rw [List.getD_eq_getElem?_getD, List.getD_eq_getElem?_getD, hs, ht]; rfl
          have HXW := Lib.hid hXW
          have HPd := Lib.hid (HP.out.below (Below.drew (Below.refl _ _)))
          clear hs ht hXW
          go_upto_region 7 with fail
          go_region_held3 (fun w' => w'.cell? ⟨z, 0, none⟩ = some (.int .i64 n.ver) ∧ w'.cell? ⟨z, 1, none⟩ = some (.slice sa k sc) ∧ w'.cell? ⟨z, 2, none⟩ = some (.slice la m lc) ∧ w'.cell? ⟨z + 1, 0, none⟩ = some (.slice (some ⟨b, off, none⟩) wn wc) ∧ w'.cell? ⟨g, 0, none⟩ = some (.int .i64 ((j : Int) + 1)) ∧ w'.cell? ⟨b, off + j, none⟩ = some (.int .i64 s))
            (first | go_keep | (exact ⟨d0, d1, d2, h0', u0, q0⟩))
            (first
              | (go_at_call 29; go_loud (refine (near_any n ⟨sa, k, sc⟩ ⟨la, m, lc⟩ s wr.drew (by show m ≤ 1000000; omega) (HH.out.below (by rw [HZ.out]; exact HPd.out.bl))).mono ?_); rintro e w3 ⟨v3, rfl, ho3, hb3⟩; obtain ⟨na, nc, hv3, hsl3, -⟩ := ho3.slice; subst hv3; have HN3 := Lib.hid hsl3; have HP3 := Lib.hid (HPd.out.below hb3); obtain ⟨d0, d1, d2, -, -, -⟩ := box3_cells HP3.out.bx; have h0' := (box_cell HP3.out.wy 0).1; have u0 := (box_cell HP3.out.iv 0).1; have q0 := (hb3.cell (p := ⟨b, off + j, none⟩) hbl).trans p0; clear hb3 ho3 hsl3))
          clear c0 c1 c2 g0 v0 d0 d1 d2 h0' u0 q0 p0 hbl HP HPd
          obtain ⟨nn, hnn⟩ : ∃ nn, (nearL n.links s).length = nn := ⟨_, rfl⟩
          rw [hnn] at HN3 ⊢
          clear hnn
          have HW3 : Hid (w3.cell? ⟨z + 1, 0, none⟩ = some (.slice (some ⟨b, off, none⟩) wn wc) ∧ w3.cell? ⟨g, 0, none⟩ = some (.int .i64 ((j + 1 : Nat) : Int))) := ⟨(box_cell HP3.out.wy 0).1, (box_cell HP3.out.iv 0).1⟩
          have HS3 : Hid (Sl icod w3 (some ⟨b, off, none⟩) wn wc xs) := HS.out.below (by rw [HZ.out]; exact HP3.out.bl)
          go_upto_region 9 with (go_at_call 83; go_loud (refine (ixf_any na nn nc (nearL n.links s) (z + 1) g (j + 1) (some ⟨b, off, none⟩) wn wc xs t w3 HN3.out HW3.out.1 HW3.out.2 HS3.out hlt HT.out).mono ?_); rintro e w4 ⟨q, rfl, hq, hb4⟩; have HQ := Lib.hid hq; have HP4 := Lib.hid (HP3.out.below hb4); have HN4 := Lib.hid (HN3.out.below hb4); clear hq hb4)
          rcases HQ.out with ⟨hno, hq⟩ | ⟨j', x, hjx, hxb, -, hq⟩
          · subst hq
            have hz : wtE n.links s t = 0 := Classical.byContradiction fun h => by
              obtain ⟨_, x, h1, h2, -⟩ := near_yes HLO.out HPW.out h
              exact hno x (List.mem_of_getElem? h1) h2
            have hr : ((0 : Int), false) = (A, bo) := by
              rw [← HRun.out, show wn - (j + 1) = (wn - (j + 1) - 1) + 1 by omega]
              exact (wRun_stop (by rw [HXW.out]; exact hz)).symm
            cases hr
            clear hno
            go_wp2_with fail
            go_ret2
            exact ⟨rfl, by rw [HZ.out]; exact HP4.out.bl⟩
          · subst hq
            obtain ⟨hw, hwne⟩ := near_w HLO.out HPW.out (List.mem_of_getElem? hjx) hxb
            have hlim := wt_lim HLO.out s t
            have hjn : j' < nn := by have := (List.getElem?_eq_some_iff.1 hjx).1; have e : nn = (nearL n.links s).length := HN4.out.hlen; omega
            obtain ⟨b4, off4, x', e4, -, hx', -, -, r2⟩ := lnk_at HN4.out hjn
            have hxx := Option.some.inj (hx'.symm.trans hjx)
            subst hxx
            have e4 : na = _ := e4
            subst e4
            have HR2 : Hid (wRun n.links xs (wn - (j + 1 + 1)) (j + 1) (S + x'.w) = (A, bo)) := by
              show _ = _
              rw [← HRun.out, show wn - (j + 1) = (wn - (j + 1 + 1)) + 1 by omega]
              exact (wRun_step (by rw [HXW.out]; exact hw) (by rw [← hw]; exact hwne)).symm
            have hq0 : decide ((j' : Int) < 0) = false := decide_eq_false (by omega)
            have hqn : (j' : Int) < (nn : Int) := by omega
            rw [hw] at hlim hwne
            obtain ⟨c, hc⟩ : ∃ c, x'.w = c := ⟨_, rfl⟩
            rw [hc] at r2 hlim hwne HR2
            have v0 : w4.cell? ⟨g, 0, none⟩ = some (.int .i64 ((j : Int) + 1)) := (box_cell HP4.out.iv 0).1
            have vlt := box_lt HP4.out.iv
            have HP5 : Hid (PW w (w4.alloc (.cells #[.int .i64 ((j + 1 + 1 : Nat) : Int)] 3)) n ⟨sa, k, sc⟩ ⟨la, m, lc⟩ z w4.heap.size (some ⟨b, off, none⟩) wn wc (j + 1 + 1)) :=
              ⟨box_alloc HP4.out.bx, box_alloc HP4.out.wy, box_new _ _, HP4.out.bl.alloc (by have := box_lt HP4.out.bx; omega) _, by have := HP4.out.gz; omega⟩
            have hmul : (j : Int) * 1048575 ≤ 30000000000 * 1048575 := by omega
            clear hjx hx' hxb hw hc HRun HQ HP3 HW3 HS3 HN3
            go_wp2_with fail
            go_roundg (wn - (j + 1 + 1))
            case measure => omega
            case rel => exact ⟨j + 1, _, S + c, by go_num, rfl, by omega, by omega, by omega, HP5.out, by omega, by omega, HR2.out⟩
        · have hjw : wn = j + 1 := by omega
          subst hjw
          have hr : (S, true) = (A, bo) := by
            rw [← HRun.out, show j + 1 - (j + 1) = 0 by omega]; rfl
          cases hr
          go_wp2_with fail
          go_ret2
          exact ⟨rfl, by rw [HZ.out]; exact HP.out.bl⟩

set_option maxHeartbeats 4000000 in
set_option maxRecDepth 100000 in
theorem rweight_any (n : Net) (hs hl : Hdr) (wa : Option Addr) (wn wc : Nat) (xs : List Int) (w : World) (h : NetIn w n hs hl) (hok : checkE n = 0) (hx : Sl icod w wa wn wc xs) (h1000 : wn ≤ 1000) :
    Calls Try.prog 47 #[n.val hs hl, .slice wa wn wc] w fun e w' => e = .returned (.tuple #[.int .i64 (wayW n.links hs.n xs).1, .bool (wayW n.links hs.n xs).2]) ∧ Below w.heap.size w w' := by
  have mixed : Try.prog.follows .mixedOrders = true := by kernel_rfl
  obtain ⟨kk1, kk2, -, -, kk5, kk6⟩ := check_ok hok
  have HKN := Lib.hid h.s.hlen
  obtain ⟨sa, k, sc⟩ := hs
  obtain ⟨la, m, lc⟩ := hl
  have HLO : Hid (LinksOk n.links k) := by have e : k = n.stops.length := HKN.out; show LinksOk _ _; rw [e]; exact kk5
  have HH := Lib.hid h
  have HS := Lib.hid hx
  have HXL := Lib.hid hx.hlen
  have hwn : wn ≤ 9223372036854775807 := by omega
  have HX0 := Lib.hid (box_new w (n.box ⟨sa, k, sc⟩ ⟨la, m, lc⟩))
  have HB0 : Hid (Below w.heap.size w (w.alloc (n.box ⟨sa, k, sc⟩ ⟨la, m, lc⟩))) := (Below.refl _ _).alloc (Nat.le_refl _) _
  obtain ⟨ab, hab⟩ : ∃ ab, wayW n.links k xs = ab := ⟨_, rfl⟩
  have HAB := Lib.hid hab
  rw [hab]
  clear h hx kk1 kk2 kk5 kk6 hok hab
  obtain ⟨A, bo⟩ := ab
  by_cases h0 : wn = 0
  · subst h0
    have hxs : xs = [] := List.eq_nil_of_length_eq_zero HXL.out.symm
    have hr : ((0 : Int), false) = (A, bo) := by rw [← HAB.out]; unfold wayW; rw [if_pos (.inl hxs)]
    cases hr
    go_enter Try.func47, Try.ntmps47
    go_upto_region 1 with fail
    go_quiet (fail)
    go_wp2_with fail
    go_ret2
    exact ⟨rfl, below_drewN HB0.out _⟩
  · have hxl : 0 < xs.length := by have e : wn = xs.length := HXL.out; omega
    have hne : xs ≠ [] := fun e => by rw [e] at hxl; simp at hxl
    obtain ⟨x0, hx0⟩ : ∃ x, xs[0]? = some x := ⟨xs[0], List.getElem?_eq_getElem hxl⟩
    have hg0 : xs.getD 0 0 = x0 := by rw [List.getD_eq_getElem?_getD, hx0]; rfl
    have hwb : ((wn : Int) == 0) = false := by simpa using h0
    have hwi : (0 : Int) < (wn : Int) := by omega
    have hwn0 : 0 < wn := by omega
    obtain ⟨b, off, r, e1, hbl, hr, p0⟩ := int_at (HS.out.below HB0.out) (show 0 < wn by omega)
    have hr2 := Option.some.inj (hr.symm.trans hx0)
    subst hr2
    have e1 : wa = _ := e1
    subst e1
    rw [Nat.add_zero] at p0
    have HG0 := Lib.hid hg0
    have HNE := Lib.hid hne
    clear hg0 hne hr hx0 hxl
    obtain ⟨c0, c1, c2, -, -, -⟩ := box3_cells HX0.out
    by_cases hr0 : r < 0
    · have hr : ((0 : Int), false) = (A, bo) := by
        rw [← HAB.out]; unfold wayW
        rw [if_pos (.inr (by rw [HG0.out]; omega))]
      cases hr
      have q0 : decide (r < 0) = true := decide_eq_true hr0
      go_enter Try.func47, Try.ntmps47
      go_upto_region 1 with fail
      go_quiet (fail)
      go_wp2_with fail
      go_ret2
      exact ⟨rfl, below_drewN HB0.out _⟩
    · have q0 : decide (r < 0) = false := decide_eq_false hr0
      by_cases hr1 : (k : Int) ≤ r
      · have hr : ((0 : Int), false) = (A, bo) := by
          rw [← HAB.out]; unfold wayW
          rw [if_pos (.inr (by rw [HG0.out]; omega))]
        cases hr
        have q1 : decide ((k : Int) ≤ r) = true := decide_eq_true hr1
        go_enter Try.func47, Try.ntmps47
        go_upto_region 1 with fail
        go_quiet (fail)
        go_wp2_with fail
        go_ret2
        exact ⟨rfl, below_drewN HB0.out _⟩
      · have q1 : decide ((k : Int) ≤ r) = false := decide_eq_false hr1
        have HRun : Hid (wRun n.links xs (wn - 1) 0 0 = (A, bo)) := by
          show _ = _
          rw [← HAB.out]; unfold wayW
          rw [if_neg (by rw [HG0.out]; exact fun h => h.elim (fun h => HNE.out h) (fun h => h (by omega))), ← HXL.out]
        clear HAB HG0
        go_enter Try.func47, Try.ntmps47
        go_upto_region 1 with fail
        go_quiet (fail)
        go_wp2_with fail
        clear c0 c1 c2 p0
        go_loopw [6, 7] (fun acc i wr => ∃ (j : Nat) (S : Int), acc = .int .i64 S ∧ i = .int .i64 j ∧ j + 1 ≤ wn ∧ Hid (wr.heap[w.heap.size]? = some (n.box ⟨sa, k, sc⟩ ⟨la, m, lc⟩)) ∧ Hid (Below w.heap.size w wr) ∧ 0 ≤ S ∧ S ≤ j * 1048575 ∧ Hid (wRun n.links xs (wn - (j + 1)) j S = (A, bo))) (fun _ i _ => wn - (intOf i).toNat)
        case atStart => exact ⟨0, 0, by go_num, by go_num, by omega, box_below HX0.out (below_drewN (Below.refl _ _) _), below_drewN HB0.out _, by omega, by omega, HRun.out⟩
        case round =>
          clear HRun HX0 HB0
          obtain ⟨j, S, rfl, rfl, hj, HX, HB, hS0, hS1, HRun⟩ := hrel
          obtain ⟨c0, c1, c2, -, -, -⟩ := box3_cells HX.out
          have hjm : (j : Int) * 1048575 ≤ 1000 * 1048575 := by omega
          by_cases hlt : j + 1 < wn
          · obtain ⟨b', off', s, e2, hbl2, hs, p0⟩ := int_at (HS.out.below HB.out) (show j < wn by omega)
            obtain ⟨b2, off2, t, e3, -, ht, p1⟩ := int_at (HS.out.below HB.out) hlt
            cases e2
            cases e3
            have hj1 : IntKind.i64.wrap ((j : Int) + 1) = (j : Int) + 1 := by rw [IntKind.wrap_i64]; omega
            have hjw : (j : Int) < (wn : Int) := by omega
            have hjw2 : (j : Int) + 1 < (wn : Int) := by omega
            have hjw3 : (0 : Int) ≤ (j : Int) + 1 := by omega
            have hjw4 : ((j : Int) + 1).toNat = j + 1 := by omega
            have hXW : wtE n.links (xs.getD j 0) (xs.getD (j + 1) 0) = wtE n.links s t := by rw [List.getD_eq_getElem?_getD, List.getD_eq_getElem?_getD, hs, ht]; rfl
            have HBd : Hid (Below w.heap.size w wr.drew) := HB.out.trans (Below.drew (Below.refl _ _))
            obtain ⟨x, hx⟩ : ∃ x, wtE n.links s t = x := ⟨_, rfl⟩
            have hlim := wt_lim HLO.out s t
            rw [hx] at hXW hlim
            have HXW := Lib.hid hXW
            have HXX := Lib.hid hx
            clear hs ht hXW hx
            go_upto_region 7 with fail
            go_region_held3 (fun w' => w'.cell? ⟨w.heap.size, 0, none⟩ = some (.int .i64 n.ver) ∧ w'.cell? ⟨w.heap.size, 1, none⟩ = some (.slice sa k sc) ∧ w'.cell? ⟨w.heap.size, 2, none⟩ = some (.slice la m lc) ∧ w'.cell? ⟨b, off + j, none⟩ = some (.int .i64 s) ∧ w'.cell? ⟨b, off + (j + 1), none⟩ = some (.int .i64 t))
              (first | go_keep | (exact ⟨d0, d1, d2, z0, z1⟩))
              (first
                | (go_at_call 30; go_loud (refine (rwt_any n ⟨sa, k, sc⟩ ⟨la, m, lc⟩ s t wr.drew (HH.out.below HBd.out)).mono ?_); rintro e w3 ⟨rfl, hb3⟩; rw [HXX.out]; have HX3 := Lib.hid (box_below (w := wr.drew) HX.out hb3); have HB3 := Lib.hid (HBd.out.trans (hb3.mono HBd.out.size)); obtain ⟨d0, d1, d2, -, -, -⟩ := box3_cells HX3.out; have z0 := (hb3.cell (p := ⟨b, off + j, none⟩) hbl2).trans p0; have z1 := (hb3.cell (p := ⟨b, off + (j + 1), none⟩) hbl2).trans p1; clear hb3))
            by_cases hz : x = 0
            · have hr : ((0 : Int), false) = (A, bo) := by
                rw [← HRun.out, show wn - (j + 1) = (wn - (j + 1) - 1) + 1 by omega]
                exact (wRun_stop (by rw [HXW.out]; exact hz)).symm
              cases hr
              have hzb : (x == 0) = true := by simpa using hz
              go_wp2_with fail
              go_ret2
              exact ⟨rfl, HB3.out⟩
            · have hzb : (x == 0) = false := by simpa using hz
              have HR2 : Hid (wRun n.links xs (wn - (j + 1 + 1)) (j + 1) (S + x) = (A, bo)) := by
                show _ = _
                rw [← HRun.out, show wn - (j + 1) = (wn - (j + 1 + 1)) + 1 by omega]
                exact (wRun_step HXW.out hz).symm
              go_wp2_with fail
              go_roundw
              case rel => exact ⟨j + 1, S + x, by go_num, by go_num, by omega, HX3.out, HB3.out, by omega, by omega, HR2.out⟩
              case measure => simp [intOf]; omega
          · have hjw : wn = j + 1 := by omega
            subst hjw
            have hr : (S, true) = (A, bo) := by
              rw [← HRun.out, show j + 1 - (j + 1) = 0 by omega]; rfl
            cases hr
            go_wp2_with fail
            go_ret2
            exact ⟨rfl, HB.out⟩

theorem wRun_no {L : List Lnk} {xs : List Int} : ∀ (c i : Nat) (acc S : Int), wRun L xs c i acc = (S, false) → S = 0
  | 0, _, _, _, h => by cases h
  | c + 1, i, acc, S, h => by
    by_cases hw : wtE L (xs.getD i 0) (xs.getD (i + 1) 0) = 0
    · rw [wRun_stop hw] at h; cases h; rfl
    · rw [wRun_step rfl hw] at h; exact wRun_no c (i + 1) _ S h
theorem wayW_no {L : List Lnk} {k : Nat} {xs : List Int} (h : (wayW L k xs).2 = false) : (wayW L k xs).1 = 0 := by
  unfold wayW at h ⊢
  split
  · rfl
  · next g =>
    rw [if_neg g] at h
    exact wRun_no _ 0 0 _ (Prod.ext rfl h)
theorem wRun_walk {L : List Lnk} {xs : List Int} : ∀ (c i : Nat) (acc S : Int), wRun L xs c i acc = (S, true) → Wlk L (xs.getD i 0) (xs.getD (i + c) 0) (S - acc)
  | 0, i, acc, S, h => by
    cases h
    rw [Int.sub_self, Nat.add_zero]
    exact .nil
  | c + 1, i, acc, S, h => by
    by_cases hw : wtE L (xs.getD i 0) (xs.getD (i + 1) 0) = 0
    · rw [wRun_stop hw] at h; cases h
    · rw [wRun_step rfl hw] at h
      have ih := wRun_walk c (i + 1) _ S h
      have := (Wlk.one (wt_edge hw)).trans ih
      rw [show i + 1 + c = i + (c + 1) by omega] at this
      rw [show S - acc = wtE L (xs.getD i 0) (xs.getD (i + 1) 0) + (S - (acc + wtE L (xs.getD i 0) (xs.getD (i + 1) 0))) by omega]
      exact this
/-- A way that goes through: its first stop is one, and there's a way of its weight between its ends. -/
theorem wayW_yes {L : List Lnk} {k : Nat} {xs : List Int} (h : (wayW L k xs).2 = true) : xs ≠ [] ∧ (0 ≤ xs.getD 0 0 ∧ xs.getD 0 0 < k) ∧ Wlk L (xs.getD 0 0) (xs.getD (xs.length - 1) 0) (wayW L k xs).1 := by
  unfold wayW at h ⊢
  split
  · next g => rw [if_pos g] at h; cases h
  · next g =>
    rw [if_neg g] at h
    have hw := wRun_walk (xs.length - 1) 0 0 _ (Prod.ext (rfl : (wRun L xs (xs.length - 1) 0 0).1 = _) h)
    rw [Nat.zero_add, Int.sub_zero] at hw
    exact ⟨fun e => g (.inl e), Classical.byContradiction fun q => g (.inr q), hw⟩

theorem wRun_last {L : List Lnk} {xs : List Int} {x : Int} (hx : x ≠ 0) : ∀ (c i : Nat) (acc S : Int), wRun L xs c i acc = (S, true) → wtE L (xs.getD (i + c) 0) (xs.getD (i + c + 1) 0) = x → wRun L xs (c + 1) i acc = (S + x, true)
  | 0, i, acc, S, h, hw => by
    cases h
    rw [Nat.add_zero] at hw
    rw [wRun_step hw hx]; rfl
  | c + 1, i, acc, S, h, hw => by
    by_cases h0 : wtE L (xs.getD i 0) (xs.getD (i + 1) 0) = 0
    · rw [wRun_stop h0] at h; cases h
    · rw [wRun_step rfl h0] at h ⊢
      refine wRun_last hx c (i + 1) _ S h ?_
      rw [show i + 1 + c = i + (c + 1) by omega]; exact hw
theorem wRun_app {L : List Lnk} {xs : List Int} (ys : List Int) : ∀ (c i : Nat) (acc : Int), i + c < xs.length → wRun L (xs ++ ys) c i acc = wRun L xs c i acc
  | 0, _, _, _ => rfl
  | c + 1, i, acc, h => by
    have e : ∀ j, j < xs.length → (xs ++ ys).getD j 0 = xs.getD j 0 := fun j hj => by rw [List.getD_eq_getElem?_getD, List.getD_eq_getElem?_getD, List.getElem?_append_left hj]
    show (if _ then _ else _) = (if _ then _ else _)
    rw [e i (by omega), e (i + 1) (by omega), wRun_app ys c (i + 1) _ (by omega)]
/-- A way from a to v of that weight, stop by stop. -/
structure Gd (L : List Lnk) (a : Int) (xs : List Int) (v d : Int) : Prop where
  ne : xs ≠ []
  hd : xs.getD 0 0 = a
  lt : xs.getD (xs.length - 1) 0 = v
  run : wRun L xs (xs.length - 1) 0 0 = (d, true)
theorem Gd.one (L : List Lnk) (a : Int) : Gd L a [a] a 0 := ⟨by simp, rfl, rfl, rfl⟩
theorem Gd.snoc {L : List Lnk} {a u d v x : Int} {xs : List Int} (h : Gd L a xs u d) (hx : wtE L u v = x) (h0 : x ≠ 0) : Gd L a (xs ++ [v]) v (d + x) := by
  have hl : 0 < xs.length := List.length_pos_iff.2 h.ne
  have el : (xs ++ [v]).length - 1 = xs.length - 1 + 1 := by simp; omega
  have e0 : (xs ++ [v]).getD (xs.length - 1) 0 = u := by
    rw [← h.lt, List.getD_eq_getElem?_getD, List.getD_eq_getElem?_getD, List.getElem?_append_left (by omega)]
  have e1 : (xs ++ [v]).getD (xs.length - 1 + 1) 0 = v := by
    rw [List.getD_eq_getElem?_getD, show xs.length - 1 + 1 = xs.length by omega, List.getElem?_append_right (Nat.le_refl _), Nat.sub_self]; rfl
  refine ⟨by simp, ?_, by rw [el]; exact e1, ?_⟩
  · rw [← h.hd, List.getD_eq_getElem?_getD, List.getD_eq_getElem?_getD, List.getElem?_append_left hl]
  · rw [el]
    refine wRun_last h0 _ 0 0 d ?_ ?_
    · rw [wRun_app [v] _ 0 0 (by omega)]; exact h.run
    · rw [Nat.zero_add, e0, e1]; exact hx
theorem prev_wt {L : List Lnk} {k : Nat} (hL : LinksOk L k) (hp : L.Pairwise fun a b => aftB a b = true) {a : Int} (ha : 0 ≤ a ∧ a < k) {v : Int} (h0 : 0 ≤ far L k a v) (hv : v ≠ a) :
    wtE L (prevE L (far L k a) v) v ≠ 0 ∧ far L k a (prevE L (far L k a) v) + wtE L (prevE L (far L k a) v) v = far L k a v := by
  obtain ⟨l, h1, h2⟩ := back_ex hL ha h0 hv
  have hb : ∃ l, prevE L (far L k a) v = l.b ∧ l ∈ nearL L v ∧ backB (far L k a) v l = true := by
    unfold prevE
    cases hf : (nearL L v).find? (backB (far L k a) v) with
    | none => exact absurd h2 (List.find?_eq_none.1 hf l h1)
    | some x => exact ⟨x, rfl, List.mem_of_find?_eq_some hf, List.find?_some hf⟩
  obtain ⟨x, e, g1, g2⟩ := hb
  obtain ⟨i1, i2⟩ := mem_nearL g1
  have g3 := (of_decide_eq_true g2).2
  obtain ⟨j1, j2⟩ := edge_wt hL hp i2.symm
  rw [e]
  exact ⟨j2, by rw [j1]; exact g3⟩
theorem back_good {L : List Lnk} {k : Nat} (hL : LinksOk L k) (hp : L.Pairwise fun a b => aftB a b = true) {a : Int} (ha : 0 ≤ a ∧ a < k) : ∀ (c : Nat) (v : Int), 0 ≤ far L k a v → (far L k a v).toNat ≤ c → Gd L a ((backE (prevE L (far L k a)) a c v).reverse ++ [v]) v (far L k a v) := by
  intro c
  induction c with
  | zero =>
    intro v h0 hc
    by_cases e : v = a
    · rw [e, backE_self, (far_is hL ha).self]; exact Gd.one L a
    · obtain ⟨q, -, -, -, h3, h4⟩ := nxt_prev hL hp ha h0 e
      omega
  | succ c ih =>
    intro v h0 hc
    by_cases e : v = a
    · rw [e, backE_self, (far_is hL ha).self]; exact Gd.one L a
    · obtain ⟨q, -, h2, -, h3, h4⟩ := nxt_prev hL hp ha h0 e
      obtain ⟨w1, w2⟩ := prev_wt hL hp ha h0 e
      rw [h2] at w1 w2
      have := (ih q h3 (by omega)).snoc rfl w1
      rw [w2] at this
      rw [backE_go e, h2, List.reverse_cons]
      exact this
theorem backE_len (nx : Int → Int) (a : Int) : ∀ (c : Nat) (v : Int), (backE nx a c v).length ≤ c
  | 0, _ => Nat.le_refl _
  | c + 1, v => by
    by_cases e : v = a
    · rw [e, backE_self]; simp
    · rw [backE_go e, List.length_cons]; have := backE_len nx a c (nx v); omega
/-- The best way: of the distance's weight. -/
theorem wayL_good {L : List Lnk} {k : Nat} (hL : LinksOk L k) (hp : L.Pairwise fun a b => aftB a b = true) {a : Int} (ha : 0 ≤ a ∧ a < k) {b : Int} (h0 : 0 ≤ far L k a b) : Gd L a (wayL L k a b) b (far L k a b) := by
  unfold wayL
  rw [List.reverse_cons]
  exact back_good hL hp ha _ b h0 (Nat.le_refl _)
theorem wayL_len (L : List Lnk) (k : Nat) (a b : Int) : (wayL L k a b).length ≤ (far L k a b).toNat + 1 := by
  unfold wayL
  rw [List.length_reverse, List.length_cons]
  have := backE_len (prevE L (far L k a)) a (far L k a b).toNat b
  omega
theorem Gd.way {L : List Lnk} {k : Nat} {a v d : Int} {xs : List Int} (h : Gd L a xs v d) (ha : 0 ≤ a ∧ a < k) : wayW L k xs = (d, true) := by
  unfold wayW
  rw [if_neg, h.run]
  rw [h.hd]
  exact fun q => q.elim h.ne (fun q => q ha)
end Go.Proofs.Yteihffnmgacfpaa.Ne
