/- Months: what a turn does to one of them, walked. -/
import Derived.Test.YtbdkhgenkekioaaMoN
import Derived.Test.YtbdkhgenkekioaaMoP
import Derived.Test.YtbdkhgenkekioaaBase6
namespace Go.Proofs.Ytbdkhgenkekioaa
open Go.RowKit Go.V Go.Sort Go.Shelf Go.Proofs Go.Maps
open Go.Proofs.Ytbdkhgenkekioaa.Ne (box_alloc box_new box_cell box_below box_lt box2_cells)

/-- What a turn leaves in the months' row: the i-th month is m' now, its rides a row of the call's own. -/
def CbOk (B : Nat) (w' : World) (g n cap i : Nat) (X : List MH) (m' : Mon) : Prop := ∃ h' : Hdr, V.Own 27 MH.cod B w' (.slice (some ⟨g, 0, none⟩) n cap) (X.set i (m'.hd h')) ∧ V.Own 24 Ride.cod B w' (.slice h'.a h'.n h'.cap) m'.rides
/-- What it finds. -/
structure CbIn (B : Nat) (W : World) (g n cap i : Nat) (X : List MH) (m : Mon) (h : Hdr) : Prop where
  at_ : X[i]? = some (m.hd h)
  len : X.length = n
  own : V.Own 27 MH.cod B W (.slice (some ⟨g, 0, none⟩) n cap) X
  rides : V.Own 24 Ride.cod B W (.slice h.a h.n h.cap) m.rides
  base : B ≤ W.heap.size
theorem CbIn.lt {B : Nat} {W : World} {g n cap i : Nat} {X : List MH} {m : Mon} {h : Hdr} (H : CbIn B W g n cap i X m h) : i < n ∧ B ≤ g ∧ g < W.heap.size := by
  refine ⟨by rw [← H.len]; exact (List.getElem?_eq_some_iff.1 H.at_).1, ?_⟩
  exact World.ownsRow.lt H.own g rfl
theorem CbIn.cells {B : Nat} {W : World} {g n cap i : Nat} {X : List MH} {m : Mon} {h : Hdr} (H : CbIn B W g n cap i X m h) : W.cell? ⟨g, i * 6 + 4, none⟩ = some (.slice h.a h.n h.cap) ∧ W.cell? ⟨g, i * 6 + 5, none⟩ = some (.bool m.z) ∧ W.frozen? ⟨g, i * 6 + 4, none⟩ = false ∧ W.frozen? ⟨g, i * 6 + 5, none⟩ = false := by
  have h1 : W.ownsRow B 27 6 (.slice (some ⟨g, 0, none⟩) n cap) n (X.flatMap MH.cod.enc) := by
    have := H.own
    unfold V.Own at this
    rw [H.len] at this
    exact this
  have hi := H.lt.1
  refine ⟨?_, ?_, h1.frozenAt _, h1.frozenAt _⟩
  · rw [h1.cellAt _ (by omega), show i * 6 + 4 = i * MH.cod.k + 4 from rfl, flat_get MH.cod X i 4 (by decide), H.at_]; rfl
  · rw [h1.cellAt _ (by omega), show i * 6 + 5 = i * MH.cod.k + 5 from rfl, flat_get MH.cod X i 5 (by decide), H.at_]; rfl
theorem mflat_seth : ∀ (X : List MH) (j : Nat) (x : MH) (h : Hdr), X[j]? = some x → (X.flatMap MH.enc).set (j * 6 + 4) (.slice h.a h.n h.cap) = (X.set j { x with h := h }).flatMap MH.enc
  | [], j, x, h, e => by simp at e
  | y :: X, 0, x, h, e => by
    simp at e; subst e
    simp [List.flatMap_cons, MH.enc]
  | y :: X, j + 1, x, h, e => by
    have ih := mflat_seth X j x h (by simpa using e)
    rw [List.set_cons_succ, List.flatMap_cons, List.flatMap_cons, ← ih]
    have e : (j + 1) * 6 + 4 = (j * 6 + 4) + 6 := by omega
    rw [e]
    simp [MH.enc]
/-- The i-th month's rides put anew. -/
theorem own_seth {B : Nat} {W : World} {g n cap i : Nat} {X : List MH} {x : MH} (h : Hdr) (ho : V.Own 27 MH.cod B W (.slice (some ⟨g, 0, none⟩) n cap) X) (hl : X.length = n) (hx : X[i]? = some x) : V.Own 27 MH.cod B (W.setCell ⟨g, i * 6 + 4, none⟩ (.slice h.a h.n h.cap)) (.slice (some ⟨g, 0, none⟩) n cap) (X.set i { x with h := h }) := by
  have h1 : W.ownsRow B 27 6 (.slice (some ⟨g, 0, none⟩) n cap) n (X.flatMap MH.cod.enc) := by
    have := ho
    unfold V.Own at this
    rw [hl] at this
    exact this
  obtain ⟨h2, -⟩ := h1.stored (i * 6 + 4) (.slice h.a h.n h.cap)
  show World.ownsRow _ B 27 6 _ _ _
  have e : (X.set i { x with h := h }).flatMap MH.cod.enc = _ := (mflat_seth X i x h hx).symm
  rw [e, List.length_set, hl]
  exact h2
theorem own_setz {B : Nat} {W : World} {g n cap i : Nat} {X : List MH} {x : MH} (ho : V.Own 27 MH.cod B W (.slice (some ⟨g, 0, none⟩) n cap) X) (hl : X.length = n) (hx : X[i]? = some x) : V.Own 27 MH.cod B (W.setCell ⟨g, i * 6 + 5, none⟩ (.bool true)) (.slice (some ⟨g, 0, none⟩) n cap) (X.set i { x with z := true }) := by
  have h1 : W.ownsRow B 27 6 (.slice (some ⟨g, 0, none⟩) n cap) n (X.flatMap MH.cod.enc) := by
    have := ho
    unfold V.Own at this
    rw [hl] at this
    exact this
  obtain ⟨h2, -⟩ := h1.stored (i * 6 + 5) (.bool true)
  show World.ownsRow _ B 27 6 _ _ _
  have e : (X.set i { x with z := true }).flatMap MH.cod.enc = _ := (mflat_set X i x hx).symm
  rw [e, List.length_set, hl]
  exact h2
theorem CbIn.kept {B : Nat} {W W' : World} {g n cap i : Nat} {X : List MH} {m : Mon} {h : Hdr} (H : CbIn B W g n cap i X m h) (hb : Below W.heap.size W W') : CbIn B W' g n cap i X m h :=
  ⟨H.at_, H.len, H.own.below hb, H.rides.below hb, Nat.le_trans H.base hb.size⟩
theorem own_h4 {B : Nat} {W : World} {g n cap i : Nat} {X : List MH} {m : Mon} {h : Hdr} (ho : V.Own 27 MH.cod B W (.slice (some ⟨g, 0, none⟩) n cap) X) (hl : X.length = n) (hx : X[i]? = some (m.hd h)) : W.cell? ⟨g, i * 6 + 4, none⟩ = some (.slice h.a h.n h.cap) ∧ W.frozen? ⟨g, i * 6 + 4, none⟩ = false := by
  have h1 : W.ownsRow B 27 6 (.slice (some ⟨g, 0, none⟩) n cap) n (X.flatMap MH.cod.enc) := by
    have := ho
    unfold V.Own at this
    rw [hl] at this
    exact this
  have hi : i < n := by rw [← hl]; exact (List.getElem?_eq_some_iff.1 hx).1
  exact ⟨by rw [h1.cellAt _ (by omega), show i * 6 + 4 = i * MH.cod.k + 4 from rfl, flat_get MH.cod X i 4 (by decide), hx]; rfl, h1.frozenAt _⟩
theorem list_set_same {α : Type} {l : List α} {i : Nat} {x : α} (h : l[i]? = some x) : l.set i x = l := by
  apply List.ext_getElem?
  intro j
  by_cases e : i = j
  · subst e
    rw [List.getElem?_set_self (List.getElem?_eq_some_iff.1 h).1, h]
  · rw [List.getElem?_set_ne e]

/-! ### Close -/
theorem close_cb {B g n cap i : Nat} {W : World} {X : List MH} {m : Mon} {h : Hdr} (H : CbIn B W g n cap i X m h) :
    Calls Try.prog 52 #[.pointer (some ⟨g, i * 6, none⟩)] W fun e w' => e = .returned (.int .i64 0) ∧ CbOk B w' g n cap i X { m with z := true } ∧ Below B W w' := by
  obtain ⟨-, c5, -, f5⟩ := H.cells
  refine (close1_any g (i * 6) m.z W c5 f5).mono ?_
  rintro e w' ⟨rfl, rfl⟩
  refine ⟨rfl, ⟨h, own_setz H.own H.len H.at_, H.rides.kept (Wi.set_grown _ g _ _) (Wi.own_apart H.rides H.own (by decide))⟩, (Below.refl _ _).setCell (p := ⟨g, i * 6 + 5, none⟩) H.lt.2.1 _⟩

/-! ### Add -/
def addM (m : Mon) (r : Ride) : Mon := if 0 ≤ findR m.rides r.t then m else { m with rides := isort ltR (m.rides ++ [r]) }

set_option maxHeartbeats 8000000 in
set_option maxRecDepth 100000 in
theorem add_cb {B g n cap i p : Nat} {W : World} {X : List MH} {m : Mon} {h : Hdr} (r : Ride) (H : CbIn B W g n cap i X m h) (hl : m.rides.length ≤ 2048) (x0 : W.heap[p]? = some (.cells #[.int .i64 r.t, .int .i64 r.s, .int .i64 r.e, .int .i64 r.f] 24 (0, 0))) :
    Calls Try.prog 48 #[.pointer (some ⟨g, i * 6, none⟩), .pointer (some ⟨p, 0, none⟩)] W fun e w' => e = .returned (.int .i64 (oneE 1 m r)) ∧ (oneE 1 m r = 0 → CbOk B w' g n cap i X (addM m r)) ∧ Below B W w' := by
  have mixed : Try.prog.follows .mixedOrders = true := by kernel_rfl
  obtain ⟨c4, c5, f4, f5⟩ := H.cells
  obtain ⟨ha, hnn, hc⟩ := h
  have hsr := Wi.own_sl H.rides
  obtain rfl : hnn = m.rides.length := hsr.hlen
  have HH := Lib.hid H
  have hgb := H.lt
  have X0 := Lib.hid x0
  have hpW := box_lt x0
  have x1 := (box_cell x0 1).1
  have x2 := (box_cell x0 2).1
  have x3 := (box_cell x0 3).1
  have x0 := (box_cell x0 0).1
  obtain ⟨v, hv⟩ : ∃ v, findR m.rides r.t = v := ⟨_, rfl⟩
  have HV := Lib.hid hv
  have hgW := hgb.2.2
  have HSR := Lib.hid hsr
  clear hv hsr H hgb
  have hq1 : ∀ nd osq, Calls Try.prog 49 #[.slice ha m.rides.length hc, .int .i64 r.t] (Go.Sort.grow (redrawn W nd) osq) fun e w' => e = .returned (.int .i64 v) ∧ Below (Go.Sort.grow (redrawn W nd) osq).heap.size (Go.Sort.grow (redrawn W nd) osq) w' := fun nd osq => by
    have := ride_any ha m.rides.length hc m.rides r.t (Go.Sort.grow (redrawn W nd) osq) (by omega) (HSR.out.below (below_regrown _ _ _))
    rwa [HV.out] at this
  have Y4 := cell_regrown c4
  have Z0 := cell_regrown x0
  have HONE : Hid (oneE 1 m r = if 0 ≤ v then (if m.rides.getD v.toNat default = r then 0 else 40) else if m.z = true then 41 else if 2048 ≤ m.rides.length then 3 else 0) := by
    show _ = _
    unfold oneE
    rw [if_neg (by decide), HV.out]
  have HADD : Hid (addM m r = if 0 ≤ v then m else { m with rides := isort ltR (m.rides ++ [r]) }) := by
    show _ = _
    unfold addM
    rw [HV.out]
  have HB : Hid (B ≤ W.heap.size ∧ B ≤ g ∧ i < n) := ⟨HH.out.base, HH.out.lt.2.1, HH.out.lt.1⟩
  go_enter Try.func48, Try.ntmps48
  go_upto_region 1 with fail
  clear x0 x1 x2 x3 c4 c5 f4 f5
  refine wp_region_quiet_below (by assumption) (by kernel_rfl) ?_
  repeat (go_big_quiet_step ((go_at_call 49; exact Calls.regrown_of (hq1 _ _))))
  refine wpQuiet_nil ?_
  intro w1 hw1
  obtain ⟨⟨nd, osq⟩, rfl⟩ := hw1
  have hb1 := below_regrown W nd osq
  have H1 := Lib.hid (HH.out.kept hb1)
  have X1 := Lib.hid (box_below X0.out hb1)
  have HB1 : Hid (Below W.heap.size W (Go.Sort.grow (redrawn W nd) osq)) := hb1
  have HBB1 : Hid (Below B W (Go.Sort.grow (redrawn W nd) osq)) := hb1.mono HB.out.1
  generalize Go.Sort.grow (redrawn W nd) osq = w1 at H1 X1 HB1 HBB1 ⊢
  clear hb1 hq1 Y4 Z0
  have HS1 := Lib.hid (HSR.out.below HB1.out)
  obtain ⟨c4, c5, f4, f5⟩ := H1.out.cells
  have hg1 := H1.out.lt.2.2
  have hp1 := box_lt X1.out
  have x0 := (box_cell X1.out 0).1
  have x1 := (box_cell X1.out 1).1
  have x2 := (box_cell X1.out 2).1
  have x3 := (box_cell X1.out 3).1
  have Y4 := cell_regrown c4
  have x0' := cell_regrown x0
  have x1' := cell_regrown x1
  have x2' := cell_regrown x2
  have x3' := cell_regrown x3
  by_cases hneg : v < 0
  · have d2 : decide (0 ≤ v) = false := decide_eq_false (by omega)
    go_upto_region 2 with fail
    clear x0 x1 x2 x3 c4 c5 f4 f5
    refine wp_region_quiet_below (by assumption) (by kernel_rfl) ?_
    repeat (go_big_quiet_step (fail))
    refine wpQuiet_nil ?_
    intro w9 hw9
    obtain ⟨⟨nd, osq⟩, rfl⟩ := hw9
    have hb9 := below_regrown w1 nd osq
    have H9 := Lib.hid (H1.out.kept hb9)
    have X9 := Lib.hid (box_below X1.out hb9)
    have HBB9 : Hid (Below B W (Go.Sort.grow (redrawn w1 nd) osq)) := HBB1.out.trans (hb9.mono H1.out.base)
    generalize Go.Sort.grow (redrawn w1 nd) osq = w9 at H9 X9 HBB9 ⊢
    clear hb9 Y4 x0' x1' x2' x3'
    obtain ⟨c4, c5, f4, f5⟩ := H9.out.cells
    have hg9 := H9.out.lt.2.2
    have hp9 := box_lt X9.out
    have x0 := (box_cell X9.out 0).1
    have x1 := (box_cell X9.out 1).1
    have x2 := (box_cell X9.out 2).1
    have x3 := (box_cell X9.out 3).1
    obtain ⟨mz, hmz⟩ : ∃ z, m.z = z := ⟨_, rfl⟩
    have HMZ := Lib.hid hmz
    rw [hmz] at c5
    clear hmz
    cases mz with
    | true =>
      go_wp2_with fail
      go_ret
      have e1 : oneE 1 m r = 41 := by rw [HONE.out, if_neg (by omega), if_pos HMZ.out]
      rw [e1]
      exact ⟨rfl, fun q => by omega, HBB9.out⟩
    | false =>
      by_cases hbig : m.rides.length = 2048
      · have d4 : ((m.rides.length : Int) == 2048) = true := by simp; omega
        have HBG := Lib.hid hbig
        clear hbig
        go_wp2_with fail
        go_ret
        have e1 : oneE 1 m r = 3 := by rw [HONE.out, if_neg (by omega), HMZ.out, if_neg (by decide), if_pos (by have := HBG.out; omega)]
        rw [e1]
        exact ⟨rfl, fun q => by omega, HBB9.out⟩
      · have d4 : ((m.rides.length : Int) == 2048) = false := by simp; omega
        have e1 : Hid (oneE 1 m r = 0) := by show _ = _; rw [HONE.out, if_neg (by omega), HMZ.out, if_neg (by decide), if_neg (by omega)]
        go_upto_region 10 with fail
        have HOR : Hid (V.Own 24 Ride.cod B w9 (.slice ha m.rides.length hc) m.rides) := H9.out.rides
        have HBS : Hid (B ≤ w9.heap.size) := H9.out.base
        have HL1 : Hid (m.rides.length + 1 ≤ maxLen ∧ (m.rides.length + 1) * 32 ≤ 140737488355328) := by
          constructor
          · unfold maxLen; omega
          · omega
        have QS : ∀ (W7 : World) (a7 : Option Addr) (c7 : Nat), Sl Ride.cod W7 a7 (m.rides.length + 1) c7 (m.rides ++ [r]) → Calls Try.prog 50 #[.slice a7 (m.rides.length + 1) c7] W7 fun e w' => ∃ a8 c8, e = .returned (.slice a8 (m.rides.length + 1) c8) ∧ V.Own 24 Ride.cod W7.heap.size w' (.slice a8 (m.rides.length + 1) c8) (isort ltR (m.rides ++ [r])) ∧ Below W7.heap.size W7 w' := by
          intro W7 a7 c7 h7
          refine (sort_any a7 (m.rides.length + 1) c7 (m.rides ++ [r]) W7 (by omega) h7).mono ?_
          rintro e w' ⟨v8, rfl, ho8, hb8⟩
          obtain ⟨a8, c8, e8, s8, -⟩ := ownR_sl ho8
          have e9 : (isort ltR (m.rides ++ [r])).length = m.rides.length + 1 := by rw [(isort_perm _).length_eq, List.length_append]; rfl
          rw [e9] at e8
          subst e8
          exact ⟨a8, c8, rfl, ho8, hb8⟩
        have HG9 : Hid (∀ (o : Obj) (w4 : World) (v4 : Value), V.Own 24 Ride.cod B w4 v4 (m.rides ++ [r]) → (w9.alloc o).drew.grownBy w4 (Value.slice ha m.rides.length hc).ownBlock → (∃ a4 k4, v4 = .slice a4 (m.rides.length + 1) k4 ∧ Sl Ride.cod w4 a4 (m.rides.length + 1) k4 (m.rides ++ [r])) ∧ V.Own 27 MH.cod B w4 (.slice (some ⟨g, 0, none⟩) n cap) X ∧ Below B W w4) := by
          intro o w4 v4 ho4 hg4
          obtain ⟨a4, k4, e4, s4, -⟩ := ho4.slice
          have e9 : (m.rides ++ [r]).length = m.rides.length + 1 := by rw [List.length_append]; rfl
          rw [e9] at e4 s4
          have hm : V.Own 27 MH.cod B (w9.alloc o).drew (.slice (some ⟨g, 0, none⟩) n cap) X := (H9.out.own.alloc o).below (Below.drew (Below.refl _ _))
          have hr9 : V.Own 24 Ride.cod B (w9.alloc o).drew (.slice ha m.rides.length hc) m.rides := (HOR.out.alloc o).below (Below.drew (Below.refl _ _))
          refine ⟨⟨a4, k4, e4, s4⟩, hm.kept hg4 (Wi.own_apart hm hr9 (by decide)), ?_⟩
          refine HBB9.out.trans (Below.trans (Below.drew ((Below.refl _ _).alloc HBS.out o)) ((Below.refl _ _).grown hg4 ?_ (fun k hk => (World.ownsRow.lt hr9 k hk).1)))
          show B ≤ (w9.alloc o).heap.size
          rw [World.size_alloc]
          have := HBS.out
          omega
        go_region_law (first
          | (go_simp; go_at_call 50; go_fit (QS w4 a4 k4 HS4.out); rintro e w5 ⟨a8, c8, rfl, ho8, hb8⟩; have HO8 := Lib.hid (ho8.lower (HBB4.out.size |> Nat.le_trans HB.out.1)); have HM5 := Lib.hid (HM4.out.below hb8); have HB5 := Lib.hid (HBB4.out.trans (hb8.mono (HBB4.out.size |> Nat.le_trans HB.out.1))); obtain ⟨c4', f4'⟩ := own_h4 HM5.out H9.out.len H9.out.at_; have hg5 := (World.ownsRow.lt HM5.out g rfl).2; clear ho8 hb8)
          | (go_loud (refine step_app_at eltRide rfl (.tmp 45) (.tmp 47) rfl (.slice ha m.rides.length hc) m.rides (by simp [Act.eval]) ((HOR.out.alloc _).below (Below.drew (Below.refl _ _))) ⟨w9.heap.size, 0, none⟩ 1 1 [r] (by simp [Act.eval]) ((sl_new (c := Ride.cod) w9 #[.int .i64 r.t, .int .i64 r.s, .int .i64 r.e, .int .i64 r.f] 24 [r] 1 rfl (by unfold maxLen; omega) rfl).below (Below.drew (Below.refl _ _))) HL1.out.1 HL1.out.2 (by show _ ≤ (w9.alloc _).heap.size; have := HBS.out; simp; omega) ?_); rintro v4 w4 ho4 hg4 -; obtain ⟨⟨a4, k4, ev4, s4⟩, hm4, hb4⟩ := HG9.out _ _ _ ho4 hg4; subst ev4; have HS4 := Lib.hid s4; have HM4 := Lib.hid hm4; have HBB4 := Lib.hid hb4; obtain ⟨c4', f4'⟩ := own_h4 hm4 H9.out.len H9.out.at_; have hg4' := (World.ownsRow.lt hm4 g rfl).2; clear ho4 hg4 s4 hm4 hb4))
        all_goals
          go_wp2_with fail
          go_ret
          rw [e1.out]
          refine ⟨rfl, fun _ => ?_, HB5.out.setCell (p := ⟨g, i * 6 + 4, none⟩) HB.out.2.1 _⟩
          rw [HADD.out, if_neg (by omega)]
          exact ⟨⟨a8, m.rides.length + 1, c8⟩, own_seth ⟨a8, m.rides.length + 1, c8⟩ HM5.out H9.out.len H9.out.at_, HO8.out.kept (Wi.set_grown _ g _ _) (Wi.own_apart HO8.out HM5.out (by decide))⟩
  · have d2 : decide (0 ≤ v) = true := decide_eq_true (by omega)
    obtain ⟨j, x, hj1, hj2, hj3⟩ : ∃ (j : Nat) (x : Ride), v = j ∧ j < m.rides.length ∧ m.rides[j]? = some x := by
      rcases findR_cases m.rides r.t with ⟨h1, -⟩ | ⟨j, x, h1, h2, h3, -⟩
      · have := HV.out; omega
      · exact ⟨j, x, by rw [← HV.out, h1], h2, h3⟩
    subst hj1
    obtain ⟨b7, o7, x', e7, hbl, hx, k0, k1, k2, k3⟩ := ride_at HS1.out hj2
    subst e7
    have := hx.symm.trans hj3
    cases this
    have HX := Lib.hid hx
    have hjl : (j : Int) < (m.rides.length : Int) := by omega
    have K0 := cell_regrown k0
    have K1 := cell_regrown k1
    have K2 := cell_regrown k2
    have K3 := cell_regrown k3
    have hq9 := fun W => eqIn_ride x r W
    unfold Ride.val at hq9
    obtain ⟨q, hq⟩ : ∃ q, decide (x = r) = q := ⟨_, rfl⟩
    have HPP := Lib.hid hq
    rw [hq] at hq9
    have HONE2 : Hid (oneE 1 m r = if q = true then 0 else 40) := by
      show _ = _
      rw [HONE.out, if_pos (by omega), Int.toNat_natCast, List.getD_eq_getElem?_getD, HX.out, Option.getD_some]
      cases q with
      | true => rw [if_pos (of_decide_eq_true HPP.out), if_pos rfl]
      | false => rw [if_neg (of_decide_eq_false HPP.out), if_neg (by decide)]
    clear hx hj3 hq
    go_upto_region 2 with fail
    clear x0 x1 x2 x3 c4 c5 f4 f5 k0 k1 k2 k3
    refine wp_region_quiet_below (by assumption) (by kernel_rfl) ?_
    repeat (go_big_quiet_step (fail))
    refine wpQuiet_nil ?_
    intro w9 hw9
    obtain ⟨⟨nd, osq⟩, rfl⟩ := hw9
    have hb9 := below_regrown w1 nd osq
    have H9 := Lib.hid (H1.out.kept hb9)
    have HBB9 : Hid (Below B W (Go.Sort.grow (redrawn w1 nd) osq)) := HBB1.out.trans (hb9.mono H1.out.base)
    generalize Go.Sort.grow (redrawn w1 nd) osq = w9 at H9 HBB9 ⊢
    clear hb9
    cases q with
    | true =>
      go_wp2_with fail
      go_ret
      have e1 : oneE 1 m r = 0 := by rw [HONE2.out]; simp
      rw [e1]
      refine ⟨rfl, fun _ => ?_, HBB9.out⟩
      rw [HADD.out, if_pos (by omega)]
      refine ⟨⟨some ⟨b7, o7, none⟩, m.rides.length, hc⟩, ?_, H9.out.rides⟩
      rw [list_set_same H9.out.at_]
      exact H9.out.own
    | false =>
      go_wp2_with fail
      go_ret
      have e1 : oneE 1 m r = 40 := by rw [HONE2.out, if_neg (by decide)]
      rw [e1]
      exact ⟨rfl, fun q => by omega, HBB9.out⟩

/-! ### Change -/
def chgM (m : Mon) (r : Ride) : Mon := { m with rides := isort ltR (m.rides.set (findR m.rides r.t).toNat r) }
theorem rflat_set : ∀ (l : List Ride) (j : Nat) (r : Ride), j < l.length → ((((l.flatMap Ride.cod.enc).set (j * 4) (.int .i64 r.t)).set (j * 4 + 1) (.int .i64 r.s)).set (j * 4 + 2) (.int .i64 r.e)).set (j * 4 + 3) (.int .i64 r.f) = (l.set j r).flatMap Ride.cod.enc
  | [], j, r, h => by simp at h
  | y :: l, 0, r, h => by simp [List.flatMap_cons, Ride.cod, Ride.enc]
  | y :: l, j + 1, r, h => by
    have ih := rflat_set l j r (by simpa using h)
    rw [List.set_cons_succ, List.flatMap_cons, List.flatMap_cons, ← ih]
    have e0 : (j + 1) * 4 = (j * 4) + 4 := by omega
    have e1 : j * 4 + 4 + 1 = (j * 4 + 1) + 4 := by omega
    have e2 : j * 4 + 4 + 2 = (j * 4 + 2) + 4 := by omega
    have e3 : j * 4 + 4 + 3 = (j * 4 + 3) + 4 := by omega
    rw [e0, e1, e2, e3]
    simp [Ride.cod, Ride.enc]
theorem own_setr {B : Nat} {W : World} {g n cap j : Nat} {l : List Ride} {r : Ride} (ho : V.Own 24 Ride.cod B W (.slice (some ⟨g, 0, none⟩) n cap) l) (hl : l.length = n) (hj : j < n) :
    V.Own 24 Ride.cod B ((((W.setCell ⟨g, j * 4, none⟩ (.int .i64 r.t)).setCell ⟨g, j * 4 + 1, none⟩ (.int .i64 r.s)).setCell ⟨g, j * 4 + 2, none⟩ (.int .i64 r.e)).setCell ⟨g, j * 4 + 3, none⟩ (.int .i64 r.f)) (.slice (some ⟨g, 0, none⟩) n cap) (l.set j r) := by
  have h0 : W.ownsRow B 24 4 (.slice (some ⟨g, 0, none⟩) n cap) n (l.flatMap Ride.cod.enc) := by
    have := ho
    unfold V.Own at this
    rw [hl] at this
    exact this
  have h1 := (h0.stored (j * 4) (.int .i64 r.t)).1
  have h2 := (h1.stored (j * 4 + 1) (.int .i64 r.s)).1
  have h3 := (h2.stored (j * 4 + 2) (.int .i64 r.e)).1
  have h4 := (h3.stored (j * 4 + 3) (.int .i64 r.f)).1
  rw [rflat_set l j r (by omega)] at h4
  show World.ownsRow _ B 24 4 _ _ _
  rw [List.length_set, hl]
  exact h4

set_option maxHeartbeats 8000000 in
set_option maxRecDepth 100000 in
theorem change_cb {B g n cap i p : Nat} {W : World} {X : List MH} {m : Mon} {h : Hdr} (r : Ride) (H : CbIn B W g n cap i X m h) (hl : m.rides.length ≤ 2048) (x0 : W.heap[p]? = some (.cells #[.int .i64 r.t, .int .i64 r.s, .int .i64 r.e, .int .i64 r.f] 24 (0, 0))) :
    Calls Try.prog 51 #[.pointer (some ⟨g, i * 6, none⟩), .pointer (some ⟨p, 0, none⟩)] W fun e w' => e = .returned (.int .i64 (oneE 2 m r)) ∧ (oneE 2 m r = 0 → CbOk B w' g n cap i X (chgM m r)) ∧ Below B W w' := by
  have mixed : Try.prog.follows .mixedOrders = true := by kernel_rfl
  obtain ⟨c4, c5, f4, f5⟩ := H.cells
  obtain ⟨ha, hnn, hc⟩ := h
  have hsr := Wi.own_sl H.rides
  obtain rfl : hnn = m.rides.length := hsr.hlen
  have HH := Lib.hid H
  have hgb := H.lt
  have X0 := Lib.hid x0
  have hpW := box_lt x0
  have x1 := (box_cell x0 1).1
  have x2 := (box_cell x0 2).1
  have x3 := (box_cell x0 3).1
  have x0 := (box_cell x0 0).1
  obtain ⟨v, hv⟩ : ∃ v, findR m.rides r.t = v := ⟨_, rfl⟩
  have HV := Lib.hid hv
  have hgW := hgb.2.2
  have HSR := Lib.hid hsr
  clear hv hsr H hgb
  have hq1 : ∀ nd osq, Calls Try.prog 49 #[.slice ha m.rides.length hc, .int .i64 r.t] (Go.Sort.grow (redrawn W nd) osq) fun e w' => e = .returned (.int .i64 v) ∧ Below (Go.Sort.grow (redrawn W nd) osq).heap.size (Go.Sort.grow (redrawn W nd) osq) w' := fun nd osq => by
    have := ride_any ha m.rides.length hc m.rides r.t (Go.Sort.grow (redrawn W nd) osq) (by omega) (HSR.out.below (below_regrown _ _ _))
    rwa [HV.out] at this
  have Y4 := cell_regrown c4
  have Z0 := cell_regrown x0
  have HONE : Hid (oneE 2 m r = if v < 0 then 30 else 0) := by
    show _ = _
    unfold oneE
    rw [if_pos rfl, HV.out]
  have HB : Hid (B ≤ W.heap.size ∧ B ≤ g ∧ i < n) := ⟨HH.out.base, HH.out.lt.2.1, HH.out.lt.1⟩
  go_enter Try.func51, Try.ntmps51
  go_upto_region 1 with fail
  clear x0 x1 x2 x3 c4 c5 f4 f5
  refine wp_region_quiet_below (by assumption) (by kernel_rfl) ?_
  repeat (go_big_quiet_step ((go_at_call 49; exact Calls.regrown_of (hq1 _ _))))
  refine wpQuiet_nil ?_
  intro w1 hw1
  obtain ⟨⟨nd, osq⟩, rfl⟩ := hw1
  have hb1 := below_regrown W nd osq
  have H1 := Lib.hid (HH.out.kept hb1)
  have X1 := Lib.hid (box_below X0.out hb1)
  have HB1 : Hid (Below W.heap.size W (Go.Sort.grow (redrawn W nd) osq)) := hb1
  have HBB1 : Hid (Below B W (Go.Sort.grow (redrawn W nd) osq)) := hb1.mono HB.out.1
  generalize Go.Sort.grow (redrawn W nd) osq = w1 at H1 X1 HB1 HBB1 ⊢
  clear hb1 hq1 Y4 Z0
  have HS1 := Lib.hid (HSR.out.below HB1.out)
  obtain ⟨c4, c5, f4, f5⟩ := H1.out.cells
  have hg1 := H1.out.lt.2.2
  have hp1 := box_lt X1.out
  have x0 := (box_cell X1.out 0).1
  have x1 := (box_cell X1.out 1).1
  have x2 := (box_cell X1.out 2).1
  have x3 := (box_cell X1.out 3).1
  by_cases hneg : v < 0
  · go_wp2_with fail
    go_ret
    have e1 : oneE 2 m r = 30 := by rw [HONE.out, if_pos (by omega)]
    rw [e1]
    exact ⟨rfl, fun q => by omega, HBB1.out⟩
  · have e1 : Hid (oneE 2 m r = 0) := by show _ = _; rw [HONE.out, if_neg (by omega)]
    obtain ⟨j, hj1, hj2⟩ : ∃ (j : Nat), v = j ∧ j < m.rides.length := by
      rcases findR_cases m.rides r.t with ⟨h1, -⟩ | ⟨j, x, h1, h2, h3, -⟩
      · have := HV.out; omega
      · exact ⟨j, by rw [← HV.out, h1], h2⟩
    subst hj1
    have hjl : (j : Int) < (m.rides.length : Int) := by omega
    obtain ⟨rg, rcc, hrr⟩ : ∃ rg rcc, (Value.slice ha m.rides.length hc) = .slice (some ⟨rg, 0, none⟩) m.rides.length rcc := by
      rcases own_some_ H1.out.rides (by intro q; rw [q] at hj2; simp at hj2) with ⟨g9, c9, e9, -⟩
      exact ⟨g9, c9, e9⟩
    cases hrr
    have hne : rg ≠ g := by
      rcases Wi.own_apart H1.out.rides H1.out.own (by decide) with q | q
      · cases q
      · intro e; exact q (by rw [e]; rfl)
    have HR0 : Hid (w1.ownsRow B 24 4 (.slice (some ⟨rg, 0, none⟩) m.rides.length hc) m.rides.length (m.rides.flatMap Ride.cod.enc)) := H1.out.rides
    obtain ⟨b7, o7, x', e7, hbl, hx, k0, k1, k2, k3⟩ := ride_at HS1.out hj2
    cases e7
    rw [Nat.zero_add] at k0 k1 k2 k3
    have rf0 := HR0.out.frozenAt (j * 4)
    have rf1 := HR0.out.frozenAt (j * 4 + 1)
    have rf2 := HR0.out.frozenAt (j * 4 + 2)
    have rf3 := HR0.out.frozenAt (j * 4 + 3)
    clear hx hneg
    go_upto_region 4 with fail
    go_cut [] (fun wx => Hid (V.Own 24 Ride.cod B wx (.slice (some ⟨rg, 0, none⟩) m.rides.length hc) (m.rides.set j r)) ∧ Hid (V.Own 27 MH.cod B wx (.slice (some ⟨g, 0, none⟩) n cap) X) ∧ Hid (Below B W wx))
    case first =>
      go_region
      all_goals
        go_wp2_with fail
        go_meet
        have dd : ∀ W7 : World, Below W7.heap.size W7 W7.drew := fun W7 => Below.drew (Below.refl _ _)
        refine ⟨(own_setr H1.out.rides rfl hj2).below (dd _), ?_, ?_⟩
        · have ka : ∀ (W7 : World) (o : Nat) (u : Value), V.Own 27 MH.cod B W7 (.slice (some ⟨g, 0, none⟩) n cap) X → V.Own 27 MH.cod B (W7.setCell ⟨rg, o, none⟩ u) (.slice (some ⟨g, 0, none⟩) n cap) X := fun W7 o u h7 => h7.kept (Wi.set_grown _ rg o u) (.inr (fun q => hne (Option.some.inj q).symm))
          exact (ka _ _ _ (ka _ _ _ (ka _ _ _ (ka _ _ _ H1.out.own)))).below (dd _)
        · have hbr : B ≤ rg := (World.ownsRow.lt H1.out.rides rg rfl).1
          exact Below.drew ((((HBB1.out.setCell (p := ⟨rg, j * 4, none⟩) hbr _).setCell (p := ⟨rg, j * 4 + 1, none⟩) hbr _).setCell (p := ⟨rg, j * 4 + 2, none⟩) hbr _).setCell (p := ⟨rg, j * 4 + 3, none⟩) hbr _)
    obtain ⟨HOR, HOM, HBC⟩ := hcut
    obtain ⟨c4', f4'⟩ := own_h4 HOM.out H1.out.len H1.out.at_
    have hgc := (World.ownsRow.lt HOM.out g rfl).2
    have HSC : Hid (Sl Ride.cod wc (some ⟨rg, 0, none⟩) m.rides.length hc (m.rides.set j r)) := by
      have h7 := Wi.own_sl (show V.Own 24 Ride.cod B wc (.slice (some ⟨rg, 0, none⟩) m.rides.length hc) (m.rides.set j r) from HOR.out)
      exact h7
    clear c4 c5 f4 f5 x0 x1 x2 x3 k0 k1 k2 k3 rf0 rf1 rf2 rf3
    go_wp2_with (go_at_call 50; go_loud (refine (sort_any (some ⟨rg, 0, none⟩) m.rides.length hc (m.rides.set j r) _ (by omega) HSC.out).mono ?_; rintro e w5 ⟨v8, rfl, ho8, hb8⟩; obtain ⟨a8, c8, e8, s8, -⟩ := ownR_sl ho8; subst e8; have HO8 : Hid (V.Own 24 Ride.cod B w5 (.slice a8 (isort ltR (m.rides.set j r)).length c8) (isort ltR (m.rides.set j r))) := V.Own.lower (show V.Own 24 Ride.cod wc.heap.size w5 (.slice a8 (isort ltR (m.rides.set j r)).length c8) (isort ltR (m.rides.set j r)) from ho8) (Nat.le_trans HB.out.1 HBC.out.size); have HM5 := Lib.hid (HOM.out.below hb8); have HB5 := Lib.hid (HBC.out.trans (hb8.mono (Nat.le_trans HB.out.1 HBC.out.size))); obtain ⟨c5', f5'⟩ := own_h4 HM5.out H1.out.len H1.out.at_; have hg5 := (World.ownsRow.lt HM5.out g rfl).2; clear ho8 hb8 s8))
    go_ret
    rw [e1.out]
    refine ⟨rfl, fun _ => ?_, HB5.out.setCell (p := ⟨g, i * 6 + 4, none⟩) HB.out.2.1 _⟩
    have e9 : chgM m r = { m with rides := isort ltR (m.rides.set j r) } := by unfold chgM; rw [HV.out, Int.toNat_natCast]
    rw [e9]
    exact ⟨⟨a8, (isort ltR (m.rides.set j r)).length, c8⟩, own_seth ⟨a8, (isort ltR (m.rides.set j r)).length, c8⟩ HM5.out H1.out.len H1.out.at_, HO8.out.kept (Wi.set_grown _ g _ _) (Wi.own_apart HO8.out HM5.out (by decide))⟩
end Go.Proofs.Ytbdkhgenkekioaa
