/- Networks as bytes: graph.Put, walked. -/
import Derived.Test.YtnjgonplojpcnaaWiJ
import Derived.Test.YtnjgonplojpcnaaWiR
import Derived.Test.YtnjgonplojpcnaaNeD
namespace Go.Proofs.Ytnjgonplojpcnaa.Ne
open Go.RowKit Go.V Go.Proofs Go.Proofs.Ytnjgonplojpcnaa.Wi

def ebS (s : Stp) : List Int := putV s.x.toNat ++ putV s.y.toNat
def ebL (l : Lnk) : List Int := putV l.a.toNat ++ putV l.b.toNat ++ putV l.w.toNat
theorem putNet_byt {n : Net} (h : checkE n = 0) : Byt (putNet n) := by
  obtain ⟨h1, h2, hv, hst, hlk, -⟩ := check_ok h
  unfold putNet
  refine (((Byt.app (putV_byt _ (by omega)) (putV_byt _ (by omega))).app (flat_byt _ _ fun s hs => ?_)).app (putV_byt _ (by omega))).app (flat_byt _ _ fun l hl => ?_)
  · have := of_decide_eq_true (hst s hs)
    exact (putV_byt _ (by omega)).app (putV_byt _ (by omega))
  · have := hlk l hl
    exact ((putV_byt _ (by omega)).app (putV_byt _ (by omega))).app (putV_byt _ (by omega))

/-- What graph.Put has in memory. -/
structure GP (w : World) (n : Net) (hs hl : Hdr) (g : Nat) (xs : List Int) (W : World) : Prop where
  wr : Wr W g (g + 1) xs
  bx : W.heap[w.heap.size]? = some (n.box hs hl)
  net : NetIn w n hs hl
  bl : Below w.heap.size w W
  gs : w.heap.size < g
  sz : g + 1 ≤ W.heap.size
  len : xs.length ≤ 900000000
theorem GP.step {w : World} {n : Net} {hs hl : Hdr} {g : Nat} {xs ys : List Int} {W W' : World} (h : GP w n hs hl g xs W) (ht : WrTo g (g + 1) W W') (hw : Wr W' g (g + 1) ys) (hl2 : ys.length ≤ 900000000) : GP w n hs hl g ys W' := by
  have hb : Below g W W' := ht.below (by have := h.sz; omega) (by omega)
  have hb2 : Below w.heap.size W W' := ⟨hb.os, hb.tape, hb.output, hb.size, fun k hk => hb.block k (by have := h.gs; omega)⟩
  have hbl : Below w.heap.size w W' := h.bl.trans hb2
  exact ⟨hw, by rw [hb.block _ h.gs]; exact h.bx, h.net, hbl, h.gs, by have := h.sz; have := hb.size; omega, hl2⟩
theorem GP.alloc {w : World} {n : Net} {hs hl : Hdr} {g : Nat} {xs : List Int} {W : World} (h : GP w n hs hl g xs W) (ob : Obj) : GP w n hs hl g xs (W.alloc ob) :=
  ⟨h.wr.below ((Below.refl _ _).alloc (Nat.le_refl _) _), box_alloc h.bx, h.net, h.bl.alloc h.bl.size _, h.gs, by have := h.sz; simp; omega, h.len⟩

set_option maxHeartbeats 4000000 in
set_option maxRecDepth 100000 in
theorem gput_any (n : Net) (hs hl : Hdr) (w : World) (h60 : hs.n ≤ 60) (h120 : hl.n ≤ 120) (h : NetIn w n hs hl) :
    Calls Try.prog 19 #[n.val hs hl] w fun e w' => Below w.heap.size w w' ∧ (checkE n ≠ 0 → e = .returned (.tuple #[.slice none 0 0, .int .i64 (checkE n)])) ∧ (checkE n = 0 → ∃ v, e = .returned (.tuple #[v, .int .i64 0]) ∧ V.Own 5 bcod w.heap.size w' v (frameE 3 (putNet n))) := by
  obtain ⟨sa, k, sc⟩ := hs
  obtain ⟨la, m, lc⟩ := hl
  have h60 : k ≤ 60 := h60
  have h120 : m ≤ 120 := h120
  have hkn : k = n.stops.length := h.s.hlen
  have hln : m = n.links.length := h.l.hlen
  have HKN := Lib.hid hkn
  have HLN := Lib.hid hln
  have HH := Lib.hid h
  have HX := Lib.hid (box_new w (n.box ⟨sa, k, sc⟩ ⟨la, m, lc⟩))
  have HB0 : Hid (Below w.heap.size w (w.alloc (n.box ⟨sa, k, sc⟩ ⟨la, m, lc⟩))) := (Below.refl _ _).alloc (Nat.le_refl _) _
  obtain ⟨c0, c1, c2, -, -, -⟩ := box3_cells HX.out
  clear h hkn hln
  obtain ⟨ck, hck⟩ : ∃ ck, checkE n = ck := ⟨_, rfl⟩
  have HCK := Lib.hid hck
  clear hck
  by_cases hz : ck = 0
  case neg =>
    have hz2 : (ck != 0) = true := by simpa using hz
    have HZ := Lib.hid hz
    clear hz
    go_enter Try.func19, Try.ntmps19
    go_wp2_with (go_at_call 21; go_loud (refine (check_any n ⟨sa, k, sc⟩ ⟨la, m, lc⟩ _ ⟨by omega, by omega⟩ (HH.out.below HB0.out)).mono ?_); rintro e w1 ⟨rfl, hb1⟩; rw [HCK.out]; have HB1 := Lib.hid (HB0.out.trans (hb1.mono HB0.out.size)); clear hb1)
    go_ret2
    exact ⟨HB1.out, fun _ => by rw [HCK.out]; rfl, fun q => absurd (HCK.out.symm.trans q) HZ.out⟩
  case pos =>
    subst hz
    obtain ⟨-, -, hv, hst, hlk, -⟩ := check_ok HCK.out
    have HV := Lib.hid hv
    have HST := Lib.hid hst
    have HLK := Lib.hid hlk
    clear hv hst hlk
    go_enter Try.func19, Try.ntmps19
    go_upto_region 5 with (go_at_call 21; go_loud (refine (check_any n ⟨sa, k, sc⟩ ⟨la, m, lc⟩ _ ⟨by omega, by omega⟩ (HH.out.below HB0.out)).mono ?_); rintro e w1 ⟨rfl, hb1⟩; rw [HCK.out]; have HB1 := Lib.hid (HB0.out.trans (hb1.mono HB0.out.size)); have HX1 := Lib.hid (box_below HX.out hb1); clear hb1)
    have HG : Hid (GP w n ⟨sa, k, sc⟩ ⟨la, m, lc⟩ w1.heap.size [] (w1.alloc (.cells #[.slice none 0 0] 87))) :=
      ⟨Wr.new w1, box_alloc HX1.out, HH.out, HB1.out.alloc HB1.out.size _, box_lt HX1.out, by simp, by simp⟩
    obtain ⟨W, hW⟩ : ∃ W, w1.alloc (.cells #[.slice none 0 0] 87) = W := ⟨_, rfl⟩
    rw [hW] at HG ⊢
    clear hW
    have hgw : w.heap.size < w1.heap.size := box_lt HX1.out
    obtain ⟨g, hg⟩ : ∃ g, w1.heap.size = g := ⟨_, rfl⟩
    rw [hg] at HG hgw ⊢
    clear hg HB1 HX1 c0 c1 c2 HX HB0
    obtain ⟨c0, -, -, -, -, -⟩ := box3_cells HG.out.bx
    have hV1 := HV.out.1
    have hV2 := HV.out.2
    have HL1 : Hid ((putV n.ver.toNat).length ≤ 10) := putV_10 _ (by omega)
    have HL2 : Hid ((putV k).length ≤ 10) := putV_10 _ (by omega)
    have HL3 : Hid ((putV m).length ≤ 10) := putV_10 _ (by omega)
    go_upto_region 6 with (go_at_call 48; go_loud (refine (wnum_any g (g + 1) ([]) (n.ver) W HG.out.wr HG.out.sz (by omega) (by omega) HG.out.len).mono ?_); rintro e W2 ⟨⟨uW2, rfl⟩, hw, ht⟩; have HG2 : Hid (GP w n ⟨sa, k, sc⟩ ⟨la, m, lc⟩ g (putV n.ver.toNat) W2) := HG.out.step ht hw (by have := HL1.out; omega); clear hw ht)
    clear c0 HG
    obtain ⟨-, c1, -, -, -, -⟩ := box3_cells HG2.out.bx
    have hk0 : (0 : Int) ≤ (k : Int) := by omega
    go_upto_region 7 with (go_at_call 48; go_loud (refine (wnum_any g (g + 1) (putV n.ver.toNat) ((k : Int)) W2 HG2.out.wr HG2.out.sz hk0 (by omega) HG2.out.len).mono ?_); rintro e W3 ⟨⟨uW3, rfl⟩, hw, ht⟩; have HG3 : Hid (GP w n ⟨sa, k, sc⟩ ⟨la, m, lc⟩ g (putV n.ver.toNat ++ putV k) W3) := HG2.out.step ht hw (by have := HL1.out; have := HL2.out; show _ ≤ _; simp; omega); clear hw ht)
    clear c1 HG2
    obtain ⟨-, c1, -, -, -, -⟩ := box3_cells HG3.out.bx
    obtain ⟨P0, hP0⟩ : ∃ P0, putV n.ver.toNat ++ putV k = P0 := ⟨_, rfl⟩
    have HLP : Hid (P0.length ≤ 20) := by have := HL1.out; have := HL2.out; show _ ≤ _; rw [← hP0]; simp; omega
    have HP0 := Lib.hid hP0
    rw [hP0] at HG3
    clear hP0
    go_upto_region 8 with fail
    go_loopw [29] (fun vi wr => ∃ i : Nat, vi = .int .i64 ((i : Nat) : Int) ∧ i ≤ k ∧ Hid ((P0 ++ (n.stops.take i).flatMap ebS).length ≤ 20 + 20 * i) ∧ Hid (GP w n ⟨sa, k, sc⟩ ⟨la, m, lc⟩ g (P0 ++ (n.stops.take i).flatMap ebS) wr)) (fun vi _ => k - (intOf vi).toNat)
    case atStart => exact ⟨0, rfl, by omega, by have := HLP.out; show _ ≤ _; simp; omega, by have := HG3.out; show GP _ _ _ _ _ _ _; simpa using this⟩
    case round =>
      obtain ⟨i, rfl, hi, HLI, HGI⟩ := hrel
      by_cases hlt : i < k
      · have hii : (i : Int) < (k : Int) := by omega
        obtain ⟨b, off, r, e1, hbl, hr, s0, s1⟩ := stp_at (HGI.out.net.below HGI.out.bl).s hlt
        replace e1 : sa = some ⟨b, off, none⟩ := e1
        subst e1
        have hrb := HST.out r (List.mem_of_getElem? hr)
        obtain ⟨rx, ry⟩ := r
        simp only [] at s0 s1
        have hrx : (0 ≤ rx ∧ rx ≤ 67108863) ∧ (0 ≤ ry ∧ ry ≤ 67108863) := by
          unfold stpB at hrb
          have := of_decide_eq_true hrb
          simp only [] at this
          omega
        obtain ⟨⟨hx0, hx1⟩, hy0, hy1⟩ := hrx
        have HFT := Lib.hid (flat_take ebS hr)
        clear hrb hr
        have HLX : Hid ((putV rx.toNat).length ≤ 10) := putV_10 _ (by omega)
        have HLY : Hid ((putV ry.toNat).length ≤ 10) := putV_10 _ (by omega)
        have HGA : Hid (GP w n ⟨some ⟨b, off, none⟩, k, sc⟩ ⟨la, m, lc⟩ g (P0 ++ (n.stops.take i).flatMap ebS) (wr.alloc (.cells #[.int .i64 rx, .int .i64 ry] 99))) := HGI.out.alloc _
        have HBXA := Lib.hid (box_new wr (.cells #[.int .i64 rx, .int .i64 ry] 99))
        have hgb : g < wr.heap.size := HGI.out.sz
        go_upto_region 10 with fail
        obtain ⟨V, hV⟩ : ∃ V, wr.alloc (.cells #[.int .i64 rx, .int .i64 ry] 99) = V := ⟨_, rfl⟩
        obtain ⟨y, hy⟩ : ∃ y, wr.heap.size = y := ⟨_, rfl⟩
        rw [hV] at HGA HBXA ⊢
        rw [hy] at HBXA hgb ⊢
        clear hV hy s0 s1 hbl
        obtain ⟨t0, t1, -, -⟩ := box2_cells HBXA.out
        obtain ⟨xs, hxs⟩ : ∃ xs, P0 ++ (n.stops.take i).flatMap ebS = xs := ⟨_, rfl⟩
        rw [hxs] at HGA HLI
        have HXS := Lib.hid hxs
        clear hxs
        have hi60 : i ≤ 60 := by omega
        go_upto_region 11 with (go_at_call 48; go_loud (refine (wnum_any g (g + 1) (xs) (rx) V HGA.out.wr HGA.out.sz hx0 (by omega) HGA.out.len).mono ?_); rintro e W4 ⟨⟨uW4, rfl⟩, hw, ht⟩; have HG4 : Hid (GP w n ⟨some ⟨b, off, none⟩, k, sc⟩ ⟨la, m, lc⟩ g (xs ++ putV rx.toNat) W4) := HGA.out.step ht hw (by have := HLX.out; have := HLI.out; rw [List.length_append]; omega); have HBX4 := Lib.hid (ht.block y _ HBXA.out (by omega) (.inr (fun cur fr e => by simp at e))); clear hw ht)
        clear t0 t1
        obtain ⟨-, t1, -, -⟩ := box2_cells HBX4.out
        go_wp2_with (go_at_call 48; go_loud (refine (wnum_any g (g + 1) (xs ++ putV rx.toNat) (ry) W4 HG4.out.wr HG4.out.sz hy0 (by omega) HG4.out.len).mono ?_); rintro e W5 ⟨⟨uW5, rfl⟩, hw, ht⟩; have HG5 : Hid (GP w n ⟨some ⟨b, off, none⟩, k, sc⟩ ⟨la, m, lc⟩ g ((xs ++ putV rx.toNat) ++ putV ry.toNat) W5) := HG4.out.step ht hw (by have := HLX.out; have := HLY.out; have := HLI.out; rw [List.length_append, List.length_append]; omega); clear hw ht)
        have HFE : Hid (P0 ++ (n.stops.take (i + 1)).flatMap ebS = (xs ++ putV rx.toNat) ++ putV ry.toNat) := by
          show _ = _
          rw [HFT.out, ← List.append_assoc, HXS.out]; unfold ebS; rw [List.append_assoc]
        go_roundw
        case rel => exact ⟨i + 1, by go_num, by omega, by have := HLX.out; have := HLY.out; have := HLI.out; show _ ≤ _; rw [HFE.out, List.length_append, List.length_append]; omega, by rw [HFE.out]; exact HG5.out⟩
        case measure => simp [intOf]; omega
      · have hii : ¬ (i : Int) < (k : Int) := by omega
        have hie : (n.stops.take i) = n.stops := List.take_of_length_le (by have := HKN.out; omega)
        rw [hie] at HGI HLI
        have hL60 : i ≤ 60 := by omega
        clear hie HG3
        obtain ⟨-, -, c2, -, -, -⟩ := box3_cells HGI.out.bx
        obtain ⟨P1, hP1⟩ : ∃ P1, P0 ++ n.stops.flatMap ebS = P1 := ⟨_, rfl⟩
        rw [hP1] at HGI HLI
        have HP1 := Lib.hid hP1
        clear hP1
        have hm0 : (0 : Int) ≤ (m : Int) := by omega
        go_upto_region 14 with (go_at_call 48; go_loud (refine (wnum_any g (g + 1) (P1) ((m : Int)) wr HGI.out.wr HGI.out.sz hm0 (by omega) HGI.out.len).mono ?_); rintro e W3 ⟨⟨uW3, rfl⟩, hw, ht⟩; have HG3 : Hid (GP w n ⟨sa, k, sc⟩ ⟨la, m, lc⟩ g (P1 ++ putV m) W3) := HGI.out.step ht hw (by have := HL3.out; have := HLI.out; rw [List.length_append]; omega); clear hw ht)
        clear c2
        obtain ⟨-, -, c2, -, -, -⟩ := box3_cells HG3.out.bx
        obtain ⟨P2, hP2⟩ : ∃ P2, P1 ++ putV m = P2 := ⟨_, rfl⟩
        have HLQ : Hid (P2.length ≤ 1300) := by have := HLI.out; have := HL3.out; show _ ≤ _; rw [← hP2, List.length_append]; omega
        rw [hP2] at HG3
        have HP2 := Lib.hid hP2
        clear hP2 HLI HGI
        go_upto_region 15 with fail
        go_loopw [50] (fun vi wr => ∃ i : Nat, vi = .int .i64 ((i : Nat) : Int) ∧ i ≤ m ∧ Hid ((P2 ++ (n.links.take i).flatMap ebL).length ≤ 1300 + 30 * i) ∧ Hid (GP w n ⟨sa, k, sc⟩ ⟨la, m, lc⟩ g (P2 ++ (n.links.take i).flatMap ebL) wr)) (fun vi _ => m - (intOf vi).toNat)
        case atStart => exact ⟨0, rfl, by omega, by have := HLQ.out; show _ ≤ _; simp; omega, by have := HG3.out; show GP _ _ _ _ _ _ _; simpa using this⟩
        case round =>
          obtain ⟨i, rfl, hi, HLI, HGI⟩ := hrel
          by_cases hlt : i < m
          · have hii : (i : Int) < (m : Int) := by omega
            obtain ⟨b, off, r, e1, hbl, hr, s0, s1, s2⟩ := lnk_at (HGI.out.net.below HGI.out.bl).l hlt
            replace e1 : la = some ⟨b, off, none⟩ := e1
            subst e1
            have hE := HLK.out r (List.mem_of_getElem? hr)
            obtain ⟨rx, ry, rz⟩ := r
            simp only [] at s0 s1 s2 hE
            have hkn := HKN.out
            have hrx : (0 ≤ rx ∧ rx ≤ 67108863) ∧ (0 ≤ ry ∧ ry ≤ 67108863) ∧ (0 ≤ rz ∧ rz ≤ 67108863) := by omega
            obtain ⟨⟨hx0, hx1⟩, ⟨hy0, hy1⟩, hz0, hz1⟩ := hrx
            have HFT := Lib.hid (flat_take ebL hr)
            clear hE hr hkn
            have HLX : Hid ((putV rx.toNat).length ≤ 10) := putV_10 _ (by omega)
            have HLY : Hid ((putV ry.toNat).length ≤ 10) := putV_10 _ (by omega)
            have HLZ : Hid ((putV rz.toNat).length ≤ 10) := putV_10 _ (by omega)
            have HGA : Hid (GP w n ⟨sa, k, sc⟩ ⟨some ⟨b, off, none⟩, m, lc⟩ g (P2 ++ (n.links.take i).flatMap ebL) (wr.alloc (.cells #[.int .i64 rx, .int .i64 ry, .int .i64 rz] 63))) := HGI.out.alloc _
            have HBXA := Lib.hid (box_new wr (.cells #[.int .i64 rx, .int .i64 ry, .int .i64 rz] 63))
            have hgb : g < wr.heap.size := HGI.out.sz
            go_upto_region 17 with fail
            obtain ⟨V, hV⟩ : ∃ V, wr.alloc (.cells #[.int .i64 rx, .int .i64 ry, .int .i64 rz] 63) = V := ⟨_, rfl⟩
            obtain ⟨y, hy⟩ : ∃ y, wr.heap.size = y := ⟨_, rfl⟩
            rw [hV] at HGA HBXA ⊢
            rw [hy] at HBXA hgb ⊢
            clear hV hy s0 s1 s2 hbl
            obtain ⟨t0, -, -, -, -, -⟩ := box3_cells HBXA.out
            obtain ⟨xs, hxs⟩ : ∃ xs, P2 ++ (n.links.take i).flatMap ebL = xs := ⟨_, rfl⟩
            rw [hxs] at HGA HLI
            have HXS := Lib.hid hxs
            clear hxs
            have hi60 : i ≤ 120 := by omega
            go_upto_region 18 with (go_at_call 48; go_loud (refine (wnum_any g (g + 1) (xs) (rx) V HGA.out.wr HGA.out.sz hx0 (by omega) HGA.out.len).mono ?_); rintro e W4 ⟨⟨uW4, rfl⟩, hw, ht⟩; have HG4 : Hid (GP w n ⟨sa, k, sc⟩ ⟨some ⟨b, off, none⟩, m, lc⟩ g (xs ++ putV rx.toNat) W4) := HGA.out.step ht hw (by have := HLX.out; have := HLI.out; rw [List.length_append]; omega); have HBX4 := Lib.hid (ht.block y _ HBXA.out (by omega) (.inr (fun cur fr e => by simp at e))); clear hw ht)
            clear t0
            obtain ⟨-, t1, -, -, -, -⟩ := box3_cells HBX4.out
            go_upto_region 19 with (go_at_call 48; go_loud (refine (wnum_any g (g + 1) (xs ++ putV rx.toNat) (ry) W4 HG4.out.wr HG4.out.sz hy0 (by omega) HG4.out.len).mono ?_); rintro e W5 ⟨⟨uW5, rfl⟩, hw, ht⟩; have HG5 : Hid (GP w n ⟨sa, k, sc⟩ ⟨some ⟨b, off, none⟩, m, lc⟩ g ((xs ++ putV rx.toNat) ++ putV ry.toNat) W5) := HG4.out.step ht hw (by have := HLX.out; have := HLY.out; have := HLI.out; rw [List.length_append, List.length_append]; omega); have HBX5 := Lib.hid (ht.block y _ HBX4.out (by omega) (.inr (fun cur fr e => by simp at e))); clear hw ht)
            clear t1
            obtain ⟨-, -, t2, -, -, -⟩ := box3_cells HBX5.out
            go_wp2_with (go_at_call 48; go_loud (refine (wnum_any g (g + 1) ((xs ++ putV rx.toNat) ++ putV ry.toNat) (rz) W5 HG5.out.wr HG5.out.sz hz0 (by omega) HG5.out.len).mono ?_); rintro e W6 ⟨⟨uW6, rfl⟩, hw, ht⟩; have HG6 : Hid (GP w n ⟨sa, k, sc⟩ ⟨some ⟨b, off, none⟩, m, lc⟩ g (((xs ++ putV rx.toNat) ++ putV ry.toNat) ++ putV rz.toNat) W6) := HG5.out.step ht hw (by have := HLX.out; have := HLY.out; have := HLZ.out; have := HLI.out; rw [List.length_append, List.length_append, List.length_append]; omega); clear hw ht)
            have HFE : Hid (P2 ++ (n.links.take (i + 1)).flatMap ebL = ((xs ++ putV rx.toNat) ++ putV ry.toNat) ++ putV rz.toNat) := by
              show _ = _
              rw [HFT.out, ← List.append_assoc, HXS.out]; unfold ebL; simp only [List.append_assoc]
            go_roundw
            case rel => exact ⟨i + 1, by go_num, by omega, by have := HLX.out; have := HLY.out; have := HLZ.out; have := HLI.out; show _ ≤ _; rw [HFE.out, List.length_append, List.length_append, List.length_append]; omega, by rw [HFE.out]; exact HG6.out⟩
            case measure => simp [intOf]; omega
          · have hii : ¬ (i : Int) < (m : Int) := by omega
            have hie : (n.links.take i) = n.links := List.take_of_length_le (by have := HLN.out; omega)
            rw [hie] at HGI HLI
            have hL60 : i ≤ 120 := by omega
            clear hie
            have HPN : Hid (P2 ++ n.links.flatMap ebL = putNet n) := by
              show _ = _
              rw [← HP2.out, ← HP1.out, ← HP0.out, HKN.out, HLN.out]; rfl
            rw [HPN.out] at HGI HLI
            have HBT : Hid (Byt (putNet n)) := by
              exact putNet_byt HCK.out
            go_wp2_with (first
              | (go_at_call 42; go_loud (refine (wout_any g (g + 1) (putNet n) wr HGI.out.wr (by have := HLI.out; omega)).mono ?_); rintro e W7 ⟨v7, rfl, ho7, hb7⟩; obtain ⟨a7, c7, rfl, hsl7, -⟩ := ho7.slice; have HS7 := Lib.hid hsl7; have HB7 := Lib.hid (HGI.out.bl.trans (hb7.mono HGI.out.bl.size)); clear ho7 hb7 hsl7)
              | (go_at_call 40; go_loud (refine (fframe_any 3 (by decide) a7 _ c7 (putNet n) W7 HS7.out HBT.out (by have := HLI.out; omega)).mono ?_); rintro e W8 ⟨v8, rfl, ho8, hb8⟩; have HO8 := Lib.hid ho8; have HB8 := Lib.hid (HB7.out.trans (hb8.mono HB7.out.size)); clear ho8 hb8))
            go_ret2
            exact ⟨HB8.out, fun q => absurd HCK.out q, fun _ => ⟨_, rfl, HO8.out.lower HB7.out.size⟩⟩
end Go.Proofs.Ytnjgonplojpcnaa.Ne
