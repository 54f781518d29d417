/- Networks as bytes: the document's Put, walked. -/
import Derived.Test.YtnjgonplojpcnaaWiK
import Derived.Test.YtnjgonplojpcnaaNeE
namespace Go.Proofs.Ytnjgonplojpcnaa.Ne
open Go.RowKit Go.V Go.Proofs Go.Proofs.Ytnjgonplojpcnaa.Wi

set_option maxHeartbeats 1000000 in
theorem r3num_any (k : Int) (w : World) (h0 : 0 ≤ k) (h1 : k < 9223372036854775808) :
    Calls Try.prog 46 #[.int .i64 k] w fun e w' => ∃ v, e = .returned v ∧ V.Own 5 bcod w.heap.size w' v (putV k.toNat) ∧ Below w.heap.size w w' := by
  obtain ⟨n, hn⟩ : ∃ n : Nat, k = n := ⟨k.toNat, by omega⟩
  subst hn
  rw [show ((n : Nat) : Int).toNat = n from rfl]
  have hn64 : n < 18446744073709551616 := by omega
  have hmx2 : ¬ (n : Int) < 0 := by omega
  go_enter Try.func46, Try.ntmps46
  go_wp2_with (go_at_call 43; go_loud (refine (rput_any n _ hn64).mono ?_); rintro e w1 ⟨v, rfl, ho, hb⟩; have HO1 := Lib.hid ho; have HB1 := Lib.hid hb; clear ho hb)
  go_ret
  exact ⟨_, rfl, HO1.out, HB1.out⟩

/-- What the document's Put has in memory. -/
structure RP (w : World) (n : Net) (hs hl : Hdr) (v : Value) (xs : List Int) (W : World) : Prop where
  own : V.Own 5 bcod (w.heap.size + 1) W v xs
  bx : W.heap[w.heap.size]? = some (n.box hs hl)
  net : NetIn w n hs hl
  bl : Below w.heap.size w W
  sz : w.heap.size + 1 ≤ W.heap.size
theorem RP.below {w : World} {n : Net} {hs hl : Hdr} {v : Value} {xs : List Int} {W W' : World} (h : RP w n hs hl v xs W) (hb : Below W.heap.size W W') : RP w n hs hl v xs W' :=
  ⟨h.own.below hb, (hb.block _ h.sz).trans h.bx, h.net, h.bl.trans (hb.mono h.bl.size), Nat.le_trans h.sz hb.size⟩
theorem RP.app {w : World} {n : Net} {hs hl : Hdr} {v v' : Value} {xs ys : List Int} {W W' : World} (h : RP w n hs hl v xs W) (ho : V.Own 5 bcod (w.heap.size + 1) W' v' ys) (hg : W.grownBy W' v.ownBlock) : RP w n hs hl v' ys W' := by
  have hb : Below (w.heap.size + 1) W W' := own_below h.own hg h.sz
  exact ⟨ho, (hb.block _ (by omega)).trans h.bx, h.net, h.bl.trans ⟨hb.os, hb.tape, hb.output, hb.size, fun k hk => hb.block k (by omega)⟩, Nat.le_trans h.sz hb.size⟩

set_option maxHeartbeats 4000000 in
set_option maxRecDepth 100000 in
theorem rnetput_any (n : Net) (hs hl : Hdr) (w : World) (h60 : hs.n ≤ 60) (h120 : hl.n ≤ 120) (h : NetIn w n hs hl) (hck : checkE n = 0) :
    Calls Try.prog 22 #[n.val hs hl] w fun e w' => Below w.heap.size w w' ∧ ∃ v, e = .returned v ∧ V.Own 5 bcod w.heap.size w' v (frameE 3 (putNet n)) := by
  obtain ⟨sa, k, sc⟩ := hs
  obtain ⟨la, m, lc⟩ := hl
  have h60 : k ≤ 60 := h60
  have h120 : m ≤ 120 := h120
  have HKN : Hid (k = n.stops.length) := h.s.hlen
  have HLN : Hid (m = n.links.length) := h.l.hlen
  have HH := Lib.hid h
  have HCK := Lib.hid hck
  obtain ⟨-, -, hv, hst, hlk, -⟩ := check_ok hck
  have HST := Lib.hid hst
  have HLK := Lib.hid hlk
  obtain ⟨hV1, hV2⟩ := hv
  clear h hck hst hlk
  have hk0 : (0 : Int) ≤ (k : Int) := by omega
  have hm0 : (0 : Int) ≤ (m : Int) := by omega
  have HL1 : Hid ((putV n.ver.toNat).length ≤ 10) := putV_10 _ (by omega)
  have HL2 : Hid ((putV k).length ≤ 10) := putV_10 _ (by omega)
  have HL3 : Hid ((putV m).length ≤ 10) := putV_10 _ (by omega)
  have HR0 : Hid (RP w n ⟨sa, k, sc⟩ ⟨la, m, lc⟩ (.slice none 0 0) [] (w.alloc (n.box ⟨sa, k, sc⟩ ⟨la, m, lc⟩))) := ⟨Own.nil, box_new w _, HH.out, (Below.refl _ _).alloc (Nat.le_refl _) _, by simp⟩
  obtain ⟨c0, c1, c2, -, -, -⟩ := box3_cells HR0.out.bx
  go_enter Try.func22, Try.ntmps22
  go_upto_region 2 with (go_at_call 46; go_loud (refine (r3num_any n.ver _ (by omega) (by omega)).mono ?_); rintro e w1 ⟨v1, rfl, ho, hb⟩; have HR1 : Hid (RP w n ⟨sa, k, sc⟩ ⟨la, m, lc⟩ v1 (putV n.ver.toNat) w1) := ⟨ho.lower HR0.out.sz, (hb.block _ HR0.out.sz).trans HR0.out.bx, HH.out, HR0.out.bl.trans (hb.mono HR0.out.bl.size), Nat.le_trans HR0.out.sz hb.size⟩; clear ho hb)
  clear c0 c1 c2 HR0
  obtain ⟨c0, c1, c2, -, -, -⟩ := box3_cells HR1.out.bx
  have HA1 : Hid (w1.heap.size = w1.heap.size) := rfl
  go_upto_region 3 with (first
    | (go_at_call 46; go_loud (refine (r3num_any ((k : Int)) w1 hk0 (by omega)).mono ?_); rintro e w2 ⟨vw2, rfl, ho, hb⟩; obtain ⟨aw2, cw2, rfl, hsl, -⟩ := ho.slice; have HSw2 := Lib.hid hsl; have HRw2 := Lib.hid (HR1.out.below hb); clear ho hb hsl)
    | (at_builtin; refine wpList_app eltB rfl (.tmp 9) (.tmp 13) rfl (base := w.heap.size + 1) _ (putV n.ver.toNat) rfl HRw2.out.own _ _ cw2 (putV k) rfl HSw2.out (by have := HL2.out; have := HL1.out; unfold maxLen; omega) (by have := HL2.out; have := HL1.out; omega) HRw2.out.sz ?_; intro vw3 w3 ho hg; have HR3 : Hid (RP w n ⟨sa, k, sc⟩ ⟨la, m, lc⟩ vw3 (putV n.ver.toNat ++ putV k) w3) := HRw2.out.app ho hg; clear ho hg))
  clear c0 c1 c2 HR1
  obtain ⟨P0, hP0⟩ : ∃ P0, putV n.ver.toNat ++ putV k = P0 := ⟨_, rfl⟩
  have HLP : Hid (P0.length ≤ 20) := by have := HL1.out; have := HL2.out; show _ ≤ _; rw [← hP0, List.length_append]; omega
  have HP0 := Lib.hid hP0
  rw [hP0] at HR3
  clear hP0
  go_upto_region 4 with fail
  go_loopw [3, 4] (fun v vi wr => ∃ i : Nat, vi = .int .i64 ((i : Nat) : Int) ∧ i ≤ k ∧ Hid ((P0 ++ (n.stops.take i).flatMap encS).length ≤ 20 + 20 * i) ∧ Hid (RP w n ⟨sa, k, sc⟩ ⟨la, m, lc⟩ v (P0 ++ (n.stops.take i).flatMap encS) wr)) (fun _ vi _ => k - (intOf vi).toNat)
  case atStart => exact ⟨0, rfl, by omega, by have := HLP.out; show _ ≤ _; simp; omega, by have := HR3.out; show RP _ _ _ _ _ _ _; simpa using this⟩
  case round =>
    obtain ⟨i, rfl, hi, HLI, HRI⟩ := hrel
    obtain ⟨xs, hxs⟩ : ∃ xs, P0 ++ (n.stops.take i).flatMap encS = xs := ⟨_, rfl⟩
    obtain ⟨c0, c1, c2, -, -, -⟩ := box3_cells HRI.out.bx
    by_cases hlt : i < k
    · have hii : (i : Int) < (k : Int) := by omega
      obtain ⟨b, off, r, e1, hbl, hr, s0, s1⟩ := stp_at (HRI.out.net.below HRI.out.bl).s hlt
      replace e1 : sa = some ⟨b, off, none⟩ := e1
      subst e1
      have hrb := HST.out r (List.mem_of_getElem? hr)
      obtain ⟨rx, ry⟩ := r
      simp only [] at s0 s1
      have hrx : (0 ≤ rx ∧ rx ≤ 67108863) ∧ (0 ≤ ry ∧ ry ≤ 67108863) := by
        have := of_decide_eq_true hrb
        simp only [] at this
        omega
      obtain ⟨⟨hx0, hx1⟩, hy0, hy1⟩ := hrx
      have HFT := Lib.hid (flat_take encS hr)
      clear hrb
      have HLX : Hid ((putV rx.toNat).length ≤ 10) := putV_10 _ (by omega)
      have HLY : Hid ((putV ry.toNat).length ≤ 10) := putV_10 _ (by omega)
      have hi60 : i ≤ 60 := by omega
      rw [hxs] at HRI HLI
      have HXS := Lib.hid hxs
      have HR := Lib.hid hr
      have HLX2 : Hid (xs.length ≤ 1300) := by have := HLI.out; show _ ≤ _; omega
      have HLX3 : Hid ((xs ++ putV rx.toNat).length ≤ 1400) := by have := HLX2.out; have := HLX.out; show _ ≤ _; rw [List.length_append]; omega
      clear hxs hr
      go_upto_region 7 with (first
        | (go_at_call 46; go_loud (refine (r3num_any (rx) wr hx0 (by omega)).mono ?_); rintro e W4 ⟨vW4, rfl, ho, hb⟩; obtain ⟨aW4, cW4, rfl, hsl, -⟩ := ho.slice; have HSW4 := Lib.hid hsl; have HRW4 := Lib.hid (HRI.out.below hb); clear ho hb hsl)
        | (at_builtin; refine wpList_app eltB rfl (.tmp 22) (.tmp 29) rfl (base := w.heap.size + 1) _ (xs) rfl HRW4.out.own _ _ cW4 (putV rx.toNat) rfl HSW4.out (by have := HLX.out; have := HLX2.out; unfold maxLen; omega) (by have := HLX.out; have := HLX2.out; omega) HRW4.out.sz ?_; intro vW5 W5 ho hg; have HR5 : Hid (RP w n ⟨some ⟨b, off, none⟩, k, sc⟩ ⟨la, m, lc⟩ vW5 (xs ++ putV rx.toNat) W5) := HRW4.out.app ho hg; clear ho hg))
      clear c0 c1 c2 s0 s1 hbl
      obtain ⟨c0, c1, c2, -, -, -⟩ := box3_cells HR5.out.bx
      obtain ⟨b', off', r', e1, hbl, hr', s0, s1⟩ := stp_at (HR5.out.net.below HR5.out.bl).s hlt
      simp only [Option.some.injEq, Addr.mk.injEq, and_true] at e1
      obtain ⟨rfl, rfl⟩ := e1
      have e2 := Option.some.inj (HR.out.symm.trans hr')
      subst e2
      simp only [] at s0 s1
      clear hr'
      go_wp2_with (first
        | (go_at_call 46; go_loud (refine (r3num_any (ry) W5 hy0 (by omega)).mono ?_); rintro e W6 ⟨vW6, rfl, ho, hb⟩; obtain ⟨aW6, cW6, rfl, hsl, -⟩ := ho.slice; have HSW6 := Lib.hid hsl; have HRW6 := Lib.hid (HR5.out.below hb); clear ho hb hsl)
        | (at_builtin; refine wpList_app eltB rfl (.tmp 31) (.tmp 38) rfl (base := w.heap.size + 1) _ (xs ++ putV rx.toNat) rfl HRW6.out.own _ _ cW6 (putV ry.toNat) rfl HSW6.out (by have := HLY.out; have := HLX3.out; unfold maxLen; omega) (by have := HLY.out; have := HLX3.out; omega) HRW6.out.sz ?_; intro vW7 W7 ho hg; have HR7 : Hid (RP w n ⟨some ⟨b, off, none⟩, k, sc⟩ ⟨la, m, lc⟩ vW7 (xs ++ putV rx.toNat ++ putV ry.toNat) W7) := HRW6.out.app ho hg; clear ho hg))
      have HFE : Hid (P0 ++ (n.stops.take (i + 1)).flatMap encS = (xs ++ putV rx.toNat) ++ putV ry.toNat) := by
        show _ = _
        rw [HFT.out, ← List.append_assoc, HXS.out]; unfold encS; rw [List.append_assoc]
      go_roundw
      case rel => exact ⟨i + 1, by go_num, by omega, by have := HLX.out; have := HLY.out; have := HLI.out; show _ ≤ _; rw [HFE.out, List.length_append, List.length_append]; omega, by rw [HFE.out]; exact HR7.out⟩
      case measure => simp [intOf]; omega
    · have hii : ¬ (i : Int) < (k : Int) := by omega
      have hie : (n.stops.take i) = n.stops := List.take_of_length_le (by have := HKN.out; omega)
      have HLI2 : Hid ((P0 ++ n.stops.flatMap encS).length ≤ 1300) := by have := HLI.out; rw [hie] at this; show _ ≤ _; omega
      rw [hie] at HRI
      clear hie HR3 HLI hxs
      obtain ⟨P1, hP1⟩ : ∃ P1, P0 ++ n.stops.flatMap encS = P1 := ⟨_, rfl⟩
      rw [hP1] at HRI HLI2
      have HP1 := Lib.hid hP1
      clear hP1
      go_upto_region 9 with (first
        | (go_at_call 46; go_loud (refine (r3num_any ((m : Int)) wr hm0 (by omega)).mono ?_); rintro e W8 ⟨vW8, rfl, ho, hb⟩; obtain ⟨aW8, cW8, rfl, hsl, -⟩ := ho.slice; have HSW8 := Lib.hid hsl; have HRW8 := Lib.hid (HRI.out.below hb); clear ho hb hsl)
        | (at_builtin; refine wpList_app eltB rfl (.tmp 40) (.tmp 44) rfl (base := w.heap.size + 1) _ (P1) rfl HRW8.out.own _ _ cW8 (putV m) rfl HSW8.out (by have := HL3.out; have := HLI2.out; unfold maxLen; omega) (by have := HL3.out; have := HLI2.out; omega) HRW8.out.sz ?_; intro vW9 W9 ho hg; have HR9 : Hid (RP w n ⟨sa, k, sc⟩ ⟨la, m, lc⟩ vW9 (P1 ++ putV m) W9) := HRW8.out.app ho hg; clear ho hg))
      obtain ⟨P2, hP2⟩ : ∃ P2, P1 ++ putV m = P2 := ⟨_, rfl⟩
      have HLQ : Hid (P2.length ≤ 1400) := by have := HLI2.out; have := HL3.out; show _ ≤ _; rw [← hP2, List.length_append]; omega
      have HP2 := Lib.hid hP2
      rw [hP2] at HR9
      clear hP2 c0 c1 c2 HLI2 HRI
      go_upto_region 10 with fail
      go_loopw [3, 5] (fun v vi wr => ∃ i : Nat, vi = .int .i64 ((i : Nat) : Int) ∧ i ≤ m ∧ Hid ((P2 ++ (n.links.take i).flatMap encL).length ≤ 1400 + 30 * i) ∧ Hid (RP w n ⟨sa, k, sc⟩ ⟨la, m, lc⟩ v (P2 ++ (n.links.take i).flatMap encL) wr)) (fun _ vi _ => m - (intOf vi).toNat)
      case atStart => exact ⟨0, rfl, by omega, by have := HLQ.out; show _ ≤ _; simp; omega, by have := HR9.out; show RP _ _ _ _ _ _ _; simpa using this⟩
      case round =>
        obtain ⟨i, rfl, hi, HLI, HRI⟩ := hrel
        obtain ⟨xs, hxs⟩ : ∃ xs, P2 ++ (n.links.take i).flatMap encL = xs := ⟨_, rfl⟩
        obtain ⟨c0, c1, c2, -, -, -⟩ := box3_cells HRI.out.bx
        by_cases hlt : i < m
        · have hii : (i : Int) < (m : Int) := by omega
          obtain ⟨b, off, r, e1, hbl, hr, s0, s1, s2⟩ := lnk_at (HRI.out.net.below HRI.out.bl).l hlt
          replace e1 : la = some ⟨b, off, none⟩ := e1
          subst e1
          have hE := HLK.out r (List.mem_of_getElem? hr)
          obtain ⟨rx, ry, rz⟩ := r
          simp only [] at s0 s1 s2 hE
          have hkn := HKN.out
          have hrx : (0 ≤ rx ∧ rx ≤ 67108863) ∧ (0 ≤ ry ∧ ry ≤ 67108863) ∧ (0 ≤ rz ∧ rz ≤ 67108863) := by omega
          obtain ⟨⟨hx0, hx1⟩, ⟨hy0, hy1⟩, hz0, hz1⟩ := hrx
          have HFT := Lib.hid (flat_take encL hr)
          clear hE hkn
          have HLX : Hid ((putV rx.toNat).length ≤ 10) := putV_10 _ (by omega)
          have HLY : Hid ((putV ry.toNat).length ≤ 10) := putV_10 _ (by omega)
          have HLZ : Hid ((putV rz.toNat).length ≤ 10) := putV_10 _ (by omega)
          have hi60 : i ≤ 120 := by omega
          rw [hxs] at HRI HLI
          have HXS := Lib.hid hxs
          have HR := Lib.hid hr
          have HLX2 : Hid (xs.length ≤ 5100) := by have := HLI.out; show _ ≤ _; omega
          have HLX3 : Hid ((xs ++ putV rx.toNat).length ≤ 5200) := by have := HLX2.out; have := HLX.out; show _ ≤ _; rw [List.length_append]; omega
          have HLX4 : Hid (((xs ++ putV rx.toNat) ++ putV ry.toNat).length ≤ 5300) := by have := HLX3.out; have := HLY.out; show _ ≤ _; rw [List.length_append]; omega
          clear hxs hr
          go_upto_region 13 with (first
            | (go_at_call 46; go_loud (refine (r3num_any (rx) wr hx0 (by omega)).mono ?_); rintro e W4 ⟨vW4, rfl, ho, hb⟩; obtain ⟨aW4, cW4, rfl, hsl, -⟩ := ho.slice; have HSW4 := Lib.hid hsl; have HRW4 := Lib.hid (HRI.out.below hb); clear ho hb hsl)
            | (at_builtin; refine wpList_app eltB rfl (.tmp 53) (.tmp 60) rfl (base := w.heap.size + 1) _ (xs) rfl HRW4.out.own _ _ cW4 (putV rx.toNat) rfl HSW4.out (by have := HLX.out; have := HLX2.out; unfold maxLen; omega) (by have := HLX.out; have := HLX2.out; omega) HRW4.out.sz ?_; intro vW5 W5 ho hg; have HR5 : Hid (RP w n ⟨sa, k, sc⟩ ⟨some ⟨b, off, none⟩, m, lc⟩ vW5 (xs ++ putV rx.toNat) W5) := HRW4.out.app ho hg; clear ho hg))
          clear c0 c1 c2 s0 s1 s2 hbl
          obtain ⟨c0, c1, c2, -, -, -⟩ := box3_cells HR5.out.bx
          obtain ⟨b', off', r', e1, hbl, hr', s0, s1, s2⟩ := lnk_at (HR5.out.net.below HR5.out.bl).l hlt
          simp only [Option.some.injEq, Addr.mk.injEq, and_true] at e1
          obtain ⟨rfl, rfl⟩ := e1
          have e2 := Option.some.inj (HR.out.symm.trans hr')
          subst e2
          simp only [] at s0 s1 s2
          clear hr'
          go_upto_region 14 with (first
            | (go_at_call 46; go_loud (refine (r3num_any (ry) W5 hy0 (by omega)).mono ?_); rintro e W6 ⟨vW6, rfl, ho, hb⟩; obtain ⟨aW6, cW6, rfl, hsl, -⟩ := ho.slice; have HSW6 := Lib.hid hsl; have HRW6 := Lib.hid (HR5.out.below hb); clear ho hb hsl)
            | (at_builtin; refine wpList_app eltB rfl (.tmp 62) (.tmp 69) rfl (base := w.heap.size + 1) _ (xs ++ putV rx.toNat) rfl HRW6.out.own _ _ cW6 (putV ry.toNat) rfl HSW6.out (by have := HLY.out; have := HLX3.out; unfold maxLen; omega) (by have := HLY.out; have := HLX3.out; omega) HRW6.out.sz ?_; intro vW7 W7 ho hg; have HR7 : Hid (RP w n ⟨sa, k, sc⟩ ⟨some ⟨b, off, none⟩, m, lc⟩ vW7 (xs ++ putV rx.toNat ++ putV ry.toNat) W7) := HRW6.out.app ho hg; clear ho hg))
          clear c0 c1 c2 s0 s1 s2 hbl
          obtain ⟨c0, c1, c2, -, -, -⟩ := box3_cells HR7.out.bx
          obtain ⟨b', off', r', e1, hbl, hr', s0, s1, s2⟩ := lnk_at (HR7.out.net.below HR7.out.bl).l hlt
          simp only [Option.some.injEq, Addr.mk.injEq, and_true] at e1
          obtain ⟨rfl, rfl⟩ := e1
          have e2 := Option.some.inj (HR.out.symm.trans hr')
          subst e2
          simp only [] at s0 s1 s2
          clear hr'
          go_wp2_with (first
            | (go_at_call 46; go_loud (refine (r3num_any (rz) W7 hz0 (by omega)).mono ?_); rintro e W8 ⟨vW8, rfl, ho, hb⟩; obtain ⟨aW8, cW8, rfl, hsl, -⟩ := ho.slice; have HSW8 := Lib.hid hsl; have HRW8 := Lib.hid (HR7.out.below hb); clear ho hb hsl)
            | (at_builtin; refine wpList_app eltB rfl (.tmp 71) (.tmp 78) rfl (base := w.heap.size + 1) _ ((xs ++ putV rx.toNat) ++ putV ry.toNat) rfl HRW8.out.own _ _ cW8 (putV rz.toNat) rfl HSW8.out (by have := HLZ.out; have := HLX4.out; unfold maxLen; omega) (by have := HLZ.out; have := HLX4.out; omega) HRW8.out.sz ?_; intro vW9 W9 ho hg; have HR9 : Hid (RP w n ⟨sa, k, sc⟩ ⟨some ⟨b, off, none⟩, m, lc⟩ vW9 ((xs ++ putV rx.toNat) ++ putV ry.toNat ++ putV rz.toNat) W9) := HRW8.out.app ho hg; clear ho hg))
          have HFE : Hid (P2 ++ (n.links.take (i + 1)).flatMap encL = ((xs ++ putV rx.toNat) ++ putV ry.toNat) ++ putV rz.toNat) := by
            show _ = _
            rw [HFT.out, ← List.append_assoc, HXS.out]; unfold encL; simp only [List.append_assoc]
          go_roundw
          case rel => exact ⟨i + 1, by go_num, by omega, by have := HLX.out; have := HLY.out; have := HLZ.out; have := HLI.out; show _ ≤ _; rw [HFE.out, List.length_append, List.length_append, List.length_append]; omega, by rw [HFE.out]; exact HR9.out⟩
          case measure => simp [intOf]; omega
        · have hii : ¬ (i : Int) < (m : Int) := by omega
          have hie : (n.links.take i) = n.links := List.take_of_length_le (by have := HLN.out; omega)
          rw [hie] at HRI HLI
          have hL60 : i ≤ 120 := by omega
          clear hie hxs
          have HPN : Hid (P2 ++ n.links.flatMap encL = putNet n) := by
            show _ = _
            rw [← HP2.out, ← HP1.out, ← HP0.out, HKN.out, HLN.out]; rfl
          rw [HPN.out] at HRI HLI
          have HBT : Hid (Byt (putNet n)) := putNet_byt HCK.out
          obtain ⟨a7, c7, rfl, hsl7, -⟩ := HRI.out.own.slice
          have HS7 := Lib.hid hsl7
          clear hsl7
          go_wp2_with (go_at_call 14; go_loud (refine (rframe_any 3 (by decide) a7 _ c7 (putNet n) wr HS7.out HBT.out (by have := HLI.out; omega)).mono ?_); rintro e W8 ⟨v8, rfl, ho8, hb8⟩; have HO8 := Lib.hid ho8; have HB8 := Lib.hid (HRI.out.bl.trans (hb8.mono HRI.out.bl.size)); clear ho8 hb8)
          go_ret
          exact ⟨HB8.out, _, rfl, HO8.out.lower HRI.out.bl.size⟩
end Go.Proofs.Ytnjgonplojpcnaa.Ne
