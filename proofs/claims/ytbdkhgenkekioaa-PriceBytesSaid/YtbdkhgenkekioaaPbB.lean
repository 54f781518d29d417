/- Tariffs as bytes: the document's Put, walked (printed by gen_XPbB.py). -/
import Derived.Test.YtbdkhgenkekioaaPbP
import Derived.Test.YtbdkhgenkekioaaFaF
namespace Go.Proofs.Ytbdkhgenkekioaa.Pb
open Go.RowKit Go.V Go.Proofs Go.Sort Go.Proofs.Ytbdkhgenkekioaa.Wi
open Go.Proofs.Ytbdkhgenkekioaa.Ne (box_alloc box_new box_cell box_below box_lt)

/-- What the document's Put has in memory. -/
structure RQ (w : World) (t : Tar) (hb hs hr : Hdr) (v : Value) (xs : List Int) (m : Nat) (W : World) : Prop where
  own : V.Own 5 bcod (w.heap.size + 1) W v xs
  bx : TarBox 61 W w.heap.size t hb hs hr
  inn : TarIn w t hb hs hr
  bl : Below w.heap.size w W
  sz : w.heap.size + 1 ≤ W.heap.size
  len : xs.length ≤ m
  mm : m ≤ 700000000
theorem RQ.below {w : World} {t : Tar} {hb hs hr : Hdr} {v : Value} {xs : List Int} {m : Nat} {W W' : World} (h : RQ w t hb hs hr v xs m W) (hb' : Below W.heap.size W W') : RQ w t hb hs hr v xs m W' :=
  ⟨h.own.below hb', (hb'.block _ h.sz).trans h.bx, h.inn, h.bl.trans (hb'.mono h.bl.size), Nat.le_trans h.sz hb'.size, h.len, h.mm⟩
theorem RQ.app {w : World} {t : Tar} {hb hs hr : Hdr} {v v' : Value} {xs ys : List Int} {m : Nat} {W W' : World} (h : RQ w t hb hs hr v xs m W) (ho : V.Own 5 bcod (w.heap.size + 1) W' v' (xs ++ ys)) (hg : W.grownBy W' v.ownBlock) (hy : ys.length ≤ 10) (hm : m + 10 ≤ 700000000 := by omega) : RQ w t hb hs hr v' (xs ++ ys) (m + 10) W' := by
  have hb' : Below (w.heap.size + 1) W W' := own_below h.own hg h.sz
  exact ⟨ho, (hb'.block _ (by omega)).trans h.bx, h.inn, h.bl.trans ⟨hb'.os, hb'.tape, hb'.output, hb'.size, fun k hk => hb'.block k (by omega)⟩, Nat.le_trans h.sz hb'.size, by have := h.len; rw [List.length_append]; omega, hm⟩

theorem pair_at2 {w : World} {b off n cap : Nat} {l : List Pair} (h : Sl Pair.cod w (some ⟨b, off, none⟩) n cap l) {i : Nat} {r : Pair} (hr : l[i]? = some r) : b < w.heap.size ∧ w.cell? ⟨b, off + i * 2, none⟩ = some (.int .i64 r.a) ∧ w.cell? ⟨b, off + i * 2 + 1, none⟩ = some (.int .i64 r.b) := by
  have hi : i < n := by rw [h.hlen]; exact (List.getElem?_eq_some_iff.1 hr).1
  obtain ⟨b', off', r', e, h1, h2, h3, h4⟩ := pair_at h hi
  cases e
  rw [hr] at h2
  cases h2
  exact ⟨h1, h3, h4⟩

set_option maxHeartbeats 8000000 in
set_option maxRecDepth 100000 in
theorem rput_tar (t : Tar) (hb hs hr : Hdr) (w : World) (h : TarIn w t hb hs hr) (hok : tarOk t = true) :
    Calls Try.prog 32 #[t.val hb hs hr] w fun e w' => Below w.heap.size w w' ∧ ∃ v, e = .returned v ∧ V.Own 5 bcod w.heap.size w' v (frameE 4 (putTar t)) := by
  obtain ⟨ba, bn, bc⟩ := hb
  obtain ⟨sa, sn, sc⟩ := hs
  obtain ⟨ra, rn, rc⟩ := hr
  have HR0 : Hid (RQ w t ⟨ba, bn, bc⟩ ⟨sa, sn, sc⟩ ⟨ra, rn, rc⟩ (.slice none 0 0) [] 0 (w.alloc (.cells #[.int .i64 t.ver, .slice ba bn bc, .int .i64 t.over, .int .i64 t.full, .slice sa sn sc, .int .i64 t.unit, .int .i64 t.window, .int .i64 t.chain, .slice ra rn rc] 61))) := ⟨Own.nil, box_new w _, h, (Below.refl _ _).alloc (Nat.le_refl _) _, by simp, by simp, by omega⟩
  have HBN : Hid (bn = t.bands.length) := h.b.hlen
  have HSN : Hid (sn = t.shares.length) := h.s.hlen
  have HRN : Hid (rn = t.rungs.length) := h.r.hlen
  have HF := Lib.hid (fit_of_ok hok)
  have hv := HF.out.ver
  have hov := HF.out.over
  have hfu := HF.out.full
  have hun := HF.out.unit
  have hwi := HF.out.window
  have hch := HF.out.chain
  have hbn : bn ≤ 64 := by rw [HBN.out]; exact HF.out.nb
  have hsn : sn ≤ 16 := by rw [HSN.out]; exact HF.out.ns
  have hrn : rn ≤ 16 := by rw [HRN.out]; exact HF.out.nr
  obtain ⟨hv0, hv1⟩ := hv
  obtain ⟨hov0, hov1⟩ := hov
  obtain ⟨hfu0, hfu1⟩ := hfu
  obtain ⟨hun0, hun1⟩ := hun
  obtain ⟨hwi0, hwi1⟩ := hwi
  obtain ⟨hch0, hch1⟩ := hch
  clear h hok
  unfold Tar.val
  obtain ⟨-, c0, -, -, -, -, -, -, -, -⟩ := TarBox.cells HR0.out.bx
  have L0 : Hid ((putV t.ver.toNat).length ≤ 10) := putV_10 _ (by omega)
  go_enter Try.func32, Try.ntmps32
  go_upto_region 2 with (go_at_call 59; go_loud (refine (r3num_any t.ver _ (by omega) (by omega)).mono ?_); rintro e w1 ⟨v1, rfl, ho, hb⟩; have HR1 : Hid (RQ w t ⟨ba, bn, bc⟩ ⟨sa, sn, sc⟩ ⟨ra, rn, rc⟩ v1 (putV t.ver.toNat) 10 w1) := ⟨ho.lower HR0.out.sz, (hb.block _ HR0.out.sz).trans HR0.out.bx, HR0.out.inn, HR0.out.bl.trans (hb.mono HR0.out.bl.size), Nat.le_trans HR0.out.sz hb.size, L0.out, by omega⟩; clear ho hb)
  clear c0 HR0
  have L1 : Hid ((putV bn).length ≤ 10) := putV_10 _ (by omega)
  obtain ⟨-, -, c1, -, -, -, -, -, -, -⟩ := TarBox.cells HR1.out.bx
  go_upto_region 3 with (first
      | (go_at_call 59; go_loud (refine (r3num_any ((bn : Int)) w1 (by omega) (by omega)).mono ?_); rintro e Wa1 ⟨va1, rfl, ho, hb⟩; obtain ⟨aa1, ca1, rfl, hsl, -⟩ := ho.slice; have HSa1 := Lib.hid hsl; have HRa1 := Lib.hid (HR1.out.below hb); obtain ⟨-, -, c1, -, -, -, -, -, -, -⟩ := TarBox.cells HRa1.out.bx; clear ho hb hsl)
      | (at_builtin; go_loud (refine wpList_app eltB rfl (.tmp 10) (.tmp 14) rfl (base := w.heap.size + 1) _ (putV t.ver.toNat) rfl HRa1.out.own _ _ ca1 (putV bn) rfl HSa1.out (by have := L1.out; have := HRa1.out.len; have := HRa1.out.mm; unfold maxLen; omega) (by have := L1.out; have := HRa1.out.len; have := HRa1.out.mm; omega) HRa1.out.sz ?_); intro vw2 w2 ho hg; have HR2 := Lib.hid (HRa1.out.app ho hg L1.out); clear ho hg))
  clear c1
  obtain ⟨P1, hP1⟩ : ∃ P, putV t.ver.toNat ++ putV bn = P := ⟨_, rfl⟩
  have HP1 := Lib.hid hP1
  rw [hP1] at HR2
  clear hP1
  go_upto_region 4 with fail
  go_loopw [3, 4] (fun vo vi wr => ∃ i : Nat, vi = .int .i64 ((i : Nat) : Int) ∧ i ≤ bn ∧ Hid (RQ w t ⟨ba, bn, bc⟩ ⟨sa, sn, sc⟩ ⟨ra, rn, rc⟩ vo (P1 ++ (t.bands.take i).flatMap enP) (20 + 20 * i) wr)) (fun _ vi _ => bn - (intOf vi).toNat)
  case atStart => exact ⟨0, rfl, Nat.zero_le _, by have := HR2.out; show RQ _ _ _ _ _ _ _ _ _; simpa using this⟩
  case round =>
    obtain ⟨i, rfl, hi, HGI⟩ := hrel
    obtain ⟨-, -, c1, -, -, -, -, -, -, -⟩ := TarBox.cells HGI.out.bx
    by_cases hlt : i < bn
    · have hii : (i : Int) < (bn : Int) := by omega
      obtain ⟨b, off, r, e1, hbl, hr, s0, s1⟩ := pair_at (HGI.out.inn.below HGI.out.bl).b hlt
      replace e1 : ba = some ⟨b, off, none⟩ := e1
      subst e1
      have hrb := HF.out.bands r (List.mem_of_getElem? hr)
      obtain ⟨rx, ry⟩ := r
      simp only [] at s0 s1 hrb
      obtain ⟨hx0, hx1, hy0, hy1⟩ := hrb
      have HFT := Lib.hid (flat_take enP hr)
      have HPR := Lib.hid hr
      clear hr s0 s1 hbl
      obtain ⟨xs, hxs⟩ : ∃ xs, P1 ++ (t.bands.take i).flatMap enP = xs := ⟨_, rfl⟩
      rw [hxs] at HGI
      have HXS := Lib.hid hxs
      clear hxs
      have hi64 : i ≤ 64 := by omega
      go_upto_region 6 with fail
      clear c1
      have EL1 : Hid ((putV rx.toNat).length ≤ 10) := putV_10 _ (by omega)
      have EL2 : Hid ((putV ry.toNat).length ≤ 10) := putV_10 _ (by omega)
      have HPA := Lib.hid (pair_at2 (HGI.out.inn.below HGI.out.bl).b HPR.out)
      obtain ⟨hbl, s0, s1⟩ := HPA.out
      obtain ⟨-, -, c1, -, -, -, -, -, -, -⟩ := TarBox.cells HGI.out.bx
      go_upto_region 7 with (first
          | (go_at_call 59; go_loud (refine (r3num_any rx wr (by omega) (by omega)).mono ?_); rintro e Wb1 ⟨vb1, rfl, ho, hb⟩; obtain ⟨ab1, cb1, rfl, hsl, -⟩ := ho.slice; have HSb1 := Lib.hid hsl; have HRb1 := Lib.hid (HGI.out.below hb); clear ho hb hsl)
          | (at_builtin; go_loud (refine wpList_app eltB rfl (.tmp 23) (.tmp 30) rfl (base := w.heap.size + 1) _ xs rfl HRb1.out.own _ _ cb1 (putV rx.toNat) rfl HSb1.out (by have := EL1.out; have := HRb1.out.len; have := HRb1.out.mm; unfold maxLen; omega) (by have := EL1.out; have := HRb1.out.len; have := HRb1.out.mm; omega) HRb1.out.sz ?_); intro vc1 Wc1 ho hg; have HGE1 := Lib.hid (HRb1.out.app ho hg EL1.out); clear ho hg))
      clear c1 hbl s0 s1
      obtain ⟨hbl, s0, s1⟩ := (pair_at2 (HGE1.out.inn.below HGE1.out.bl).b HPR.out)
      obtain ⟨-, -, c1, -, -, -, -, -, -, -⟩ := TarBox.cells HGE1.out.bx
      go_upto_region 5 with (first
          | (go_at_call 59; go_loud (refine (r3num_any ry Wc1 (by omega) (by omega)).mono ?_); rintro e Wb2 ⟨vb2, rfl, ho, hb⟩; obtain ⟨ab2, cb2, rfl, hsl, -⟩ := ho.slice; have HSb2 := Lib.hid hsl; have HRb2 := Lib.hid (HGE1.out.below hb); clear ho hb hsl)
          | (at_builtin; go_loud (refine wpList_app eltB rfl (.tmp 32) (.tmp 39) rfl (base := w.heap.size + 1) _ (xs ++ putV rx.toNat) rfl HRb2.out.own _ _ cb2 (putV ry.toNat) rfl HSb2.out (by have := EL2.out; have := HRb2.out.len; have := HRb2.out.mm; unfold maxLen; omega) (by have := EL2.out; have := HRb2.out.len; have := HRb2.out.mm; omega) HRb2.out.sz ?_); intro vc2 Wc2 ho hg; have HGE2 := Lib.hid (HRb2.out.app ho hg EL2.out); clear ho hg))
      clear c1 hbl s0 s1
      have HFE : Hid (P1 ++ (t.bands.take (i + 1)).flatMap enP = (xs ++ putV rx.toNat) ++ putV ry.toNat) := by
        show _ = _
        rw [HFT.out, ← List.append_assoc, HXS.out]; unfold enP; simp only [List.append_assoc]
      go_wp2_with fail
      go_roundw
      case rel => exact ⟨i + 1, by go_num, by omega, by rw [HFE.out, show 20 + 20 * (i + 1) = 20 + 20 * i + 10 + 10 by omega]; exact HGE2.out⟩
      case measure => simp [intOf]; omega
    · have hie : bn = i := by omega
      subst hie
      have hii : ¬ (bn : Int) < (bn : Int) := by omega
      have htk : t.bands.take bn = t.bands := List.take_of_length_le (by rw [← HBN.out]; exact Nat.le_refl _)
      rw [htk] at HGI
      clear htk HR2
      obtain ⟨P2, hP2⟩ : ∃ P, P1 ++ t.bands.flatMap enP = P := ⟨_, rfl⟩
      have HP2 := Lib.hid hP2
      rw [hP2] at HGI
      clear hP2
      go_upto_region 8 with fail
      clear c1
      have L2 : Hid ((putV (t.over).toNat).length ≤ 10) := putV_10 _ (by omega)
      obtain ⟨-, -, -, c2, -, -, -, -, -, -⟩ := TarBox.cells HGI.out.bx
      go_upto_region 9 with (first
          | (go_at_call 59; go_loud (refine (r3num_any (t.over) wr (by omega) (by omega)).mono ?_); rintro e Wa2 ⟨va2, rfl, ho, hb⟩; obtain ⟨aa2, ca2, rfl, hsl, -⟩ := ho.slice; have HSa2 := Lib.hid hsl; have HRa2 := Lib.hid (HGI.out.below hb); obtain ⟨-, -, -, c2, -, -, -, -, -, -⟩ := TarBox.cells HRa2.out.bx; clear ho hb hsl)
          | (at_builtin; go_loud (refine wpList_app eltB rfl (.tmp 41) (.tmp 44) rfl (base := w.heap.size + 1) _ (P2) rfl HRa2.out.own _ _ ca2 (putV (t.over).toNat) rfl HSa2.out (by have := L2.out; have := HRa2.out.len; have := HRa2.out.mm; unfold maxLen; omega) (by have := L2.out; have := HRa2.out.len; have := HRa2.out.mm; omega) HRa2.out.sz ?_); intro vw3 w3 ho hg; have HR3 := Lib.hid (HRa2.out.app ho hg L2.out); clear ho hg))
      clear c2
      have L3 : Hid ((putV (t.full).toNat).length ≤ 10) := putV_10 _ (by omega)
      obtain ⟨-, -, -, -, c3, -, -, -, -, -⟩ := TarBox.cells HR3.out.bx
      go_upto_region 10 with (first
          | (go_at_call 59; go_loud (refine (r3num_any (t.full) w3 (by omega) (by omega)).mono ?_); rintro e Wa3 ⟨va3, rfl, ho, hb⟩; obtain ⟨aa3, ca3, rfl, hsl, -⟩ := ho.slice; have HSa3 := Lib.hid hsl; have HRa3 := Lib.hid (HR3.out.below hb); obtain ⟨-, -, -, -, c3, -, -, -, -, -⟩ := TarBox.cells HRa3.out.bx; clear ho hb hsl)
          | (at_builtin; go_loud (refine wpList_app eltB rfl (.tmp 46) (.tmp 49) rfl (base := w.heap.size + 1) _ (P2 ++ putV t.over.toNat) rfl HRa3.out.own _ _ ca3 (putV (t.full).toNat) rfl HSa3.out (by have := L3.out; have := HRa3.out.len; have := HRa3.out.mm; unfold maxLen; omega) (by have := L3.out; have := HRa3.out.len; have := HRa3.out.mm; omega) HRa3.out.sz ?_); intro vw4 w4 ho hg; have HR4 := Lib.hid (HRa3.out.app ho hg L3.out); clear ho hg))
      clear c3
      have L4 : Hid ((putV sn).length ≤ 10) := putV_10 _ (by omega)
      obtain ⟨-, -, -, -, -, c4, -, -, -, -⟩ := TarBox.cells HR4.out.bx
      go_upto_region 11 with (first
          | (go_at_call 59; go_loud (refine (r3num_any ((sn : Int)) w4 (by omega) (by omega)).mono ?_); rintro e Wa4 ⟨va4, rfl, ho, hb⟩; obtain ⟨aa4, ca4, rfl, hsl, -⟩ := ho.slice; have HSa4 := Lib.hid hsl; have HRa4 := Lib.hid (HR4.out.below hb); obtain ⟨-, -, -, -, -, c4, -, -, -, -⟩ := TarBox.cells HRa4.out.bx; clear ho hb hsl)
          | (at_builtin; go_loud (refine wpList_app eltB rfl (.tmp 51) (.tmp 55) rfl (base := w.heap.size + 1) _ ((P2 ++ putV t.over.toNat) ++ putV t.full.toNat) rfl HRa4.out.own _ _ ca4 (putV sn) rfl HSa4.out (by have := L4.out; have := HRa4.out.len; have := HRa4.out.mm; unfold maxLen; omega) (by have := L4.out; have := HRa4.out.len; have := HRa4.out.mm; omega) HRa4.out.sz ?_); intro vw5 w5 ho hg; have HR5 := Lib.hid (HRa4.out.app ho hg L4.out); clear ho hg))
      clear c4
      obtain ⟨P3, hP3⟩ : ∃ P, ((P2 ++ putV t.over.toNat) ++ putV t.full.toNat) ++ putV sn = P := ⟨_, rfl⟩
      have HP3 := Lib.hid hP3
      rw [hP3] at HR5
      clear hP3
      obtain ⟨M, hM⟩ : ∃ M, 20 + 20 * bn + 10 + 10 + 10 = M := ⟨_, rfl⟩
      rw [hM] at HR5
      have hM9 : M ≤ 3000 := by omega
      clear hM HGI HR3 HR4
      go_upto_region 12 with fail
      go_loopw [3, 5] (fun vo vi wr => ∃ j : Nat, vi = .int .i64 ((j : Nat) : Int) ∧ j ≤ sn ∧ Hid (RQ w t ⟨ba, bn, bc⟩ ⟨sa, sn, sc⟩ ⟨ra, rn, rc⟩ vo (P3 ++ (t.shares.take j).flatMap enI) (M + 10 * j) wr)) (fun _ vi _ => sn - (intOf vi).toNat)
      case atStart => exact ⟨0, rfl, Nat.zero_le _, by have := HR5.out; show RQ _ _ _ _ _ _ _ _ _; simpa using this⟩
      case round =>
        obtain ⟨j, rfl, hj, HGJ⟩ := hrel
        obtain ⟨-, -, -, -, -, c4, -, -, -, -⟩ := TarBox.cells HGJ.out.bx
        by_cases hlt : j < sn
        · have hjj : (j : Int) < (sn : Int) := by omega
          obtain ⟨b, off, rx, e1, hbl, hr, s0⟩ := int_at (HGJ.out.inn.below HGJ.out.bl).s hlt
          replace e1 : sa = some ⟨b, off, none⟩ := e1
          subst e1
          have hrb := HF.out.shares rx (List.mem_of_getElem? hr)
          obtain ⟨hx0, hx1⟩ := hrb
          have HFT := Lib.hid (flat_take enI hr)
          have EL1 : Hid ((putV rx.toNat).length ≤ 10) := putV_10 _ (by omega)
          obtain ⟨xs, hxs⟩ : ∃ xs, P3 ++ (t.shares.take j).flatMap enI = xs := ⟨_, rfl⟩
          rw [hxs] at HGJ
          have HXS := Lib.hid hxs
          clear hxs hr
          have hj64 : j ≤ 16 := by omega
          go_wp2_with (first
            | (go_at_call 59; go_loud (refine (r3num_any rx wr (by omega) (by omega)).mono ?_); rintro e Wb1 ⟨vb1, rfl, ho, hb⟩; obtain ⟨ab1, cb1, rfl, hsl, -⟩ := ho.slice; have HSb1 := Lib.hid hsl; have HRb1 := Lib.hid (HGJ.out.below hb); clear ho hb hsl)
            | (at_builtin; go_loud (refine wpList_app eltB rfl (.tmp 64) (.tmp 70) rfl (base := w.heap.size + 1) _ xs rfl HRb1.out.own _ _ cb1 (putV rx.toNat) rfl HSb1.out (by have := EL1.out; have := HRb1.out.len; have := HRb1.out.mm; unfold maxLen; omega) (by have := EL1.out; have := HRb1.out.len; have := HRb1.out.mm; omega) HRb1.out.sz ?_); intro vc1 Wc1 ho hg; have HGE1 := Lib.hid (HRb1.out.app ho hg EL1.out); clear ho hg))
          have HFE : Hid (P3 ++ (t.shares.take (j + 1)).flatMap enI = xs ++ putV rx.toNat) := by
            show _ = _
            rw [HFT.out, ← List.append_assoc, HXS.out]; rfl
          go_roundw
          case rel => exact ⟨j + 1, by go_num, by omega, by rw [HFE.out, show M + 10 * (j + 1) = M + 10 * j + 10 by omega]; exact HGE1.out⟩
          case measure => simp [intOf]; omega
        · have hje : sn = j := by omega
          subst hje
          have hjj : ¬ (sn : Int) < (sn : Int) := by omega
          have htk : t.shares.take sn = t.shares := List.take_of_length_le (by rw [← HSN.out]; exact Nat.le_refl _)
          rw [htk] at HGJ
          clear htk HR5
          obtain ⟨P4, hP4⟩ : ∃ P, P3 ++ t.shares.flatMap enI = P := ⟨_, rfl⟩
          have HP4 := Lib.hid hP4
          rw [hP4] at HGJ
          clear hP4
          go_upto_region 15 with fail
          clear c4
          have L5 : Hid ((putV (t.unit).toNat).length ≤ 10) := putV_10 _ (by omega)
          obtain ⟨-, -, -, -, -, -, c5, -, -, -⟩ := TarBox.cells HGJ.out.bx
          go_upto_region 16 with (first
              | (go_at_call 59; go_loud (refine (r3num_any (t.unit) wr (by omega) (by omega)).mono ?_); rintro e Wa5 ⟨va5, rfl, ho, hb⟩; obtain ⟨aa5, ca5, rfl, hsl, -⟩ := ho.slice; have HSa5 := Lib.hid hsl; have HRa5 := Lib.hid (HGJ.out.below hb); obtain ⟨-, -, -, -, -, -, c5, -, -, -⟩ := TarBox.cells HRa5.out.bx; clear ho hb hsl)
              | (at_builtin; go_loud (refine wpList_app eltB rfl (.tmp 72) (.tmp 75) rfl (base := w.heap.size + 1) _ (P4) rfl HRa5.out.own _ _ ca5 (putV (t.unit).toNat) rfl HSa5.out (by have := L5.out; have := HRa5.out.len; have := HRa5.out.mm; unfold maxLen; omega) (by have := L5.out; have := HRa5.out.len; have := HRa5.out.mm; omega) HRa5.out.sz ?_); intro vw6 w6 ho hg; have HR6 := Lib.hid (HRa5.out.app ho hg L5.out); clear ho hg))
          clear c5
          have L6 : Hid ((putV (t.window).toNat).length ≤ 10) := putV_10 _ (by omega)
          obtain ⟨-, -, -, -, -, -, -, c6, -, -⟩ := TarBox.cells HR6.out.bx
          go_upto_region 17 with (first
              | (go_at_call 59; go_loud (refine (r3num_any (t.window) w6 (by omega) (by omega)).mono ?_); rintro e Wa6 ⟨va6, rfl, ho, hb⟩; obtain ⟨aa6, ca6, rfl, hsl, -⟩ := ho.slice; have HSa6 := Lib.hid hsl; have HRa6 := Lib.hid (HR6.out.below hb); obtain ⟨-, -, -, -, -, -, -, c6, -, -⟩ := TarBox.cells HRa6.out.bx; clear ho hb hsl)
              | (at_builtin; go_loud (refine wpList_app eltB rfl (.tmp 77) (.tmp 80) rfl (base := w.heap.size + 1) _ (P4 ++ putV t.unit.toNat) rfl HRa6.out.own _ _ ca6 (putV (t.window).toNat) rfl HSa6.out (by have := L6.out; have := HRa6.out.len; have := HRa6.out.mm; unfold maxLen; omega) (by have := L6.out; have := HRa6.out.len; have := HRa6.out.mm; omega) HRa6.out.sz ?_); intro vw7 w7 ho hg; have HR7 := Lib.hid (HRa6.out.app ho hg L6.out); clear ho hg))
          clear c6
          have L7 : Hid ((putV (t.chain).toNat).length ≤ 10) := putV_10 _ (by omega)
          obtain ⟨-, -, -, -, -, -, -, -, c7, -⟩ := TarBox.cells HR7.out.bx
          go_upto_region 18 with (first
              | (go_at_call 59; go_loud (refine (r3num_any (t.chain) w7 (by omega) (by omega)).mono ?_); rintro e Wa7 ⟨va7, rfl, ho, hb⟩; obtain ⟨aa7, ca7, rfl, hsl, -⟩ := ho.slice; have HSa7 := Lib.hid hsl; have HRa7 := Lib.hid (HR7.out.below hb); obtain ⟨-, -, -, -, -, -, -, -, c7, -⟩ := TarBox.cells HRa7.out.bx; clear ho hb hsl)
              | (at_builtin; go_loud (refine wpList_app eltB rfl (.tmp 82) (.tmp 85) rfl (base := w.heap.size + 1) _ ((P4 ++ putV t.unit.toNat) ++ putV t.window.toNat) rfl HRa7.out.own _ _ ca7 (putV (t.chain).toNat) rfl HSa7.out (by have := L7.out; have := HRa7.out.len; have := HRa7.out.mm; unfold maxLen; omega) (by have := L7.out; have := HRa7.out.len; have := HRa7.out.mm; omega) HRa7.out.sz ?_); intro vw8 w8 ho hg; have HR8 := Lib.hid (HRa7.out.app ho hg L7.out); clear ho hg))
          clear c7
          have L8 : Hid ((putV rn).length ≤ 10) := putV_10 _ (by omega)
          obtain ⟨-, -, -, -, -, -, -, -, -, c8⟩ := TarBox.cells HR8.out.bx
          go_upto_region 19 with (first
              | (go_at_call 59; go_loud (refine (r3num_any ((rn : Int)) w8 (by omega) (by omega)).mono ?_); rintro e Wa8 ⟨va8, rfl, ho, hb⟩; obtain ⟨aa8, ca8, rfl, hsl, -⟩ := ho.slice; have HSa8 := Lib.hid hsl; have HRa8 := Lib.hid (HR8.out.below hb); obtain ⟨-, -, -, -, -, -, -, -, -, c8⟩ := TarBox.cells HRa8.out.bx; clear ho hb hsl)
              | (at_builtin; go_loud (refine wpList_app eltB rfl (.tmp 87) (.tmp 91) rfl (base := w.heap.size + 1) _ (((P4 ++ putV t.unit.toNat) ++ putV t.window.toNat) ++ putV t.chain.toNat) rfl HRa8.out.own _ _ ca8 (putV rn) rfl HSa8.out (by have := L8.out; have := HRa8.out.len; have := HRa8.out.mm; unfold maxLen; omega) (by have := L8.out; have := HRa8.out.len; have := HRa8.out.mm; omega) HRa8.out.sz ?_); intro vw9 w9 ho hg; have HR9 := Lib.hid (HRa8.out.app ho hg L8.out); clear ho hg))
          clear c8
          obtain ⟨P5, hP5⟩ : ∃ P, (((P4 ++ putV t.unit.toNat) ++ putV t.window.toNat) ++ putV t.chain.toNat) ++ putV rn = P := ⟨_, rfl⟩
          have HP5 := Lib.hid hP5
          rw [hP5] at HR9
          clear hP5
          obtain ⟨M2, hM2⟩ : ∃ M2, M + 10 * sn + 10 + 10 + 10 + 10 = M2 := ⟨_, rfl⟩
          rw [hM2] at HR9
          have hM29 : M2 ≤ 6000 := by omega
          clear hM2 HGJ HR6 HR7 HR8
          go_upto_region 20 with fail
          go_loopw [3, 6] (fun vo vi wr => ∃ q : Nat, vi = .int .i64 ((q : Nat) : Int) ∧ q ≤ rn ∧ Hid (RQ w t ⟨ba, bn, bc⟩ ⟨sa, sn, sc⟩ ⟨ra, rn, rc⟩ vo (P5 ++ (t.rungs.take q).flatMap enP) (M2 + 20 * q) wr)) (fun _ vi _ => rn - (intOf vi).toNat)
          case atStart => exact ⟨0, rfl, Nat.zero_le _, by have := HR9.out; show RQ _ _ _ _ _ _ _ _ _; simpa using this⟩
          case round =>
            obtain ⟨q, rfl, hq, HGQ⟩ := hrel
            obtain ⟨-, -, -, -, -, -, -, -, -, c8⟩ := TarBox.cells HGQ.out.bx
            by_cases hlt : q < rn
            · have hqq : (q : Int) < (rn : Int) := by omega
              obtain ⟨b, off, r, e1, hbl, hr, s0, s1⟩ := pair_at (HGQ.out.inn.below HGQ.out.bl).r hlt
              replace e1 : ra = some ⟨b, off, none⟩ := e1
              subst e1
              have hrb := HF.out.rungs r (List.mem_of_getElem? hr)
              obtain ⟨rx, ry⟩ := r
              simp only [] at s0 s1 hrb
              obtain ⟨hx0, hx1, hy0, hy1⟩ := hrb
              have HFT := Lib.hid (flat_take enP hr)
              have HPR := Lib.hid hr
              clear hr s0 s1 hbl
              obtain ⟨xs, hxs⟩ : ∃ xs, P5 ++ (t.rungs.take q).flatMap enP = xs := ⟨_, rfl⟩
              rw [hxs] at HGQ
              have HXS := Lib.hid hxs
              clear hxs
              have hq64 : q ≤ 16 := by omega
              go_upto_region 22 with fail
              clear c8
              have EL1 : Hid ((putV rx.toNat).length ≤ 10) := putV_10 _ (by omega)
              have EL2 : Hid ((putV ry.toNat).length ≤ 10) := putV_10 _ (by omega)
              have HPA := Lib.hid (pair_at2 (HGQ.out.inn.below HGQ.out.bl).r HPR.out)
              obtain ⟨hbl, s0, s1⟩ := HPA.out
              obtain ⟨-, -, -, -, -, -, -, -, -, c8⟩ := TarBox.cells HGQ.out.bx
              go_upto_region 23 with (first
                  | (go_at_call 59; go_loud (refine (r3num_any rx wr (by omega) (by omega)).mono ?_); rintro e Wb1 ⟨vb1, rfl, ho, hb⟩; obtain ⟨ab1, cb1, rfl, hsl, -⟩ := ho.slice; have HSb1 := Lib.hid hsl; have HRb1 := Lib.hid (HGQ.out.below hb); clear ho hb hsl)
                  | (at_builtin; go_loud (refine wpList_app eltB rfl (.tmp 100) (.tmp 107) rfl (base := w.heap.size + 1) _ xs rfl HRb1.out.own _ _ cb1 (putV rx.toNat) rfl HSb1.out (by have := EL1.out; have := HRb1.out.len; have := HRb1.out.mm; unfold maxLen; omega) (by have := EL1.out; have := HRb1.out.len; have := HRb1.out.mm; omega) HRb1.out.sz ?_); intro vc1 Wc1 ho hg; have HGE1 := Lib.hid (HRb1.out.app ho hg EL1.out); clear ho hg))
              clear c8 hbl s0 s1
              obtain ⟨hbl, s0, s1⟩ := (pair_at2 (HGE1.out.inn.below HGE1.out.bl).r HPR.out)
              obtain ⟨-, -, -, -, -, -, -, -, -, c8⟩ := TarBox.cells HGE1.out.bx
              go_upto_region 21 with (first
                  | (go_at_call 59; go_loud (refine (r3num_any ry Wc1 (by omega) (by omega)).mono ?_); rintro e Wb2 ⟨vb2, rfl, ho, hb⟩; obtain ⟨ab2, cb2, rfl, hsl, -⟩ := ho.slice; have HSb2 := Lib.hid hsl; have HRb2 := Lib.hid (HGE1.out.below hb); clear ho hb hsl)
                  | (at_builtin; go_loud (refine wpList_app eltB rfl (.tmp 109) (.tmp 116) rfl (base := w.heap.size + 1) _ (xs ++ putV rx.toNat) rfl HRb2.out.own _ _ cb2 (putV ry.toNat) rfl HSb2.out (by have := EL2.out; have := HRb2.out.len; have := HRb2.out.mm; unfold maxLen; omega) (by have := EL2.out; have := HRb2.out.len; have := HRb2.out.mm; omega) HRb2.out.sz ?_); intro vc2 Wc2 ho hg; have HGE2 := Lib.hid (HRb2.out.app ho hg EL2.out); clear ho hg))
              clear c8 hbl s0 s1
              have HFE : Hid (P5 ++ (t.rungs.take (q + 1)).flatMap enP = (xs ++ putV rx.toNat) ++ putV ry.toNat) := by
                show _ = _
                rw [HFT.out, ← List.append_assoc, HXS.out]; unfold enP; simp only [List.append_assoc]
              go_wp2_with fail
              go_roundw
              case rel => exact ⟨q + 1, by go_num, by omega, by rw [HFE.out, show M2 + 20 * (q + 1) = M2 + 20 * q + 10 + 10 by omega]; exact HGE2.out⟩
              case measure => simp [intOf]; omega
            · have hqe : rn = q := by omega
              subst hqe
              have hqq : ¬ (rn : Int) < (rn : Int) := by omega
              have htk : t.rungs.take rn = t.rungs := List.take_of_length_le (by rw [← HRN.out]; exact Nat.le_refl _)
              rw [htk] at HGQ
              clear htk HR9
              have HPN : Hid (P5 ++ t.rungs.flatMap enP = putTar t) := by
                show _ = _
                rw [← HP5.out, ← HP4.out, ← HP3.out, ← HP2.out, ← HP1.out, HBN.out, HSN.out, HRN.out]
                unfold putTar
                simp
              rw [HPN.out] at HGQ
              have HBT := Lib.hid (putTar_byt HF.out)
              have HTL := Lib.hid (putTar_len HF.out)
              obtain ⟨oa, oc, hov, -, -⟩ := HGQ.out.own.slice
              subst hov
              have HSO := Lib.hid (own_sl HGQ.out.own)
              go_wp2_with (go_at_call 81; go_loud (refine (rframe_any 4 (by decide) oa _ oc (putTar t) wr HSO.out HBT.out (by have := HTL.out; omega)).mono ?_); rintro e w10 ⟨v10, rfl, ho, hb⟩; have HO := Lib.hid ho; have HB := Lib.hid hb; clear ho hb)
              go_ret
              exact ⟨HGQ.out.bl.trans (HB.out.mono HGQ.out.bl.size), _, rfl, HO.out.lower HGQ.out.bl.size⟩
end Go.Proofs.Ytbdkhgenkekioaa.Pb
