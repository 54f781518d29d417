/- Grids: grid.New: walked. -/
import Derived.Test.YtknbpnkonhniiaaGrF
namespace Go.Proofs.Ytknbpnkonhniiaa.Ne
open Go.RowKit Go.V Go.Proofs

theorem sl_grown {α : Type} {c : Cod α} {w w' : World} {g off n cap : Nat} {xs : List α} {b : Nat} (h : Sl c w (some ⟨g, off, none⟩) n cap xs) (hg : w.grownBy w' (some b)) (hne : g ≠ b) : Sl c w' (some ⟨g, off, none⟩) n cap xs :=
  ⟨h.hlen, h.hcap, h.hmax, (fun hd => nomatch hd), fun d hd hc => by
    obtain ⟨h1, h2, h3⟩ := h.hat d hd hc
    simp at hd; subst hd
    refine ⟨rfl, Nat.lt_of_lt_of_le h2 hg.size, fun j u hu => ?_⟩
    have e := hg.block g h2 (fun e => hne (Option.some.inj e))
    have := h3 j u hu
    simp only [World.cell?, e] at this ⊢
    exact this⟩

set_option maxHeartbeats 4000000 in
theorem grnew_any (a : Option Addr) (n cap : Nat) (S : List Stp) (z : Int) (w : World) (hn : n ≤ 200) (h : Sl Stp.cod w a n cap S) :
    Calls Try.prog 14 #[.slice a n cap, .int .i64 z] w fun e w' => Below w.heap.size w w' ∧ ((rightE S z ≠ 0 ∧ e = .returned (.tuple #[.pointer none, .int .i64 (rightE S z)])) ∨ (rightE S z = 0 ∧ ∃ (g : Nat) (hs : Hdr) (b : Nat), e = .returned (.tuple #[gP g, .int .i64 0]) ∧ GBox w' g hs z b ∧ Sl Stp.cod w' hs.a hs.n hs.cap S ∧ GMap w' b (idxs S z))) := by
  have hN := Lib.hid h.hlen
  by_cases h1 : z < 1
  · have HR : Hid (rightE S z = 2) := by show _ = _; rw [rightE, if_pos (.inl h1)]
    go_enter Try.func14, Try.ntmps14
    go_wp2
    go_ret2
    exact ⟨Below.refl _ _, .inl ⟨by rw [HR.out]; decide, by rw [HR.out]; rfl⟩⟩
  by_cases h2 : 67108864 < z
  · have HR : Hid (rightE S z = 2) := by show _ = _; rw [rightE, if_pos (.inr h2)]
    go_enter Try.func14, Try.ntmps14
    go_wp2
    go_ret2
    exact ⟨Below.refl _ _, .inl ⟨by rw [HR.out]; decide, by rw [HR.out]; rfl⟩⟩
  have HR : Hid (rightE S z = if S.all stpB = true then 0 else 2) := by show _ = _; rw [rightE, if_neg (fun hh => by omega)]
  have hz1 : 1 ≤ z := by omega
  have hm : n ≤ 9223372036854775807 := by omega
  have HS := Lib.hid h
  clear h
  have hmm := @run_makeMap Try.prog
  go_enter Try.func14, Try.ntmps14
  go_wp2_with (go_at_call 24; refine (sclone_any a n cap S _ (by omega) HS.out).mono ?_; rintro e w1 ⟨v, rfl, ho1, hb1⟩; obtain ⟨ga, gc, rfl, gs, -⟩ := ho1.slice; have HO1 := Lib.hid ho1; have HB1 := Lib.hid hb1; clear ho1 hb1 gs)
  have HG3 : Hid (GBox ((w1.alloc (.map #[] 0)).alloc (.cells #[.slice ga S.length gc, .int .i64 z, .map (some w1.heap.size)] 66)) (w1.heap.size + 1) ⟨ga, S.length, gc⟩ z w1.heap.size) := by
    have := box_new (w1.alloc (.map #[] 0)) (.cells #[.slice ga S.length gc, .int .i64 z, .map (some w1.heap.size)] 66)
    rw [World.size_alloc] at this
    exact this
  have HM3 : Hid (GMapO (w1.heap.size + 2) ((w1.alloc (.map #[] 0)).alloc (.cells #[.slice ga S.length gc, .int .i64 z, .map (some w1.heap.size)] 66)) w1.heap.size 0 (fun _ _ => [])) := (GMapO.made (w1.heap.size + 2) w1).kept ((Below.refl _ _).alloc (Nat.le_refl _) _)
  have HB13 : Hid (Below w1.heap.size w1 ((w1.alloc (.map #[] 0)).alloc (.cells #[.slice ga S.length gc, .int .i64 z, .map (some w1.heap.size)] 66))) := ((Below.refl _ _).alloc (Nat.le_refl _) _).alloc (by simp) _
  have hsz3 : ((w1.alloc (.map #[] 0)).alloc (.cells #[.slice ga S.length gc, .int .i64 z, .map (some w1.heap.size)] 66)).heap.size = w1.heap.size + 2 := by simp
  have HB3 : Hid (Below w.heap.size w ((w1.alloc (.map #[] 0)).alloc (.cells #[.slice ga S.length gc, .int .i64 z, .map (some w1.heap.size)] 66))) := HB1.out.trans (HB13.out.mono HB1.out.size)
  have HO3 := Lib.hid (HO1.out.below HB13.out)
  have hb1l : w.heap.size ≤ w1.heap.size := HB1.out.size
  obtain ⟨es0, ck0, hmb⟩ : ∃ es ck, ((w1.alloc (.map #[] 0)).alloc (.cells #[.slice ga S.length gc, .int .i64 z, .map (some w1.heap.size)] 66)).heap[w1.heap.size]? = some (.map es ck) := ⟨_, _, box_alloc (box_new w1 (.map #[] 0))⟩
  have HMB := Lib.hid hmb
  clear hmb
  generalize hW3 : ((w1.alloc (.map #[] 0)).alloc (.cells #[.slice ga S.length gc, .int .i64 z, .map (some w1.heap.size)] 66)) = W3 at HG3 HM3 HB13 hsz3 HB3 HO3 HMB ⊢
  clear hW3
  go_loopw [27] (fun i wr => ∃ (k : Nat), k ≤ n ∧ i = .int .i64 k ∧ Hid ((S.take k).all stpB = true) ∧ Hid (GMapO (w1.heap.size + 2) wr w1.heap.size k (idxs (S.take k) z)) ∧ Hid (W3.grownBy wr (some w1.heap.size))) (fun i _ => n - (intOf i).toNat)
  case atStart => exact ⟨0, by omega, rfl, rfl, HM3.out, ⟨rfl, rfl, rfl, Nat.le_refl _, fun _ _ _ => rfl⟩⟩
  case round =>
    obtain ⟨k, hk, rfl, he, hmp, hgb⟩ := hrel
    have HB : Hid (Below w.heap.size w wr) := grb_lower HB3.out hgb.out hb1l (by omega)
    have HG : Hid (GBox wr (w1.heap.size + 1) ⟨ga, S.length, gc⟩ z w1.heap.size) := (hgb.out.block _ (by omega) (by simp)).trans HG3.out
    have hwl : W3.heap.size ≤ wr.heap.size := hgb.out.size
    by_cases hlt : k < n
    · obtain ⟨b, off, r, rfl, hbl, hr, c0, c1⟩ := stp_at (HS.out.below HB.out) hlt
      have HRk := Lib.hid hr
      have hltz : (k : Int) < n := by omega
      clear hr
      obtain ⟨bb, hbb⟩ : ∃ bb, mayB r.x r.y = bb := ⟨_, rfl⟩
      have HBB := Lib.hid hbb
      clear hbb
      cases bb with
      | false =>
        go_wp2_with (go_at_call 25; go_fit (may_any r.x r.y _); rintro e w2 ⟨rfl, rfl⟩; rw [HBB.out])
        go_ret2
        refine ⟨HB.out.alloc HB.out.size _, .inl ⟨?_, ?_⟩⟩
        · rw [HR.out, all_not HRk.out HBB.out]; decide
        · rw [HR.out, all_not HRk.out HBB.out]; rfl
      | true =>
        have hsb := of_decide_eq_true HBB.out
        have hrx : 0 ≤ r.x ∧ r.x < 67108864 := ⟨hsb.1, hsb.2.1⟩
        have hry : 0 ≤ r.y ∧ r.y < 67108864 := ⟨hsb.2.2.1, hsb.2.2.2⟩
        obtain ⟨wx, bx⟩ := quo_in hrx hz1
        obtain ⟨wy, bY⟩ := quo_in hry hz1
        have HRX : Hid (0 ≤ r.x ∧ r.x < 67108864) := hrx
        have HRY : Hid (0 ≤ r.y ∧ r.y < 67108864) := hry
        clear hsb hrx hry wx wy
        have HSN : Hid (∀ X Y, idxs (S.take (k + 1)) z X Y = if r.x / z = X ∧ r.y / z = Y then idxs (S.take k) z X Y ++ [(k : Int)] else idxs (S.take k) z X Y) := fun X Y => idxs_snoc S z X Y HRk.out
        obtain ⟨cx, hcx⟩ : ∃ c, r.x / z = c := ⟨_, rfl⟩
        obtain ⟨cy, hcy⟩ : ∃ c, r.y / z = c := ⟨_, rfl⟩
        rw [hcx] at bx HSN
        rw [hcy] at bY HSN
        have HCX := Lib.hid hcx
        have HCY := Lib.hid hcy
        clear hcx hcy
        have hX := Lib.hid (box_new wr (.cells #[.int .i64 r.x, .int .i64 r.y] 53))
        go_upto_region 12 with (first
          | (go_at_call 25; go_fit (may_any r.x r.y _); rintro e w2 ⟨rfl, rfl⟩; rw [HBB.out])
          | (go_at_call 26; go_fit (grat_any (w1.heap.size + 1) ⟨ga, S.length, gc⟩ z w1.heap.size r.x r.y _ (HG.out.below ((Below.refl _ _).alloc (Nat.le_refl _) _)) hz1 HRX.out HRY.out); rintro e w2 ⟨rfl, hb2⟩; rw [HCX.out, HCY.out]; have HB2 := Lib.hid hb2; clear hb2))
        have HZ2 := Lib.hid (box_new w2 (.cells #[.int .i64 cx, .int .i64 cy] 67))
        have HG2 := Lib.hid ((HG.out.below ((Below.refl _ _).alloc (Nat.le_refl _) (.cells #[.int .i64 r.x, .int .i64 r.y] 53))).below HB2.out)
        have g9 := ((HG2.out.below ((Below.refl _ _).alloc (Nat.le_refl _) (.cells #[.int .i64 cx, .int .i64 cy] 67))).cells).2.2.2
        obtain ⟨z0, z1, -, -⟩ := box2_cells HZ2.out
        have hw2 : wr.heap.size < w2.heap.size := by have := HB2.out.size; simp at this; omega
        have hbm : Below wr.heap.size wr (((w2.alloc (.cells #[.int .i64 cx, .int .i64 cy] 67)).alloc (.cells #[.int .i64 k] 3)).drew) :=
          Below.drew ((((((Below.refl wr.heap.size wr).alloc (Nat.le_refl _) (.cells #[.int .i64 r.x, .int .i64 r.y] 53)).trans (HB2.out.mono (by simp))).alloc (by omega) _).alloc (by simp; omega) _))
        have HBM := Lib.hid hbm
        have wfx : Iok cx := gi64_wf (by omega) (by omega)
        have wfy : Iok cy := gi64_wf (by omega) (by omega)
        obtain ⟨v0, st, w4, r1, ho4, hg4, hst⟩ := (hmp.out.kept hbm).entry (by unfold maxLen; omega) wfx wfy
        have HO4 := Lib.hid ho4
        have HG4 := Lib.hid hg4
        have HST := Lib.hid hst
        have HSL : Hid (Sl icod w4 (some ⟨w2.heap.size + 1, 0, none⟩) 1 1 [(k : Int)]) := by
          have q := (sl_new (c := icod) (w2.alloc (.cells #[.int .i64 cx, .int .i64 cy] 67)) #[.int .i64 k] 3 [(k : Int)] 1 rfl (by unfold maxLen; omega) rfl).below (Below.drew (Below.refl _ _))
          rw [World.size_alloc] at q
          exact sl_grown q hg4 (by omega)
        have HLN : Hid ((idxs (S.take k) z cx cy).length ≤ 200) := by
          have := idxs_len (S.take k) z cx cy
          rw [List.length_take] at this
          show _ ≤ _
          omega
        have HM1 : Hid ((idxs (S.take k) z cx cy).length + 1 ≤ maxLen) := by have := HLN.out; show _ ≤ _; unfold maxLen; omega
        have HM2 : Hid (((idxs (S.take k) z cx cy).length + 1) * 8 ≤ 140737488355328) := by have := HLN.out; show _ ≤ _; omega
        have HS4 : Hid (w1.heap.size + 2 ≤ w4.heap.size) := by
          have := hg4.size
          have := hbm.size
          show _ ≤ _
          omega
        clear ho4 hg4 hst hbm wfx wfy
        have hgl : w1.heap.size + 1 < w2.heap.size + 1 := by omega
        go_region_law (go_loud (refine step_app_at Ir.eltI rfl (.tmp 49) (.tmp 51) rfl v0 (idxs (S.take k) z cx cy) (by rfl) HO4.out ⟨w2.heap.size + 1, 0, none⟩ 1 1 [(k : Int)] (by rfl) HSL.out HM1.out HM2.out HS4.out ?_); rintro v5 w5 ho5 hg5 hat5; obtain ⟨w6, r6, hm6, hb6⟩ := HST.out w4 w5 v5 k (Below.refl _ _) ho5 hg5 hat5; have r6' : (Instr.entryStore 64 (.map (some w1.heap.size)) (.int .i64 (st : Int)) v5).run Try.prog w5 = .ok () w6 := r6; have HM6 := Lib.hid hm6; have HB6 := Lib.hid hb6; clear ho5 hg5 hat5 hm6 hb6)
        all_goals
          go_wp2_with fail
          go_roundw
          case rel =>
            refine ⟨k + 1, by omega, by go_num, ?_, ?_, HB6.out W3 (by omega) (grb_below hgb.out HBM.out)⟩
            · show _ = _
              rw [take_at HRk.out, List.all_append, he.out]; simp; exact HBB.out
            · have e : idxs (S.take (k + 1)) z = fun x' y' => if x' = cx ∧ y' = cy then idxs (S.take k) z cx cy ++ [(k : Int)] else idxs (S.take k) z x' y' := by
                funext X Y
                rw [HSN.out X Y]
                by_cases q : X = cx ∧ Y = cy
                · obtain ⟨rfl, rfl⟩ := q
                  simp only [and_self, if_true]
                · rw [if_neg q, if_neg (fun e => q ⟨e.1.symm, e.2.symm⟩)]
              show GMapO _ _ _ _ _
              rw [e]; exact HM6.out
          case measure => simp [intOf]; omega
    · have hk' : k = n := by omega
      have HK := Lib.hid hk'; clear hk'
      go_wp2_with fail
      go_ret2
      have e := he.out
      have ht : S.take k = S := by rw [HK.out, List.take_of_length_le (by rw [← hN.out]; exact Nat.le_refl _)]
      rw [ht] at e
      refine ⟨HB.out, .inr ⟨by rw [HR.out, if_pos e], _, ⟨ga, S.length, gc⟩, _, rfl, HG.out, ?_, ?_⟩⟩
      · have o := HO3.out.kept hgb.out (.inr (own_ne_map HO3.out HMB.out))
        obtain ⟨a', c', e', s', -⟩ := o.slice
        cases e'
        exact s'
      · have := hmp.out.close
        rwa [ht] at this
end Go.Proofs.Ytknbpnkonhniiaa.Ne
