/- Networks: a table's rows and distances, walked. -/
import Derived.Test.YthhpgahnhpgmeaaNeT
namespace Go.Proofs.Ythhpgahnhpgmeaa.Ne
open Go.RowKit Go.V Go.Proofs Go.Sort Go.Maps

theorem turned_chg {w w' : World} {mg : Nat} (h : w.mapTurned w' mg) : Chg w w' mg none := Chg.of_grown h.grown mg none (fun _ hk => .inl (Option.some.inj hk).symm)
theorem chg_sl {α : Type} {c : Cod α} {w w' : World} {g o n cap : Nat} {xs : List α} (hc : Chg w w' g none) (h : Sl c w (some ⟨o, 0, none⟩) n cap xs) (ho : o ≠ g) : Sl c w' (some ⟨o, 0, none⟩) n cap xs :=
  ⟨h.hlen, h.hcap, h.hmax, h.hnil, fun d hd h0 => by
    obtain ⟨h1, h2, h3⟩ := h.hat d hd h0
    cases hd
    refine ⟨h1, Nat.lt_of_lt_of_le h2 hc.size, fun j u hu => ?_⟩
    have := h3 j u hu
    have e := hc.block o h2 ho (by simp)
    unfold World.cell? at this ⊢
    simp only [] at this ⊢
    rw [e]; exact this⟩

theorem nat_wf {a : Nat} (h : a ≤ 1000000) : (Lit.int .i64 (a : Int)).wf = true := by
  show (decide (IntKind.i64.min ≤ (a : Int)) && decide ((a : Int) ≤ IntKind.i64.max)) = true
  have e1 : IntKind.i64.min = -9223372036854775808 := by decide
  have e2 : IntKind.i64.max = 9223372036854775807 := by decide
  rw [e1, e2]
  simp
  omega
theorem heldR_inv {v v0 : Value} {D : DataW Value} {kl : Lit} {zd : DataW Value} {ps : List MemPlace} (h : heldR v = some (D.atKey kl zd, ps)) (h0 : D.atKey kl zd = .held v0) : v = v0 := by
  unfold heldR at h
  rw [h0] at h
  simp at h
  exact h.1
theorem TabIn.mono {w : World} {base tg mg N : Nat} {n : Net} {hs hl : Hdr} (h : TabIn w base tg mg N n hs hl) : TabIn w base tg mg (N + 1) n hs hl := by
  obtain ⟨D, h1, h2⟩ := h.map
  exact ⟨h.box, h.net, h.bt, h.bm, D, h1.mono (Nat.le_succ _), h2⟩

set_option maxHeartbeats 4000000 in
set_option maxRecDepth 100000 in
theorem trow_gen (w : World) (base tg mg N : Nat) (n : Net) (hs hl : Hdr) (a : Nat) (h : TabIn w base tg mg N n hs hl) (hok : checkE n = 0) (ha : a < hs.n) (hN : N ≤ 1000000) (hne : tg ≠ mg) :
    Calls Try.prog 101 #[.pointer (some ⟨tg, 0, none⟩), .int .i64 a] w fun e w' => ∃ o cap, e = .returned (.slice (some ⟨o, 0, none⟩) hs.n cap) ∧ Sl icod w' (some ⟨o, 0, none⟩) hs.n cap (bf n.links hs.n a) ∧ TabIn w' base tg mg (N + 1) n hs hl ∧ ChgT w w' mg := by
  obtain ⟨D, hown, hrows⟩ := h.map
  obtain ⟨k1, k2, -, -, -, -⟩ := check_ok hok
  have hsn := h.netIn.s.hlen
  have hln := h.netIn.l.hlen
  have hkey : keyOf Try.prog 3 (.int .i64 (a : Int)) = some (.int .i64 (a : Int)) := keyOf_int_mk Try.underlying3 (nat_wf (by omega))
  have HT := Lib.hid h
  have HM : Hid (hs.n ≤ 1000000 ∧ hl.n ≤ 1000000) := ⟨by omega, by omega⟩
  have HF : Hid (fromE n (a : Int) = 0) := by show _ = _; unfold fromE; rw [hok, if_pos rfl, if_pos (by omega)]
  have HSN := Lib.hid hsn
  have hNm : N < maxLen := by unfold maxLen; omega
  obtain ⟨c0, c1, c2, c3⟩ := box4_cells h.box
  have HOW := Lib.hid hown
  have HRO := Lib.hid hrows
  clear hown hrows hsn hln k1 k2 h
  by_cases hh : Maps.has D (.int .i64 (a : Int)) = true
  · obtain ⟨v, e1, r1, r2, o, cap, rfl, r4, r5, -⟩ := HRO.out a hh
    have HHH := Lib.hid hh
    have HE1 := Lib.hid e1
    have HR5 := Lib.hid r5
    clear hh e1 r1 r2 r5
    go_enter Try.func101, Try.ntmps101
    go_wp2_with (at_lookup; go_loud (refine wpList_lookup_own_ok _ rfl _ _ 109 rfl 3 56 lawI3 Try.underlying109 heldR (zeroSI _) (.held (.slice none 0 0)) [] rfl mg N D rfl HOW.out _ _ rfl hkey ?_); intro v' ps hv; rw [HHH.out, heldR_inv hv HE1.out]; clear hv)
    go_ret
    exact ⟨o, cap, rfl, HR5.out, HT.out.mono, ChgT.refl _ _⟩
  · have hf : Maps.has D (.int .i64 (a : Int)) = false := by simpa using hh
    have HHF := Lib.hid hf
    clear hh hf
    go_enter Try.func101, Try.ntmps101
    go_upto_region 4 with (first
      | (at_lookup; go_loud (refine wpList_lookup_own_ok _ rfl _ _ 109 rfl 3 56 lawI3 Try.underlying109 heldR (zeroSI _) (.held (.slice none 0 0)) [] rfl mg N D rfl HOW.out _ _ rfl hkey ?_); intro v' ps hv; rw [HHF.out]; clear hv)
      | (go_at_call 111; go_loud (refine (pfrom_any n hs hl (a : Int) _ HM.out HT.out.netIn).mono ?_); rintro e w3 ⟨hb3, -, hf⟩; obtain ⟨o, cap, rfl, ho⟩ := hf HF.out; have HB3 := Lib.hid hb3; have HO3 := Lib.hid ho; clear hf hb3 ho))
    have HT3 := Lib.hid (HT.out.below HB3.out)
    have HW3 : Hid (w3.ownsMap Try.prog 3 heldR mg N D) := HOW.out.kept (grownN HB3.out) (by simp)
    clear c0 c1 c2 c3
    obtain ⟨c0, c1, c2, c3⟩ := box4_cells HT3.out.box
    go_wp2_with (at_mapUpdate; go_loud (refine wpList_mapUpdate_in _ rfl _ _ _ 109 rfl 3 56 lawI3 Try.underlying109 heldR mg N D rfl HW3.out hNm _ _ _ rfl rfl hkey _ [] rfl ?_); intro w4 ho4 ht4; have HO4 := Lib.hid ho4; have HC4 := Lib.hid (turned_chg ht4); clear ho4 ht4)
    go_ret
    have hol := World.ownsRow.lt HO3.out o rfl
    have hmgw : mg < w.heap.size := HOW.out.lt
    obtain ⟨oa, oc, e1, hsl, hcur⟩ := HO3.out.slice
    simp only [Value.slice.injEq] at e1
    obtain ⟨e2, e3, e4⟩ := e1
    obtain ⟨gg, cur, ge, -, hcur⟩ := hcur _ e2.symm
    cases ge
    have hsl' : Sl icod w3 (some ⟨o, 0, none⟩) hs.n cap (bf n.links hs.n a) := by
      rw [← e2, ← e3, ← e4] at hsl
      have e : hs.n = n.stops.length := HSN.out
      rw [← e] at hsl; exact hsl
    have hsl4 := chg_sl HC4.out hsl' (show o ≠ mg by omega)
    have hwc : Chg w w4 mg none := (Chg.of_below HB3.out mg none).trans HC4.out (.inl rfl)
    have hrw : ∀ g, g < w.heap.size → TOff w mg g → TOff w4 mg g := by
      intro g hg ho N9 D9 h9 b v hb hv e
      have := ownsMap_one HO4.out h9
      subst this
      have hisD := HW3.out.isMap
      by_cases hab : b = (a : Int)
      · subst hab
        rw [atKey_put_same hisD (by simp [WideAt.IsKeyLit]) _ _] at hv
        have hv := DataW.held.inj hv
        subst hv
        have e' : (Value.slice (some ⟨o, 0, none⟩) hs.n cap).ownBlock = some g := e
        have : o = g := by simpa [Value.ownBlock] using e'
        omega
      · have hne2 : (Lit.int .i64 b) ≠ (Lit.int .i64 (a : Int)) := by simpa using hab
        rw [has_put_other hne2] at hb
        rw [atKey_put_other hne2] at hv
        exact ho N D HOW.out b v hb hv e
    refine ⟨o, cap, rfl, hsl4, ?_, hwc, hrw⟩
    obtain ⟨W0, n1, n2, n3⟩ := HT3.out.net
    have hb4 : Below W0.heap.size w3 w4 := HC4.out.below (by rw [n1]; exact HT3.out.bm) (by simp) (by have := n3.size; omega)
    refine ⟨HC4.out.box HT3.out.box hne (by simp), ⟨W0, n1, n2, n3.trans hb4⟩, HT3.out.bt, HT3.out.bm, _, HO4.out, fun b hb => ?_⟩
    have hisD := HW3.out.isMap
    by_cases hab : b = (a : Int)
    · subst hab
      exact ⟨_, atKey_put_same hisD (by simp [WideAt.IsKeyLit]) _ _, by omega, by omega, o, cap, rfl, by omega, hsl4, cur, HC4.out.box hcur (by omega) (by simp)⟩
    · have hne2 : (Lit.int .i64 b) ≠ (Lit.int .i64 (a : Int)) := by simpa using hab
      rw [has_put_other hne2] at hb
      obtain ⟨v, q1, q2, q3, o2, cap2, q4, q5, q6, cur2, q7⟩ := HRO.out b hb
      refine ⟨v, by rw [atKey_put_other hne2]; exact q1, q2, q3, o2, cap2, q4, q5, ?_, cur2, HC4.out.box (box_below q7 HB3.out) (by omega) (by simp)⟩
      exact chg_sl HC4.out (q6.below HB3.out) (by omega)
theorem trow_any (w : World) (base tg mg N : Nat) (n : Net) (hs hl : Hdr) (a : Nat) (h : TabIn w base tg mg N n hs hl) (hok : checkE n = 0) (ha : a < hs.n) (hN : N ≤ 1000000) (hne : tg ≠ mg) :
    Calls Try.prog 101 #[.pointer (some ⟨tg, 0, none⟩), .int .i64 a] w fun e w' => ∃ o cap, e = .returned (.slice (some ⟨o, 0, none⟩) hs.n cap) ∧ Sl icod w' (some ⟨o, 0, none⟩) hs.n cap (bf n.links hs.n a) ∧ TabIn w' base tg mg (N + 1) n hs hl ∧ Chg w w' mg none :=
  (trow_gen w base tg mg N n hs hl a h hok ha hN hne).mono fun _ _ ⟨o, cap, h1, h2, h3, h4⟩ => ⟨o, cap, h1, h2, h3, h4.chg⟩
end Go.Proofs.Ythhpgahnhpgmeaa.Ne
