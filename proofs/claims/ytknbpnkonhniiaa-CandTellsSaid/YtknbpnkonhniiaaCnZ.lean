/- Candidates: the law CandTells: walked. -/
/- Candidates: a weighing and samples, opened. -/
/- CandTells answers true, whatever comes in, and what came in reads as it did; no condition. -/
import Derived.Test.YtknbpnkonhniiaaCnJ
import Derived.Test.YtknbpnkonhniiaaNeN
import Derived.Test.YtknbpnkonhniiaaWgh
import Derived.Test.YtknbpnkonhniiaaCnA
import Derived.Test.YtknbpnkonhniiaaRows
namespace Go.Proofs.Ytknbpnkonhniiaa.Ne
open Go.RowKit Go.V Go.Proofs

set_option maxHeartbeats 8000000 in
set_option maxRecDepth 100000 in
theorem ctells_any (n : Net) (hs hl : Hdr) (x : Wgh) (a : Option Addr) (k cap : Nat) (l : List Smp) (w : World) (hnet : NetIn w n hs hl) (hl0 : Sl Smp.cod w a k cap l) :
    Calls Try.prog 3 #[n.val hs hl, x.val, .slice a k cap] w fun e w' => e = .returned (.bool true) ∧ Below w.heap.size w w' := by
  obtain ⟨xr, xm, xf, xc⟩ := x
  have HX0 : Hid (((w.alloc (n.box hs hl)).alloc (Wgh.mk xr xm xf xc).box).heap[w.heap.size]? = some (.cells #[.int .i64 n.ver, .slice hs.a hs.n hs.cap, .slice hl.a hl.n hl.cap] 25 (0, 0))) := box_alloc (box_new w _)
  have HY0 : Hid (((w.alloc (n.box hs hl)).alloc (Wgh.mk xr xm xf xc).box).heap[w.heap.size + 1]? = some (.cells #[.int .i64 xr, .int .i64 xm, .int .i64 xf, .int .i64 xc] 27 (0, 0))) := by
    have := box_new (w.alloc (n.box hs hl)) (Wgh.mk xr xm xf xc).box
    rw [World.size_alloc] at this
    exact this
  have HB0 : Hid (Below w.heap.size w ((w.alloc (n.box hs hl)).alloc (Wgh.mk xr xm xf xc).box)) := ((Below.refl _ _).alloc (Nat.le_refl _) _).alloc (by simp) _
  have HNT := Lib.hid hnet
  have HL := Lib.hid hl0
  have hmx : k ≤ 9223372036854775807 := by have := hl0.hcap; have := hl0.hmax; unfold maxLen at this; omega
  have mixed : Try.prog.follows .mixedOrders = true := by kernel_rfl
  obtain ⟨bf, hbf⟩ : ∃ b, decide (hs.n ≤ 60 ∧ hl.n ≤ 120) = b := ⟨_, rfl⟩
  have HBF := Lib.hid hbf
  clear hnet hl0 hbf
  cases bf with
  | false =>
    go_enter Try.func3, Try.ntmps3
    go_wp2_with (first
      | (go_at_call 6; go_fit (awake21_any _); rintro e w2 ⟨rfl, hb2⟩; have HX2 := Lib.hid (box_below HX0.out hb2); obtain ⟨x0, x1, x2, -, -, -⟩ := box3_cells HX2.out; have HB2 := Lib.hid (HB0.out.trans (hb2.mono HB0.out.size)); clear hb2)
      | (go_at_call 7; go_fit (few_any n hs hl _); rintro e w3 ⟨rfl, hb3⟩; rw [HBF.out]; have HB3 := Lib.hid (HB2.out.trans (hb3.mono HB2.out.size)); clear hb3))
    go_ret
    exact ⟨rfl, HB3.out⟩
  | true =>
    obtain ⟨m1, m2⟩ := of_decide_eq_true HBF.out
    by_cases hk : 60 < k
    · go_enter Try.func3, Try.ntmps3
      go_wp2_with (first
        | (go_at_call 6; go_fit (awake21_any _); rintro e w2 ⟨rfl, hb2⟩; have HX2 := Lib.hid (box_below HX0.out hb2); obtain ⟨x0, x1, x2, -, -, -⟩ := box3_cells HX2.out; have HB2 := Lib.hid (HB0.out.trans (hb2.mono HB0.out.size)); clear hb2)
        | (go_at_call 7; go_fit (few_any n hs hl _); rintro e w3 ⟨rfl, hb3⟩; rw [HBF.out]; have HB3 := Lib.hid (HB2.out.trans (hb3.mono HB2.out.size)); clear hb3))
      go_ret
      exact ⟨rfl, HB3.out⟩
    · have HMM : Hid (hs.n ≤ 200 ∧ hl.n ≤ 1000000) := ⟨by omega, by omega⟩
      obtain ⟨E, hE⟩ : ∃ E, allErr n ⟨xr, xm, xf, xc⟩ l = E := ⟨_, rfl⟩
      obtain ⟨RW, hRW⟩ : ∃ R, (if E = 0 then l.map (rowE n ⟨xr, xm, xf, xc⟩) else []) = R := ⟨_, rfl⟩
      have HC1 : Hid (∀ W, NetIn W n hs hl → Sl Smp.cod W a k cap l → Calls Try.prog 8 #[n.val hs hl, (Wgh.mk xr xm xf xc).val, .slice a k cap] W fun e w' => ∃ va vc gh, e = .returned (.tuple #[.slice va RW.length vc, .int .i64 E]) ∧ Sls Fnd.cod w' va RW.length vc gh RW ∧ Below W.heap.size W w') := fun W h1 h2 => by
        refine (call_any n hs hl ⟨xr, xm, xf, xc⟩ a k cap l W HMM.out (by omega) h1 h2).mono ?_
        rintro e w' ⟨v, gh, rfl, ho, hb⟩
        rw [hE, hRW] at ho
        obtain ⟨va, vc, rfl, hsls⟩ := ho.sls
        exact ⟨va, vc, gh, by rw [hE], hsls, hb⟩
      have HC2 : Hid (∀ W, NetIn W n hs hl → Sl Smp.cod W a k cap l → Calls Try.prog 9 #[n.val hs hl, (Wgh.mk xr xm xf xc).val, .slice a k cap] W fun e w' => ∃ va vc gh, e = .returned (.tuple #[.slice va RW.length vc, .int .i64 E]) ∧ Sls Fnd.cod w' va RW.length vc gh RW ∧ Below W.heap.size W w') := fun W h1 h2 => by
        refine (rall_any n hs hl ⟨xr, xm, xf, xc⟩ a k cap l W HMM.out (by omega) h1 h2).mono ?_
        rintro e w' ⟨v, gh, rfl, ho, hb⟩
        rw [hE, hRW] at ho
        obtain ⟨va, vc, rfl, hsls⟩ := ho.sls
        exact ⟨va, vc, gh, by rw [hE], hsls, hb⟩
      obtain ⟨rn, hrn⟩ : ∃ rn, RW.length = rn := ⟨_, rfl⟩
      rw [hrn] at HC1 HC2
      have HRN := Lib.hid hrn
      have hrn2 : rn ≤ 9223372036854775807 := by
        have h1 : l.length ≤ 60 := by have := HL.out.hlen; omega
        rw [← hrn, ← hRW]
        split
        · rw [List.length_map]; omega
        · simp
      clear hE hRW hrn
      go_enter Try.func3, Try.ntmps3
      go_upto_region 7 with (first
        | (go_at_call 6; go_fit (awake21_any _); rintro e w2 ⟨rfl, hb2⟩; have HX2 := Lib.hid (box_below HX0.out hb2); have HY2 := Lib.hid (box_below HY0.out hb2); obtain ⟨x0, x1, x2, -, -, -⟩ := box3_cells HX2.out; have HB2 := Lib.hid (HB0.out.trans (hb2.mono HB0.out.size)); clear hb2)
        | (go_at_call 7; go_fit (few_any n hs hl _); rintro e w3 ⟨rfl, hb3⟩; rw [HBF.out]; have HX3 := Lib.hid (box_below HX2.out hb3); have HY3 := Lib.hid (box_below HY2.out hb3); obtain ⟨x0, x1, x2, -, -, -⟩ := box3_cells HX3.out; obtain ⟨y0, y1, y2, y3⟩ := box4w_cells HY3.out; have HB3 := Lib.hid (HB2.out.trans (hb3.mono HB2.out.size)); clear hb3)
        | (go_at_call 8; refine (HC1.out _ (HNT.out.below HB3.out) (HL.out.below HB3.out)).mono ?_; rintro e w4 ⟨va, vc, gh, rfl, hsls, hb4⟩; have HV4 := Lib.hid hsls; have HX4 := Lib.hid (box_below HX3.out hb4); have HY4 := Lib.hid (box_below HY3.out hb4); obtain ⟨x0, x1, x2, -, -, -⟩ := box3_cells HX4.out; obtain ⟨y0, y1, y2, y3⟩ := box4w_cells HY4.out; have HB4 := Lib.hid (HB3.out.trans (hb4.mono HB3.out.size)); clear hsls hb4)
        | (go_at_call 9; refine (HC2.out _ (HNT.out.below HB4.out) (HL.out.below HB4.out)).mono ?_; rintro e w5 ⟨ua, uc, uh, rfl, hsls, hb5⟩; have HU5 := Lib.hid hsls; have HV5 := Lib.hid (HV4.out.below hb5); have HY5 := Lib.hid (box_below HY4.out hb5); have HB5 := Lib.hid (HB4.out.trans (hb5.mono HB4.out.size)); clear hsls hb5))
      clear x0 x1 x2 y0 y1 y2 y3
      obtain ⟨y0, y1, y2, y3⟩ := box4w_cells HY5.out
      have Y0 := cell_regrown y0
      have Y1 := cell_regrown y1
      have Y2 := cell_regrown y2
      have Y3 := cell_regrown y3
      obtain ⟨bm, hbm⟩ : ∃ b, mayW ⟨xr, xm, xf, xc⟩ = b := ⟨_, rfl⟩
      have q1 : ∀ nd osq, Calls Try.prog 10 #[(Wgh.mk xr xm xf xc).val] (Go.Sort.grow (redrawn w5 nd) osq) fun e w' => e = .returned (.bool bm) ∧ Below (Go.Sort.grow (redrawn w5 nd) osq).heap.size (Go.Sort.grow (redrawn w5 nd) osq) w' := fun nd osq => (cmay_any ⟨xr, xm, xf, xc⟩ _).mono fun e w' ⟨k1, k2⟩ => ⟨by rw [k1, hbm], k2⟩
      have q2 : ∀ nd osq, Calls Try.prog 11 #[(Wgh.mk xr xm xf xc).val] (Go.Sort.grow (redrawn w5 nd) osq) fun e w' => e = .returned (.bool bm) ∧ Below (Go.Sort.grow (redrawn w5 nd) osq).heap.size (Go.Sort.grow (redrawn w5 nd) osq) w' := fun nd osq => (rcmay_any ⟨xr, xm, xf, xc⟩ _).mono fun e w' ⟨k1, k2⟩ => ⟨by rw [k1, hbm], k2⟩
      have hEE : (E != E) = false := by simp
      have hRR : ((rn : Int) != (rn : Int)) = false := by simp
      have hbb : (bm != bm) = false := by simp
      clear hbm y0 y1 y2 y3
      refine wp_region_quiet_below (by assumption) (by kernel_rfl) ?_
      repeat (go_big_quiet_step (first
        | (go_at_call 10; exact Calls.regrown_of (q1 _ _))
        | (go_at_call 11; exact Calls.regrown_of (q2 _ _))))
      refine wpQuiet_nil ?_
      intro w9 hw9
      obtain ⟨⟨nd, osq⟩, rfl⟩ := hw9
      have hb9 := below_regrown w5 nd osq
      have HB9 : Hid (Below w.heap.size w (Go.Sort.grow (redrawn w5 nd) osq)) := HB5.out.trans (hb9.mono HB5.out.size)
      have HU9 := Lib.hid (HU5.out.below hb9)
      have HV9 := Lib.hid (HV5.out.below hb9)
      clear Y0 Y1 Y2 Y3 q1 q2
      generalize Go.Sort.grow (redrawn w5 nd) osq = w9 at HB9 HU9 HV9 ⊢
      clear hb9
      go_wp2_with fail
      go_loopw [55] (fun i wr => ∃ (j : Nat), j ≤ rn ∧ i = .int .i64 j ∧ Hid (Below w9.heap.size w9 wr)) (fun i _ => rn - (intOf i).toNat)
      case atStart => exact ⟨0, by omega, rfl, Below.refl _ _⟩
      case round =>
        obtain ⟨j, hj, rfl, hb⟩ := hrel
        by_cases hlt : j < rn
        · have hltz : (j : Int) < (rn : Int) := by omega
          obtain ⟨b1, o1, g1, r1, rfl, hbl1, -, hr1, p1, s1⟩ := (HV9.out.below hb.out).at hlt
          obtain ⟨b2, o2, g2, r2, rfl, hbl2, -, hr2, p2, s2⟩ := (HU9.out.below hb.out).at hlt
          rw [hr1] at hr2
          cases hr2
          obtain ⟨ga, gn, gc⟩ := g1
          obtain ⟨ha, hn, hc⟩ := g2
          have e1 : gn = r1.length := s1.hlen
          have e2 : hn = r1.length := s2.hlen
          obtain ⟨rl, hrl⟩ : ∃ rl, r1.length = rl := ⟨_, rfl⟩
          rw [hrl] at e1 e2
          subst e1
          subst e2
          have HS1 := Lib.hid s1
          have HS2 := Lib.hid s2
          have HD : Hid (Below wr.heap.size wr wr.drew) := Below.drew (Below.refl _ _)
          clear hr1 hrl s1 s2
          go_upto_region 12 with fail
          go_region_held3 (fun w' => w'.cell? ⟨b1, o1 + j, none⟩ = some (.slice ga hn gc) ∧ w'.cell? ⟨b2, o2 + j, none⟩ = some (.slice ha hn hc)) (first | go_keep | exact ⟨(HC6.out.cell (p := ⟨b1, o1 + j, none⟩) hbl1).trans p1, (HC6.out.cell (p := ⟨b2, o2 + j, none⟩) hbl2).trans p2⟩) (first
            | (go_at_call 12; go_fit (psame_true ga hn gc r1 ha hc _ (HS1.out.below HD.out) (HS2.out.below HD.out)); rintro e w6 ⟨rfl, hb6⟩; have HC6 := Lib.hid (HD.out.trans hb6); clear hb6))
          all_goals
            go_wp2_with fail
            go_roundw
            case rel => exact ⟨j + 1, by omega, by go_num, hb.out.trans (HC6.out.mono hb.out.size)⟩
            case measure => simp [intOf]; omega
        · have hjn : j = rn := by omega
          clear hjn
          go_wp2_with fail
          go_ret
          exact ⟨rfl, HB9.out.trans (hb.out.mono HB9.out.size)⟩
end Go.Proofs.Ytknbpnkonhniiaa.Ne

namespace Go.Proofs.Ytknbpnkonhniiaa.Ne
open Go.RowKit Go.V Go.Proofs Go.ChangeShapes Go.WideShapes Go.ChangeAt

theorem list4w {α : Type} {l : List α} (h : l.length = 4) : ∃ a b c d, l = [a, b, c, d] := by
  match l, h with
  | [a, b, c, d], _ => exact ⟨a, b, c, d, rfl⟩
set_option maxRecDepth 100000 in
theorem open_wgh {H : Type} {enc : TypeId × Value → H} {w : World} {b0 base : Nat} {spare : Nat → Bool} {held : Bool} {v : Value} {d : DataW H} {ps : List MemPlace} (hval : Value.okWide Try.prog w .any base 27 v) (h : DataW.Trod enc Try.prog w b0 spare held 27 v d ps) : ∃ x : Wgh, v = x.val := by
  simp only [Value.okWide, Try.underlying27] at hval
  obtain ⟨cs, rfl, hsz, -⟩ := hval
  obtain ⟨fuel, hf⟩ := h
  obtain ⟨xs, m, -, -, hl, hxl, hx⟩ := DataW.trod_struct Try.underlying27 hf
  have hc4 : Try.prog.cellsOf 27 = 4 := by kernel_rfl
  have hc1 : Try.prog.cellsOf 3 = 1 := by kernel_rfl
  obtain ⟨l⟩ := cs
  rw [hc4] at hsz
  obtain ⟨v0, v1, v2, v3, rfl⟩ := list4w (l := l) (by simpa using hsz)
  have hx4 : xs.length = 4 := by rw [hxl]; rfl
  obtain ⟨y0, y1, y2, y3, rfl⟩ := list4w hx4
  have g0 := hx 0 _ rfl
  have g1 := hx 1 _ rfl
  have g2 := hx 2 _ rfl
  have g3 := hx 3 _ rfl
  simp [Value.cells, hc1] at g0 g1 g2 g3
  obtain ⟨n0, e0, -, -⟩ := DataW.trod_int Try.underlying3 g0
  obtain ⟨n1, e1, -, -⟩ := DataW.trod_int Try.underlying3 g1
  obtain ⟨n2, e2, -, -⟩ := DataW.trod_int Try.underlying3 g2
  obtain ⟨n3, e3, -, -⟩ := DataW.trod_int Try.underlying3 g3
  simp at e0 e1 e2 e3
  subst e0; subst e1; subst e2; subst e3
  exact ⟨⟨n0, n1, n2, n3⟩, rfl⟩
set_option maxRecDepth 100000 in
theorem smp_opened {H : Type} {enc : TypeId × Value → H} {w : World} {b0 : Nat} {spare : Nat → Bool} {held : Bool} (n : Nat) (cs : List Value) (y : DataW H × List MemPlace) (h : DataW.trod enc Try.prog w b0 spare held n 42 cs = some y) : ∃ x, cs = Smp.cod.enc x ∧ Smp.ok x := by
  obtain ⟨xs, m, -, rfl, hl, hlen, hf⟩ := DataW.trod_struct Try.underlying42 h
  have hc : Try.prog.cellsOf 3 = 1 := by kernel_rfl
  have hl' : cs.length = 3 := by rw [hl]; kernel_rfl
  obtain ⟨v0, v1, v2, rfl⟩ := list3 hl'
  have hx3 : xs.length = 3 := by rw [hlen]; rfl
  obtain ⟨y0, y1, y2, rfl⟩ := list3 hx3
  have k0 := hf 0 _ rfl
  have k1 := hf 1 _ rfl
  have k2 := hf 2 _ rfl
  simp [hc] at k0 k1 k2
  obtain ⟨n0, e0, -, w0⟩ := DataW.trod_int Try.underlying3 k0
  obtain ⟨n1, e1, -, w1⟩ := DataW.trod_int Try.underlying3 k1
  obtain ⟨n2, e2, -, w2⟩ := DataW.trod_int Try.underlying3 k2
  simp at e0 e1 e2
  subst e0; subst e1; subst e2
  exact ⟨⟨n0, n1, n2⟩, rfl, w0, w1, w2⟩
set_option maxRecDepth 100000 in
theorem open_smp {H : Type} {enc : TypeId × Value → H} {w : World} {b0 base : Nat} {spare : Nat → Bool} {held : Bool} {v : Value} {d : DataW H} {ps : List MemPlace} (hval : Value.okWide Try.prog w .any base 42 v) (h : DataW.Trod enc Try.prog w b0 spare held 42 v d ps) : ∃ s : Smp, v = s.val := by
  simp only [Value.okWide, Try.underlying42] at hval
  obtain ⟨cs, rfl, hsz, -⟩ := hval
  obtain ⟨fuel, hf⟩ := h
  obtain ⟨s, e, -⟩ := smp_opened _ _ _ hf
  obtain ⟨l⟩ := cs
  have e : l = Smp.cod.enc s := by simpa [Value.cells] using e
  exact ⟨s, by rw [e]; rfl⟩
end Go.Proofs.Ytknbpnkonhniiaa.Ne

namespace Go.Proofs.Ytknbpnkonhniiaa.lawCandTells
open Go.ChangeShapes Go.WideShapes Go.ChangeAt Go.RowKit Go.V Go.Proofs.Ytknbpnkonhniiaa.Ne

theorem own : ownKnob Try.prog.godebug = none := by kernel_rfl
theorem laidOut : laidOutB Try.prog = true := by kernel_rfl

set_option maxRecDepth 100000 in
theorem lifted (os : Os) (started : os.Started) (H : Type) (enc : TypeId × Value → H) :
    ReturnsInHanded {} Try.checked os 3 .any (Rows.candTellsSpec.pre6 enc Try.prog Try.f3 Rows.candTellsRow.domain false) (Rows.candTellsSpec.post enc Try.prog Try.f3 false true false false) := by
  refine returnsInHanded_of_change (C := Try.checked) own started (by kernel_rfl) Try.func3
    (ChangeSpec.witness6 (enc := enc) (C := Try.checked) false ⟨#[], #[.agg #[.int .i64 0, .slice none 0 0, .slice none 0 0], .agg #[.int .i64 0, .int .i64 0, .int .i64 0, .int .i64 0], .slice none 0 0], []⟩ 8 (by kernel_rfl) (by kernel_rfl) (by kernel_rfl) (by kernel_rfl)) ?_
  intro W base args ds gs before hval0 hW hcnd _
  have hval : ∀ (j : Nat) t v, Try.f3.params[j]? = some t → args[j]? = some v → Value.okWide Try.prog W .any base t v := hval0
  have hW' := hW
  obtain ⟨p, q, hA0, hV, rfl, hfz, hnd⟩ := hW
  have hA : DataW.TrodAll enc Try.prog W 0 (fun _ => true) true Try.f3.params.toList args.toList ds p := hA0
  rw [Try.params3] at hA hval
  obtain ⟨v0, vs0, d0, ds0, p0, q0, hargs, rfl, rfl, h0, r0⟩ := trodAll_cons hA
  obtain ⟨v1, vs1, d1, ds1, p1, q1, rfl, rfl, rfl, h1, r1⟩ := trodAll_cons r0
  obtain ⟨v2, vs2, d2, ds2, p2, q2, rfl, rfl, rfl, h2, r2⟩ := trodAll_cons r1
  obtain ⟨rfl, rfl, rfl⟩ := trodAll_nil r2
  obtain rfl : args = #[v0, v1, v2] := by cases args; simp_all
  obtain ⟨rfl, rfl⟩ := trodVars_none hV
  have k0 := h0
  have lt0 : ∀ x ∈ p0, x.block < W.heap.size := by obtain ⟨m, hm⟩ := k0; exact DataW.trod_lt m _ _ _ hm
  have k1 := h1
  have lt1 : ∀ x ∈ p1, x.block < W.heap.size := by obtain ⟨m, hm⟩ := k1; exact DataW.trod_lt m _ _ _ hm
  have k2 := h2
  have lt2 : ∀ x ∈ p2, x.block < W.heap.size := by obtain ⟨m, hm⟩ := k2; exact DataW.trod_lt m _ _ _ hm
  obtain ⟨nt, hs, hl, rfl, hnt, -, -, -⟩ := open_net (hval 0 25 v0 rfl rfl) h0
  obtain ⟨wx, rfl⟩ := open_wgh (hval 1 27 v1 rfl rfl) h1
  obtain ⟨ma2, mn2, mc2, ms2, rfl, hms2, -⟩ := open_sl (c := Smp.cod) (ok := Smp.ok) Try.underlying28 (by kernel_rfl) (fun n cs y => smp_opened n cs y) (hval 2 28 v2 rfl rfl) h2
  clear hA0 hval0
  refine (ctells_any nt hs hl wx ma2 mn2 mc2 ms2 W hnt hms2).mono fun e W' ⟨he, bel⟩ => ?_
  subst he
  exact ⟨_, rfl, _, _, _, [], _, [], hW', trodAll_mk1 (shut_bool Try.underlying4 _), (trodAll_cons_mk (Below.trod laidOut (by kernel_rfl) (of_decide_eq_true (by kernel_rfl)) k0 bel lt0) (trodAll_cons_mk (Below.trod laidOut (by kernel_rfl) (of_decide_eq_true (by kernel_rfl)) k1 bel lt1) (trodAll_cons_mk (Below.trod laidOut (by kernel_rfl) (of_decide_eq_true (by kernel_rfl)) k2 bel lt2) trodAll_mk0))), rfl, bel.frame _, fun h => by cases h⟩

theorem over : Rows.candTellsRow.holds Try.pinned (OpenSpec.ofChange Rows.candTellsSpec) :=
  OpenClaim.holds_of_wide 3 Try.f3 rfl rfl rfl rfl rfl rfl rfl ⟨rfl, rfl, rfl, rfl, rfl⟩ rfl rfl rfl rfl rfl (by kernel_rfl) Try.func3 (by kernel_rfl)
    (of_decide_eq_true (by kernel_rfl)) (by unfold Func.isWrapper; first | (rw [if_pos (by decide +kernel)]; kernel_rfl) | (rw [if_neg (by decide +kernel)]; exact ⟨rfl, rfl⟩))
    (fun os started H enc _ => lifted os started H enc)

theorem proved : Rows.CandTellsSaid := over
#print axioms proved
end Go.Proofs.Ytknbpnkonhniiaa.lawCandTells
