/- Months: added to, changed, closed, walked. -/
import Derived.Test.YtbdkhgenkekioaaMoQ
import Derived.Test.YtbdkhgenkekioaaMoO
namespace Go.Proofs.Ytbdkhgenkekioaa
open Go.RowKit Go.V Go.Sort Go.Shelf Go.Proofs Go.Maps
open Go.Proofs.Ytbdkhgenkekioaa.Ne (box_alloc box_new box_cell box_below box_lt box2_cells)

/-- What a turn answers: the error, the months. -/
noncomputable def mtE (E : Mon → Int) (ms : List Mon) (A M : Int) : Int := if RightM ms then (if findM ms A M < 0 then 30 else E (monAt ms A M)) else 2
noncomputable def mtR (E : Mon → Int) (G : Mon → Mon) (ms : List Mon) (A M : Int) : List Mon := if RightM ms ∧ 0 ≤ findM ms A M ∧ E (monAt ms A M) = 0 then ms.set (findM ms A M).toNat (G (monAt ms A M)) else []
theorem set_monIn {w w' : World} {a g : Option Addr} {n cap c : Nat} {hs : List Hdr} {ms : List Mon} {i : Nat} {m' : Mon} {h' : Hdr} (h0 : MonIn w' a n cap hs ms) (hi : i < n) (hs' : Sl MH.cod w g n c ((List.zipWith Mon.hd ms hs).set i (m'.hd h'))) (hr : Sl Ride.cod w h'.a h'.n h'.cap m'.rides) (hb : ∀ (j : Nat) (h : Hdr) (m : Mon), j ≠ i → hs[j]? = some h → ms[j]? = some m → Sl Ride.cod w h.a h.n h.cap m.rides) :
    MonIn w g n c (hs.set i h') (ms.set i m') := by
  have e : (List.zipWith Mon.hd ms hs).set i (m'.hd h') = List.zipWith Mon.hd (ms.set i m') (hs.set i h') := by
    apply List.ext_getElem?
    intro j
    have l1 : i < ms.length := by rw [← h0.n_eq]; exact hi
    have l2 : i < hs.length := by rw [h0.len]; exact l1
    by_cases e : j = i
    · subst e
      rw [List.getElem?_set_self (by rw [List.length_zipWith]; omega), List.getElem?_zipWith, List.getElem?_set_self l1, List.getElem?_set_self l2]
    · rw [List.getElem?_set_ne (fun q => e q.symm), List.getElem?_zipWith, List.getElem?_zipWith, List.getElem?_set_ne (fun q => e q.symm), List.getElem?_set_ne (fun q => e q.symm)]
  refine ⟨by rw [← e]; exact hs', by rw [List.length_set, List.length_set]; exact h0.len, fun j h m h1 h2 => ?_⟩
  by_cases e : j = i
  · subst e
    rw [List.getElem?_set_self (by rw [h0.len, ← h0.n_eq]; exact hi)] at h1
    rw [List.getElem?_set_self (by rw [← h0.n_eq]; exact hi)] at h2
    cases h1; cases h2
    exact hr
  · rw [List.getElem?_set_ne (fun q => e q.symm)] at h1 h2
    exact hb j h m e h1 h2

set_option maxHeartbeats 8000000 in
set_option maxRecDepth 100000 in
theorem mturn_add (p : Nat) (E : Mon → Int) (G : Mon → Mon) (a : Option Addr) (n cap : Nat) (hs : List Hdr) (ms : List Mon) (A M : Int) (w : World) (hn : n ≤ 100000) (hl : ∀ m ∈ ms, m.rides.length ≤ 100000) (hok : ∀ m ∈ ms, ∀ r ∈ m.rides, Ride.ok r) (h0 : MonIn w a n cap hs ms)
    (hcb : ∀ (B g c i : Nat) (W : World) (X : List MH) (m : Mon) (h : Hdr), w.heap.size ≤ B → Below w.heap.size w W → CbIn B W g n c i X m h → m.rides.length ≤ 2048 → Calls Try.prog 48 #[.pointer (some ⟨g, i * 6, none⟩), .pointer (some ⟨p, 0, none⟩)] W fun e w' => e = .returned (.int .i64 (E m)) ∧ (E m = 0 → CbOk B w' g n c i X (G m)) ∧ Below B W w') :
    Calls Try.prog 47 #[.slice a n cap, kval A M, .func (.func 48) #[] #[.pointer (some ⟨p, 0, none⟩)]] w fun e w' => ∃ v, e = .returned (.tuple #[v, .int .i64 (mtE E ms A M)]) ∧ TurnQ (mtR E G ms A M) w' v ∧ Below w.heap.size w w' := by
  have mixed : Try.prog.follows .mixedOrders = true := by kernel_rfl
  have hl' : ∀ m ∈ ms, m.rides.length ≤ 1000000 := fun m hm => by have := hl m hm; omega
  have HN := Lib.hid h0.n_eq
  have X0 : Hid ((w.alloc (.cells #[.int .i64 A, .int .i64 M] 73)).heap[w.heap.size]? = some (.cells #[.int .i64 A, .int .i64 M] 73 (0, 0))) := box_new w _
  have B0 : Hid (Below w.heap.size w (w.alloc (.cells #[.int .i64 A, .int .i64 M] 73))) := (Below.refl _ _).alloc (Nat.le_refl _) _
  obtain ⟨p1, hp1⟩ : ∃ p, decide (RightM ms) = p := ⟨_, rfl⟩
  obtain ⟨FF, hF⟩ : ∃ F, findM ms A M = F := ⟨_, rfl⟩
  have HP : Hid (decide (RightM ms) = p1 ∧ findM ms A M = FF) := ⟨hp1, hF⟩
  clear hp1 hF
  have hcell := box2_cells X0.out
  have hz0 := box_lt X0.out
  obtain ⟨k0, k1, -, -⟩ := hcell
  unfold kval
  cases p1 with
  | false =>
    go_enter Try.func47, Try.ntmps47
    go_wp2_with (first
      | (go_at_call 41; go_fit (mplace_any a n cap hs ms A M _ (by omega) (h0.below B0.out)); rintro e w1 ⟨rfl, hb1⟩; rw [HP.out.2]; have HB1 : Hid (Below w.heap.size w w1) := B0.out.trans (hb1.mono B0.out.size); clear hb1)
      | (go_at_call 9; go_fit (mright_any a n cap hs ms _ (by omega) hl' hok (h0.below HB1.out)); rintro e w2 ⟨rfl, hb2⟩; rw [HP.out.1]; have HB2 := Lib.hid (HB1.out.trans (hb2.mono HB1.out.size)); clear hb2))
    go_ret2
    unfold mtE mtR
    rw [if_neg (of_decide_eq_false HP.out.1), if_neg (fun q => of_decide_eq_false HP.out.1 q.1)]
    exact ⟨_, rfl, ⟨none, 0, [], rfl, MonIn.nil _⟩, HB2.out⟩
  | true =>
    have HR := Lib.hid (of_decide_eq_true HP.out.1)
    by_cases hneg : FF < 0
    · have hneg2 : decide (FF < 0) = true := decide_eq_true hneg
      go_enter Try.func47, Try.ntmps47
      go_wp2_with (first
        | (go_at_call 41; go_fit (mplace_any a n cap hs ms A M _ (by omega) (h0.below B0.out)); rintro e w1 ⟨rfl, hb1⟩; rw [HP.out.2]; have HB1 : Hid (Below w.heap.size w w1) := B0.out.trans (hb1.mono B0.out.size); clear hb1)
        | (go_at_call 9; go_fit (mright_any a n cap hs ms _ (by omega) hl' hok (h0.below HB1.out)); rintro e w2 ⟨rfl, hb2⟩; rw [HP.out.1]; have HB2 := Lib.hid (HB1.out.trans (hb2.mono HB1.out.size)); clear hb2))
      go_ret2
      unfold mtE mtR
      rw [if_pos HR.out, HP.out.2, if_pos hneg, if_neg (fun q => by have := q.2.1; omega)]
      exact ⟨_, rfl, ⟨none, 0, [], rfl, MonIn.nil _⟩, HB2.out⟩
    · have hneg2 : decide (FF < 0) = false := decide_eq_false hneg
      obtain ⟨i, m, hi1, hi2, hi3⟩ : ∃ (i : Nat) (m : Mon), FF = i ∧ i < ms.length ∧ ms[i]? = some m := by
        rcases findM_cases ms A M with ⟨h1, -⟩ | ⟨j, r, h1, h2, h3, -⟩
        · have := HP.out.2; omega
        · exact ⟨j, r, by rw [← HP.out.2, h1], h2, h3⟩
      subst hi1
      have hin : i < n := by rw [h0.n_eq]; exact hi2
      have HM := Lib.hid hi3
      have HMA : Hid (monAt ms A M = m) := by
        show _ = _
        unfold monAt
        rw [HP.out.2, Int.toNat_natCast, List.getD_eq_getElem?_getD, hi3]; rfl
      have HLM : Hid (m.rides.length ≤ 2048) := (HR.out.2 i m hi2 hi3).1.2.2.1
      clear hi3 hi2
      go_enter Try.func47, Try.ntmps47
      go_upto_region 7 with (first
        | (go_at_call 41; go_fit (mplace_any a n cap hs ms A M _ (by omega) (h0.below B0.out)); rintro e w1 ⟨rfl, hb1⟩; rw [HP.out.2]; have HB1 : Hid (Below w.heap.size w w1) := B0.out.trans (hb1.mono B0.out.size); clear hb1)
        | (go_at_call 9; go_fit (mright_any a n cap hs ms _ (by omega) hl' hok (h0.below HB1.out)); rintro e w2 ⟨rfl, hb2⟩; rw [HP.out.1]; have HB2 := Lib.hid (HB1.out.trans (hb2.mono HB1.out.size)); clear hb2)
        | (go_at_call 42; go_fit (mclone_any a n cap _ _ (by omega) (h0.below HB2.out).hd); rintro e w5 ⟨v, rfl, ho, hb5⟩; have HO5 := Lib.hid ho; have HB5 := Lib.hid (HB2.out.trans (hb5.mono HB2.out.size)); have HB25 := Lib.hid hb5; clear ho hb5))
      have HLZ : Hid ((List.zipWith Mon.hd ms hs).length = n) := by
        show _ = _
        rw [List.length_zipWith, h0.len, Nat.min_self, HN.out]
      obtain ⟨g, cg, e5, hg⟩ := own_some_ HO5.out (by intro q; have := HLZ.out; rw [q] at this; simp at this; omega)
      rw [HLZ.out] at e5
      subst e5
      have HBw : Hid (w.heap.size ≤ w2.heap.size) := HB2.out.size
      obtain ⟨b8, o8, at_, ct, m', e8, hbb, hm', hh', -, hrd⟩ := (h0.below HB5.out).at hin
      have := hm'.symm.trans HM.out
      cases this
      have HHI := Lib.hid hh'
      have HRD := Lib.hid hrd
      have HXI : Hid ((List.zipWith Mon.hd ms hs)[i]? = some (m.hd ⟨at_, m.rides.length, ct⟩)) := by
        show _ = _
        rw [List.getElem?_zipWith, HM.out, HHI.out]
      obtain ⟨c4, f4⟩ := own_h4 HO5.out HLZ.out HXI.out
      have hg5 := (World.ownsRow.lt HO5.out g rfl).2
      have b1 : (i : Int) < (n : Int) := by omega
      clear hm' hh' hrd e8 hbb
      go_upto_region 8 with (go_at_call 43; refine (clone_any at_ m.rides.length ct m.rides _ (by have := HLM.out; omega) HRD.out).mono ?_; rintro e w6 ⟨v, rfl, ho, hb6, -⟩; obtain ⟨a6, c6, rfl, s6, -⟩ := ownR_sl ho; have HO6 : Hid (V.Own 24 Ride.cod w5.heap.size w6 (.slice a6 m.rides.length c6) m.rides) := ho; have HM6 := Lib.hid (HO5.out.below hb6); have HB6 := Lib.hid hb6; clear ho hb6 s6 c4 f4; obtain ⟨c4, f4⟩ := own_h4 HM6.out HLZ.out HXI.out; have hg6 := (World.ownsRow.lt HM6.out g rfl).2)
      have hgw : w2.heap.size ≤ g := (World.ownsRow.lt HM6.out g rfl).1
      have HIN : Hid (CbIn w2.heap.size (w6.setCell ⟨g, i * 6 + 4, none⟩ (.slice a6 m.rides.length c6)) g n cg i ((List.zipWith Mon.hd ms hs).set i (m.hd ⟨a6, m.rides.length, c6⟩)) m ⟨a6, m.rides.length, c6⟩) :=
        ⟨by rw [List.getElem?_set_self (by rw [HLZ.out]; exact hin)], by rw [List.length_set]; exact HLZ.out, own_seth ⟨a6, m.rides.length, c6⟩ HM6.out HLZ.out HXI.out, (V.Own.lower (HO6.out.kept (Wi.set_grown _ g _ _) (Wi.own_apart HO6.out HM6.out (by decide))) HB25.out.size), by
          have h1 := HB25.out.size
          have h2 := HB6.out.size
          simp; omega⟩
      have HBZ : Hid (Below w2.heap.size w2 (w6.setCell ⟨g, i * 6 + 4, none⟩ (.slice a6 m.rides.length c6))) := (HB25.out.trans (HB6.out.mono HB25.out.size)).setCell (p := ⟨g, i * 6 + 4, none⟩) hgw _
      obtain ⟨Z, hZ⟩ : ∃ Z, w6.setCell ⟨g, i * 6 + 4, none⟩ (.slice a6 m.rides.length c6) = Z := ⟨_, rfl⟩
      rw [hZ] at HIN HBZ ⊢
      clear hZ c4 f4
      have HBwZ : Hid (Below w.heap.size w Z) := HB2.out.trans (HBZ.out.mono HBw.out)
      have HC := Lib.hid (hcb w2.heap.size g cg i Z _ m _ HBw.out HBwZ.out HIN.out HLM.out)
      have hgZ := HIN.out.lt.2.2
      have HFIN : Hid (∀ w', CbOk w2.heap.size w' g n cg i ((List.zipWith Mon.hd ms hs).set i (m.hd ⟨a6, m.rides.length, c6⟩)) (G m) → Below w2.heap.size Z w' → TurnQ (ms.set i (G m)) w' (.slice (some ⟨g, 0, none⟩) n cg)) := by
        rintro w' ⟨h', k1, k2⟩ k3
        rw [List.set_set] at k1
        have e1 : ((List.zipWith Mon.hd ms hs).set i ((G m).hd h')).length = n := by rw [List.length_set]; exact HLZ.out
        obtain ⟨a9, c9, e9, s9, -⟩ := k1.slice
        rw [e1] at e9 s9
        cases e9
        have h9 := h0.below (HBwZ.out.trans (k3.mono HBw.out))
        refine ⟨some ⟨g, 0, none⟩, cg, hs.set i h', by rw [List.length_set, ← HN.out], ?_⟩
        rw [List.length_set, ← HN.out]
        exact set_monIn h9 hin s9 (Wi.own_sl k2) (fun j h m _ h1 h2 => h9.each j h m h1 h2)
      obtain ⟨e0, he0⟩ : ∃ e, E m = e := ⟨_, rfl⟩
      have HE0 := Lib.hid he0
      have HCC : Hid (Calls Try.prog 48 #[.pointer (some ⟨g, i * 6, none⟩), .pointer (some ⟨p, 0, none⟩)] Z fun e w' => e = .returned (.int .i64 e0) ∧ (e0 = 0 → CbOk w2.heap.size w' g n cg i ((List.zipWith Mon.hd ms hs).set i (m.hd ⟨a6, m.rides.length, c6⟩)) (G m)) ∧ Below w2.heap.size Z w') := by
        have := HC.out
        rwa [he0] at this
      clear he0 HC
      have HME : Hid (mtE E ms A M = e0 ∧ mtR E G ms A M = if e0 = 0 then ms.set i (G m) else []) := by
        constructor
        · unfold mtE
          rw [if_pos HR.out, HP.out.2, if_neg (by omega), HMA.out, HE0.out]
        · unfold mtR
          rw [HP.out.2, HMA.out, HE0.out, Int.toNat_natCast]
          by_cases q : e0 = 0
          · rw [if_pos ⟨HR.out, by omega, q⟩, if_pos q]
          · rw [if_neg (fun z => q z.2.2), if_neg q]
      by_cases hz : e0 = 0
      · have z1 : (e0 != 0) = false := by simpa using hz
        have HZ := Lib.hid hz
        clear hz
        go_wp2_with (go_at_call 48; refine HCC.out.mono ?_; rintro e w7 ⟨rfl, hc7, hb7⟩; have HC7 := Lib.hid hc7; have HB7 := Lib.hid hb7; clear hc7 hb7)
        go_ret2
        rw [HME.out.1, HME.out.2, if_pos HZ.out]
        exact ⟨_, by rw [HZ.out]; rfl, HFIN.out _ (HC7.out HZ.out) HB7.out, HBwZ.out.trans (HB7.out.mono HBw.out)⟩
      · have z1 : (e0 != 0) = true := by simpa using hz
        have HZ := Lib.hid hz
        clear hz
        go_wp2_with (go_at_call 48; refine HCC.out.mono ?_; rintro e w7 ⟨rfl, hc7, hb7⟩; have HC7 := Lib.hid hc7; have HB7 := Lib.hid hb7; clear hc7 hb7)
        go_ret2
        rw [HME.out.1, HME.out.2, if_neg HZ.out]
        exact ⟨_, rfl, ⟨none, 0, [], rfl, MonIn.nil _⟩, HBwZ.out.trans (HB7.out.mono HBw.out)⟩
set_option maxHeartbeats 8000000 in
set_option maxRecDepth 100000 in
theorem mturn_change (p : Nat) (E : Mon → Int) (G : Mon → Mon) (a : Option Addr) (n cap : Nat) (hs : List Hdr) (ms : List Mon) (A M : Int) (w : World) (hn : n ≤ 100000) (hl : ∀ m ∈ ms, m.rides.length ≤ 100000) (hok : ∀ m ∈ ms, ∀ r ∈ m.rides, Ride.ok r) (h0 : MonIn w a n cap hs ms)
    (hcb : ∀ (B g c i : Nat) (W : World) (X : List MH) (m : Mon) (h : Hdr), w.heap.size ≤ B → Below w.heap.size w W → CbIn B W g n c i X m h → m.rides.length ≤ 2048 → Calls Try.prog 51 #[.pointer (some ⟨g, i * 6, none⟩), .pointer (some ⟨p, 0, none⟩)] W fun e w' => e = .returned (.int .i64 (E m)) ∧ (E m = 0 → CbOk B w' g n c i X (G m)) ∧ Below B W w') :
    Calls Try.prog 47 #[.slice a n cap, kval A M, .func (.func 51) #[] #[.pointer (some ⟨p, 0, none⟩)]] w fun e w' => ∃ v, e = .returned (.tuple #[v, .int .i64 (mtE E ms A M)]) ∧ TurnQ (mtR E G ms A M) w' v ∧ Below w.heap.size w w' := by
  have mixed : Try.prog.follows .mixedOrders = true := by kernel_rfl
  have hl' : ∀ m ∈ ms, m.rides.length ≤ 1000000 := fun m hm => by have := hl m hm; omega
  have HN := Lib.hid h0.n_eq
  have X0 : Hid ((w.alloc (.cells #[.int .i64 A, .int .i64 M] 73)).heap[w.heap.size]? = some (.cells #[.int .i64 A, .int .i64 M] 73 (0, 0))) := box_new w _
  have B0 : Hid (Below w.heap.size w (w.alloc (.cells #[.int .i64 A, .int .i64 M] 73))) := (Below.refl _ _).alloc (Nat.le_refl _) _
  obtain ⟨p1, hp1⟩ : ∃ p, decide (RightM ms) = p := ⟨_, rfl⟩
  obtain ⟨FF, hF⟩ : ∃ F, findM ms A M = F := ⟨_, rfl⟩
  have HP : Hid (decide (RightM ms) = p1 ∧ findM ms A M = FF) := ⟨hp1, hF⟩
  clear hp1 hF
  have hcell := box2_cells X0.out
  have hz0 := box_lt X0.out
  obtain ⟨k0, k1, -, -⟩ := hcell
  unfold kval
  cases p1 with
  | false =>
    go_enter Try.func47, Try.ntmps47
    go_wp2_with (first
      | (go_at_call 41; go_fit (mplace_any a n cap hs ms A M _ (by omega) (h0.below B0.out)); rintro e w1 ⟨rfl, hb1⟩; rw [HP.out.2]; have HB1 : Hid (Below w.heap.size w w1) := B0.out.trans (hb1.mono B0.out.size); clear hb1)
      | (go_at_call 9; go_fit (mright_any a n cap hs ms _ (by omega) hl' hok (h0.below HB1.out)); rintro e w2 ⟨rfl, hb2⟩; rw [HP.out.1]; have HB2 := Lib.hid (HB1.out.trans (hb2.mono HB1.out.size)); clear hb2))
    go_ret2
    unfold mtE mtR
    rw [if_neg (of_decide_eq_false HP.out.1), if_neg (fun q => of_decide_eq_false HP.out.1 q.1)]
    exact ⟨_, rfl, ⟨none, 0, [], rfl, MonIn.nil _⟩, HB2.out⟩
  | true =>
    have HR := Lib.hid (of_decide_eq_true HP.out.1)
    by_cases hneg : FF < 0
    · have hneg2 : decide (FF < 0) = true := decide_eq_true hneg
      go_enter Try.func47, Try.ntmps47
      go_wp2_with (first
        | (go_at_call 41; go_fit (mplace_any a n cap hs ms A M _ (by omega) (h0.below B0.out)); rintro e w1 ⟨rfl, hb1⟩; rw [HP.out.2]; have HB1 : Hid (Below w.heap.size w w1) := B0.out.trans (hb1.mono B0.out.size); clear hb1)
        | (go_at_call 9; go_fit (mright_any a n cap hs ms _ (by omega) hl' hok (h0.below HB1.out)); rintro e w2 ⟨rfl, hb2⟩; rw [HP.out.1]; have HB2 := Lib.hid (HB1.out.trans (hb2.mono HB1.out.size)); clear hb2))
      go_ret2
      unfold mtE mtR
      rw [if_pos HR.out, HP.out.2, if_pos hneg, if_neg (fun q => by have := q.2.1; omega)]
      exact ⟨_, rfl, ⟨none, 0, [], rfl, MonIn.nil _⟩, HB2.out⟩
    · have hneg2 : decide (FF < 0) = false := decide_eq_false hneg
      obtain ⟨i, m, hi1, hi2, hi3⟩ : ∃ (i : Nat) (m : Mon), FF = i ∧ i < ms.length ∧ ms[i]? = some m := by
        rcases findM_cases ms A M with ⟨h1, -⟩ | ⟨j, r, h1, h2, h3, -⟩
        · have := HP.out.2; omega
        · exact ⟨j, r, by rw [← HP.out.2, h1], h2, h3⟩
      subst hi1
      have hin : i < n := by rw [h0.n_eq]; exact hi2
      have HM := Lib.hid hi3
      have HMA : Hid (monAt ms A M = m) := by
        show _ = _
        unfold monAt
        rw [HP.out.2, Int.toNat_natCast, List.getD_eq_getElem?_getD, hi3]; rfl
      have HLM : Hid (m.rides.length ≤ 2048) := (HR.out.2 i m hi2 hi3).1.2.2.1
      clear hi3 hi2
      go_enter Try.func47, Try.ntmps47
      go_upto_region 7 with (first
        | (go_at_call 41; go_fit (mplace_any a n cap hs ms A M _ (by omega) (h0.below B0.out)); rintro e w1 ⟨rfl, hb1⟩; rw [HP.out.2]; have HB1 : Hid (Below w.heap.size w w1) := B0.out.trans (hb1.mono B0.out.size); clear hb1)
        | (go_at_call 9; go_fit (mright_any a n cap hs ms _ (by omega) hl' hok (h0.below HB1.out)); rintro e w2 ⟨rfl, hb2⟩; rw [HP.out.1]; have HB2 := Lib.hid (HB1.out.trans (hb2.mono HB1.out.size)); clear hb2)
        | (go_at_call 42; go_fit (mclone_any a n cap _ _ (by omega) (h0.below HB2.out).hd); rintro e w5 ⟨v, rfl, ho, hb5⟩; have HO5 := Lib.hid ho; have HB5 := Lib.hid (HB2.out.trans (hb5.mono HB2.out.size)); have HB25 := Lib.hid hb5; clear ho hb5))
      have HLZ : Hid ((List.zipWith Mon.hd ms hs).length = n) := by
        show _ = _
        rw [List.length_zipWith, h0.len, Nat.min_self, HN.out]
      obtain ⟨g, cg, e5, hg⟩ := own_some_ HO5.out (by intro q; have := HLZ.out; rw [q] at this; simp at this; omega)
      rw [HLZ.out] at e5
      subst e5
      have HBw : Hid (w.heap.size ≤ w2.heap.size) := HB2.out.size
      obtain ⟨b8, o8, at_, ct, m', e8, hbb, hm', hh', -, hrd⟩ := (h0.below HB5.out).at hin
      have := hm'.symm.trans HM.out
      cases this
      have HHI := Lib.hid hh'
      have HRD := Lib.hid hrd
      have HXI : Hid ((List.zipWith Mon.hd ms hs)[i]? = some (m.hd ⟨at_, m.rides.length, ct⟩)) := by
        show _ = _
        rw [List.getElem?_zipWith, HM.out, HHI.out]
      obtain ⟨c4, f4⟩ := own_h4 HO5.out HLZ.out HXI.out
      have hg5 := (World.ownsRow.lt HO5.out g rfl).2
      have b1 : (i : Int) < (n : Int) := by omega
      clear hm' hh' hrd e8 hbb
      go_upto_region 8 with (go_at_call 43; refine (clone_any at_ m.rides.length ct m.rides _ (by have := HLM.out; omega) HRD.out).mono ?_; rintro e w6 ⟨v, rfl, ho, hb6, -⟩; obtain ⟨a6, c6, rfl, s6, -⟩ := ownR_sl ho; have HO6 : Hid (V.Own 24 Ride.cod w5.heap.size w6 (.slice a6 m.rides.length c6) m.rides) := ho; have HM6 := Lib.hid (HO5.out.below hb6); have HB6 := Lib.hid hb6; clear ho hb6 s6 c4 f4; obtain ⟨c4, f4⟩ := own_h4 HM6.out HLZ.out HXI.out; have hg6 := (World.ownsRow.lt HM6.out g rfl).2)
      have hgw : w2.heap.size ≤ g := (World.ownsRow.lt HM6.out g rfl).1
      have HIN : Hid (CbIn w2.heap.size (w6.setCell ⟨g, i * 6 + 4, none⟩ (.slice a6 m.rides.length c6)) g n cg i ((List.zipWith Mon.hd ms hs).set i (m.hd ⟨a6, m.rides.length, c6⟩)) m ⟨a6, m.rides.length, c6⟩) :=
        ⟨by rw [List.getElem?_set_self (by rw [HLZ.out]; exact hin)], by rw [List.length_set]; exact HLZ.out, own_seth ⟨a6, m.rides.length, c6⟩ HM6.out HLZ.out HXI.out, (V.Own.lower (HO6.out.kept (Wi.set_grown _ g _ _) (Wi.own_apart HO6.out HM6.out (by decide))) HB25.out.size), by
          have h1 := HB25.out.size
          have h2 := HB6.out.size
          simp; omega⟩
      have HBZ : Hid (Below w2.heap.size w2 (w6.setCell ⟨g, i * 6 + 4, none⟩ (.slice a6 m.rides.length c6))) := (HB25.out.trans (HB6.out.mono HB25.out.size)).setCell (p := ⟨g, i * 6 + 4, none⟩) hgw _
      obtain ⟨Z, hZ⟩ : ∃ Z, w6.setCell ⟨g, i * 6 + 4, none⟩ (.slice a6 m.rides.length c6) = Z := ⟨_, rfl⟩
      rw [hZ] at HIN HBZ ⊢
      clear hZ c4 f4
      have HBwZ : Hid (Below w.heap.size w Z) := HB2.out.trans (HBZ.out.mono HBw.out)
      have HC := Lib.hid (hcb w2.heap.size g cg i Z _ m _ HBw.out HBwZ.out HIN.out HLM.out)
      have hgZ := HIN.out.lt.2.2
      have HFIN : Hid (∀ w', CbOk w2.heap.size w' g n cg i ((List.zipWith Mon.hd ms hs).set i (m.hd ⟨a6, m.rides.length, c6⟩)) (G m) → Below w2.heap.size Z w' → TurnQ (ms.set i (G m)) w' (.slice (some ⟨g, 0, none⟩) n cg)) := by
        rintro w' ⟨h', k1, k2⟩ k3
        rw [List.set_set] at k1
        have e1 : ((List.zipWith Mon.hd ms hs).set i ((G m).hd h')).length = n := by rw [List.length_set]; exact HLZ.out
        obtain ⟨a9, c9, e9, s9, -⟩ := k1.slice
        rw [e1] at e9 s9
        cases e9
        have h9 := h0.below (HBwZ.out.trans (k3.mono HBw.out))
        refine ⟨some ⟨g, 0, none⟩, cg, hs.set i h', by rw [List.length_set, ← HN.out], ?_⟩
        rw [List.length_set, ← HN.out]
        exact set_monIn h9 hin s9 (Wi.own_sl k2) (fun j h m _ h1 h2 => h9.each j h m h1 h2)
      obtain ⟨e0, he0⟩ : ∃ e, E m = e := ⟨_, rfl⟩
      have HE0 := Lib.hid he0
      have HCC : Hid (Calls Try.prog 51 #[.pointer (some ⟨g, i * 6, none⟩), .pointer (some ⟨p, 0, none⟩)] Z fun e w' => e = .returned (.int .i64 e0) ∧ (e0 = 0 → CbOk w2.heap.size w' g n cg i ((List.zipWith Mon.hd ms hs).set i (m.hd ⟨a6, m.rides.length, c6⟩)) (G m)) ∧ Below w2.heap.size Z w') := by
        have := HC.out
        rwa [he0] at this
      clear he0 HC
      have HME : Hid (mtE E ms A M = e0 ∧ mtR E G ms A M = if e0 = 0 then ms.set i (G m) else []) := by
        constructor
        · unfold mtE
          rw [if_pos HR.out, HP.out.2, if_neg (by omega), HMA.out, HE0.out]
        · unfold mtR
          rw [HP.out.2, HMA.out, HE0.out, Int.toNat_natCast]
          by_cases q : e0 = 0
          · rw [if_pos ⟨HR.out, by omega, q⟩, if_pos q]
          · rw [if_neg (fun z => q z.2.2), if_neg q]
      by_cases hz : e0 = 0
      · have z1 : (e0 != 0) = false := by simpa using hz
        have HZ := Lib.hid hz
        clear hz
        go_wp2_with (go_at_call 51; refine HCC.out.mono ?_; rintro e w7 ⟨rfl, hc7, hb7⟩; have HC7 := Lib.hid hc7; have HB7 := Lib.hid hb7; clear hc7 hb7)
        go_ret2
        rw [HME.out.1, HME.out.2, if_pos HZ.out]
        exact ⟨_, by rw [HZ.out]; rfl, HFIN.out _ (HC7.out HZ.out) HB7.out, HBwZ.out.trans (HB7.out.mono HBw.out)⟩
      · have z1 : (e0 != 0) = true := by simpa using hz
        have HZ := Lib.hid hz
        clear hz
        go_wp2_with (go_at_call 51; refine HCC.out.mono ?_; rintro e w7 ⟨rfl, hc7, hb7⟩; have HC7 := Lib.hid hc7; have HB7 := Lib.hid hb7; clear hc7 hb7)
        go_ret2
        rw [HME.out.1, HME.out.2, if_neg HZ.out]
        exact ⟨_, rfl, ⟨none, 0, [], rfl, MonIn.nil _⟩, HBwZ.out.trans (HB7.out.mono HBw.out)⟩
set_option maxHeartbeats 8000000 in
set_option maxRecDepth 100000 in
theorem mturn_close (E : Mon → Int) (G : Mon → Mon) (a : Option Addr) (n cap : Nat) (hs : List Hdr) (ms : List Mon) (A M : Int) (w : World) (hn : n ≤ 100000) (hl : ∀ m ∈ ms, m.rides.length ≤ 100000) (hok : ∀ m ∈ ms, ∀ r ∈ m.rides, Ride.ok r) (h0 : MonIn w a n cap hs ms)
    (hcb : ∀ (B g c i : Nat) (W : World) (X : List MH) (m : Mon) (h : Hdr), w.heap.size ≤ B → Below w.heap.size w W → CbIn B W g n c i X m h → m.rides.length ≤ 2048 → Calls Try.prog 52 #[.pointer (some ⟨g, i * 6, none⟩)] W fun e w' => e = .returned (.int .i64 (E m)) ∧ (E m = 0 → CbOk B w' g n c i X (G m)) ∧ Below B W w') :
    Calls Try.prog 47 #[.slice a n cap, kval A M, .func (.func 52) #[] #[]] w fun e w' => ∃ v, e = .returned (.tuple #[v, .int .i64 (mtE E ms A M)]) ∧ TurnQ (mtR E G ms A M) w' v ∧ Below w.heap.size w w' := by
  have mixed : Try.prog.follows .mixedOrders = true := by kernel_rfl
  have hl' : ∀ m ∈ ms, m.rides.length ≤ 1000000 := fun m hm => by have := hl m hm; omega
  have HN := Lib.hid h0.n_eq
  have X0 : Hid ((w.alloc (.cells #[.int .i64 A, .int .i64 M] 73)).heap[w.heap.size]? = some (.cells #[.int .i64 A, .int .i64 M] 73 (0, 0))) := box_new w _
  have B0 : Hid (Below w.heap.size w (w.alloc (.cells #[.int .i64 A, .int .i64 M] 73))) := (Below.refl _ _).alloc (Nat.le_refl _) _
  obtain ⟨p1, hp1⟩ : ∃ p, decide (RightM ms) = p := ⟨_, rfl⟩
  obtain ⟨FF, hF⟩ : ∃ F, findM ms A M = F := ⟨_, rfl⟩
  have HP : Hid (decide (RightM ms) = p1 ∧ findM ms A M = FF) := ⟨hp1, hF⟩
  clear hp1 hF
  have hcell := box2_cells X0.out
  have hz0 := box_lt X0.out
  obtain ⟨k0, k1, -, -⟩ := hcell
  unfold kval
  cases p1 with
  | false =>
    go_enter Try.func47, Try.ntmps47
    go_wp2_with (first
      | (go_at_call 41; go_fit (mplace_any a n cap hs ms A M _ (by omega) (h0.below B0.out)); rintro e w1 ⟨rfl, hb1⟩; rw [HP.out.2]; have HB1 : Hid (Below w.heap.size w w1) := B0.out.trans (hb1.mono B0.out.size); clear hb1)
      | (go_at_call 9; go_fit (mright_any a n cap hs ms _ (by omega) hl' hok (h0.below HB1.out)); rintro e w2 ⟨rfl, hb2⟩; rw [HP.out.1]; have HB2 := Lib.hid (HB1.out.trans (hb2.mono HB1.out.size)); clear hb2))
    go_ret2
    unfold mtE mtR
    rw [if_neg (of_decide_eq_false HP.out.1), if_neg (fun q => of_decide_eq_false HP.out.1 q.1)]
    exact ⟨_, rfl, ⟨none, 0, [], rfl, MonIn.nil _⟩, HB2.out⟩
  | true =>
    have HR := Lib.hid (of_decide_eq_true HP.out.1)
    by_cases hneg : FF < 0
    · have hneg2 : decide (FF < 0) = true := decide_eq_true hneg
      go_enter Try.func47, Try.ntmps47
      go_wp2_with (first
        | (go_at_call 41; go_fit (mplace_any a n cap hs ms A M _ (by omega) (h0.below B0.out)); rintro e w1 ⟨rfl, hb1⟩; rw [HP.out.2]; have HB1 : Hid (Below w.heap.size w w1) := B0.out.trans (hb1.mono B0.out.size); clear hb1)
        | (go_at_call 9; go_fit (mright_any a n cap hs ms _ (by omega) hl' hok (h0.below HB1.out)); rintro e w2 ⟨rfl, hb2⟩; rw [HP.out.1]; have HB2 := Lib.hid (HB1.out.trans (hb2.mono HB1.out.size)); clear hb2))
      go_ret2
      unfold mtE mtR
      rw [if_pos HR.out, HP.out.2, if_pos hneg, if_neg (fun q => by have := q.2.1; omega)]
      exact ⟨_, rfl, ⟨none, 0, [], rfl, MonIn.nil _⟩, HB2.out⟩
    · have hneg2 : decide (FF < 0) = false := decide_eq_false hneg
      obtain ⟨i, m, hi1, hi2, hi3⟩ : ∃ (i : Nat) (m : Mon), FF = i ∧ i < ms.length ∧ ms[i]? = some m := by
        rcases findM_cases ms A M with ⟨h1, -⟩ | ⟨j, r, h1, h2, h3, -⟩
        · have := HP.out.2; omega
        · exact ⟨j, r, by rw [← HP.out.2, h1], h2, h3⟩
      subst hi1
      have hin : i < n := by rw [h0.n_eq]; exact hi2
      have HM := Lib.hid hi3
      have HMA : Hid (monAt ms A M = m) := by
        show _ = _
        unfold monAt
        rw [HP.out.2, Int.toNat_natCast, List.getD_eq_getElem?_getD, hi3]; rfl
      have HLM : Hid (m.rides.length ≤ 2048) := (HR.out.2 i m hi2 hi3).1.2.2.1
      clear hi3 hi2
      go_enter Try.func47, Try.ntmps47
      go_upto_region 7 with (first
        | (go_at_call 41; go_fit (mplace_any a n cap hs ms A M _ (by omega) (h0.below B0.out)); rintro e w1 ⟨rfl, hb1⟩; rw [HP.out.2]; have HB1 : Hid (Below w.heap.size w w1) := B0.out.trans (hb1.mono B0.out.size); clear hb1)
        | (go_at_call 9; go_fit (mright_any a n cap hs ms _ (by omega) hl' hok (h0.below HB1.out)); rintro e w2 ⟨rfl, hb2⟩; rw [HP.out.1]; have HB2 := Lib.hid (HB1.out.trans (hb2.mono HB1.out.size)); clear hb2)
        | (go_at_call 42; go_fit (mclone_any a n cap _ _ (by omega) (h0.below HB2.out).hd); rintro e w5 ⟨v, rfl, ho, hb5⟩; have HO5 := Lib.hid ho; have HB5 := Lib.hid (HB2.out.trans (hb5.mono HB2.out.size)); have HB25 := Lib.hid hb5; clear ho hb5))
      have HLZ : Hid ((List.zipWith Mon.hd ms hs).length = n) := by
        show _ = _
        rw [List.length_zipWith, h0.len, Nat.min_self, HN.out]
      obtain ⟨g, cg, e5, hg⟩ := own_some_ HO5.out (by intro q; have := HLZ.out; rw [q] at this; simp at this; omega)
      rw [HLZ.out] at e5
      subst e5
      have HBw : Hid (w.heap.size ≤ w2.heap.size) := HB2.out.size
      obtain ⟨b8, o8, at_, ct, m', e8, hbb, hm', hh', -, hrd⟩ := (h0.below HB5.out).at hin
      have := hm'.symm.trans HM.out
      cases this
      have HHI := Lib.hid hh'
      have HRD := Lib.hid hrd
      have HXI : Hid ((List.zipWith Mon.hd ms hs)[i]? = some (m.hd ⟨at_, m.rides.length, ct⟩)) := by
        show _ = _
        rw [List.getElem?_zipWith, HM.out, HHI.out]
      obtain ⟨c4, f4⟩ := own_h4 HO5.out HLZ.out HXI.out
      have hg5 := (World.ownsRow.lt HO5.out g rfl).2
      have b1 : (i : Int) < (n : Int) := by omega
      clear hm' hh' hrd e8 hbb
      go_upto_region 8 with (go_at_call 43; refine (clone_any at_ m.rides.length ct m.rides _ (by have := HLM.out; omega) HRD.out).mono ?_; rintro e w6 ⟨v, rfl, ho, hb6, -⟩; obtain ⟨a6, c6, rfl, s6, -⟩ := ownR_sl ho; have HO6 : Hid (V.Own 24 Ride.cod w5.heap.size w6 (.slice a6 m.rides.length c6) m.rides) := ho; have HM6 := Lib.hid (HO5.out.below hb6); have HB6 := Lib.hid hb6; clear ho hb6 s6 c4 f4; obtain ⟨c4, f4⟩ := own_h4 HM6.out HLZ.out HXI.out; have hg6 := (World.ownsRow.lt HM6.out g rfl).2)
      have hgw : w2.heap.size ≤ g := (World.ownsRow.lt HM6.out g rfl).1
      have HIN : Hid (CbIn w2.heap.size (w6.setCell ⟨g, i * 6 + 4, none⟩ (.slice a6 m.rides.length c6)) g n cg i ((List.zipWith Mon.hd ms hs).set i (m.hd ⟨a6, m.rides.length, c6⟩)) m ⟨a6, m.rides.length, c6⟩) :=
        ⟨by rw [List.getElem?_set_self (by rw [HLZ.out]; exact hin)], by rw [List.length_set]; exact HLZ.out, own_seth ⟨a6, m.rides.length, c6⟩ HM6.out HLZ.out HXI.out, (V.Own.lower (HO6.out.kept (Wi.set_grown _ g _ _) (Wi.own_apart HO6.out HM6.out (by decide))) HB25.out.size), by
          have h1 := HB25.out.size
          have h2 := HB6.out.size
          simp; omega⟩
      have HBZ : Hid (Below w2.heap.size w2 (w6.setCell ⟨g, i * 6 + 4, none⟩ (.slice a6 m.rides.length c6))) := (HB25.out.trans (HB6.out.mono HB25.out.size)).setCell (p := ⟨g, i * 6 + 4, none⟩) hgw _
      obtain ⟨Z, hZ⟩ : ∃ Z, w6.setCell ⟨g, i * 6 + 4, none⟩ (.slice a6 m.rides.length c6) = Z := ⟨_, rfl⟩
      rw [hZ] at HIN HBZ ⊢
      clear hZ c4 f4
      have HBwZ : Hid (Below w.heap.size w Z) := HB2.out.trans (HBZ.out.mono HBw.out)
      have HC := Lib.hid (hcb w2.heap.size g cg i Z _ m _ HBw.out HBwZ.out HIN.out HLM.out)
      have hgZ := HIN.out.lt.2.2
      have HFIN : Hid (∀ w', CbOk w2.heap.size w' g n cg i ((List.zipWith Mon.hd ms hs).set i (m.hd ⟨a6, m.rides.length, c6⟩)) (G m) → Below w2.heap.size Z w' → TurnQ (ms.set i (G m)) w' (.slice (some ⟨g, 0, none⟩) n cg)) := by
        rintro w' ⟨h', k1, k2⟩ k3
        rw [List.set_set] at k1
        have e1 : ((List.zipWith Mon.hd ms hs).set i ((G m).hd h')).length = n := by rw [List.length_set]; exact HLZ.out
        obtain ⟨a9, c9, e9, s9, -⟩ := k1.slice
        rw [e1] at e9 s9
        cases e9
        have h9 := h0.below (HBwZ.out.trans (k3.mono HBw.out))
        refine ⟨some ⟨g, 0, none⟩, cg, hs.set i h', by rw [List.length_set, ← HN.out], ?_⟩
        rw [List.length_set, ← HN.out]
        exact set_monIn h9 hin s9 (Wi.own_sl k2) (fun j h m _ h1 h2 => h9.each j h m h1 h2)
      obtain ⟨e0, he0⟩ : ∃ e, E m = e := ⟨_, rfl⟩
      have HE0 := Lib.hid he0
      have HCC : Hid (Calls Try.prog 52 #[.pointer (some ⟨g, i * 6, none⟩)] Z fun e w' => e = .returned (.int .i64 e0) ∧ (e0 = 0 → CbOk w2.heap.size w' g n cg i ((List.zipWith Mon.hd ms hs).set i (m.hd ⟨a6, m.rides.length, c6⟩)) (G m)) ∧ Below w2.heap.size Z w') := by
        have := HC.out
        rwa [he0] at this
      clear he0 HC
      have HME : Hid (mtE E ms A M = e0 ∧ mtR E G ms A M = if e0 = 0 then ms.set i (G m) else []) := by
        constructor
        · unfold mtE
          rw [if_pos HR.out, HP.out.2, if_neg (by omega), HMA.out, HE0.out]
        · unfold mtR
          rw [HP.out.2, HMA.out, HE0.out, Int.toNat_natCast]
          by_cases q : e0 = 0
          · rw [if_pos ⟨HR.out, by omega, q⟩, if_pos q]
          · rw [if_neg (fun z => q z.2.2), if_neg q]
      by_cases hz : e0 = 0
      · have z1 : (e0 != 0) = false := by simpa using hz
        have HZ := Lib.hid hz
        clear hz
        go_wp2_with (go_at_call 52; refine HCC.out.mono ?_; rintro e w7 ⟨rfl, hc7, hb7⟩; have HC7 := Lib.hid hc7; have HB7 := Lib.hid hb7; clear hc7 hb7)
        go_ret2
        rw [HME.out.1, HME.out.2, if_pos HZ.out]
        exact ⟨_, by rw [HZ.out]; rfl, HFIN.out _ (HC7.out HZ.out) HB7.out, HBwZ.out.trans (HB7.out.mono HBw.out)⟩
      · have z1 : (e0 != 0) = true := by simpa using hz
        have HZ := Lib.hid hz
        clear hz
        go_wp2_with (go_at_call 52; refine HCC.out.mono ?_; rintro e w7 ⟨rfl, hc7, hb7⟩; have HC7 := Lib.hid hc7; have HB7 := Lib.hid hb7; clear hc7 hb7)
        go_ret2
        rw [HME.out.1, HME.out.2, if_neg HZ.out]
        exact ⟨_, rfl, ⟨none, 0, [], rfl, MonIn.nil _⟩, HBwZ.out.trans (HB7.out.mono HBw.out)⟩
end Go.Proofs.Ytbdkhgenkekioaa
