/- Months begun, added, changed, closed, found; a time's month: the law, walked. -/
import Derived.Test.YtbdkhgenkekioaaMoT
namespace Go.Proofs.Ytbdkhgenkekioaa
open Go.RowKit Go.V Go.Sort Go.Shelf Go.Proofs Go.Maps
open Go.Proofs.Ytbdkhgenkekioaa.Ne (box_alloc box_new box_cell box_below box_lt box2_cells)

/-- What is asked. -/
structure AskP where
  A : Int
  M : Int
  T : Int
  S : Int
  r : Ride
  o : Mon
def AskP.val (q : AskP) (h : Hdr) : Value := .agg #[.int .i64 q.A, .int .i64 q.M, .int .i64 q.T, .int .i64 q.S, .int .i64 q.r.t, .int .i64 q.r.s, .int .i64 q.r.e, .int .i64 q.r.f, .int .i64 q.o.a, .int .i64 q.o.m, .int .i64 q.o.t, .int .i64 q.o.c, .slice h.a h.n h.cap, .bool q.o.z]

theorem begR_small {ms : List Mon} {m : Mon} (h1 : ∀ x ∈ ms, x.rides.length ≤ 50) (h2 : m.rides.length ≤ 50) (h3 : ms.length ≤ 20) : (begR ms m).length ≤ 21 ∧ ∀ x ∈ begR ms m, x.rides.length ≤ 1000000 := by
  unfold begR
  split
  · split
    · exact ⟨by omega, fun x hx => by have := h1 x hx; omega⟩
    · unfold insM
      refine ⟨by simp; omega, fun x hx => ?_⟩
      rcases List.mem_append.1 hx with hx | hx
      · have := h1 x (List.mem_of_mem_take hx); omega
      · rcases List.mem_cons.1 hx with rfl | hx
        · omega
        · have := h1 x (List.mem_of_mem_drop hx); omega
  · exact ⟨by simp, fun x hx => by simp at hx⟩
theorem set_mem_or {α : Type} {l : List α} {j : Nat} {y x : α} (h : x ∈ l.set j y) : x ∈ l ∨ x = y := by
  rcases List.mem_or_eq_of_mem_set h with h | h
  · exact .inl h
  · exact .inr h
theorem turnR_small {k : Int} {ms : List Mon} {A M : Int} {r : Ride} (h1 : ∀ x ∈ ms, x.rides.length ≤ 50) (h3 : ms.length ≤ 20) : (turnR k ms A M r).length ≤ 20 ∧ ∀ x ∈ turnR k ms A M r, x.rides.length ≤ 1000000 := by
  have hm : (monAt ms A M).rides.length ≤ 50 := by
    unfold monAt
    rw [List.getD_eq_getElem?_getD]
    cases e : ms[(findM ms A M).toNat]? with
    | none => show (default : Mon).rides.length ≤ 50; exact Nat.zero_le _
    | some y => exact h1 y (List.mem_of_getElem? e)
  unfold turnR
  split
  · split
    · refine ⟨by rw [List.length_set]; exact h3, fun x hx => ?_⟩
      rcases set_mem_or hx with h | rfl
      · have := h1 x h; omega
      · show (monAt ms A M).rides.length ≤ _; omega
    · split
      · exact ⟨h3, fun x hx => by have := h1 x hx; omega⟩
      · refine ⟨by rw [withM_len]; exact h3, fun x hx => ?_⟩
        obtain ⟨i, hi⟩ := List.mem_iff_getElem?.1 hx
        unfold withM at hi
        rw [List.getElem?_mapIdx] at hi
        cases e : ms[i]? with
        | none => rw [e] at hi; simp at hi
        | some y =>
          rw [e] at hi
          simp at hi
          have h5 := h1 y (List.mem_of_getElem? e)
          subst hi
          split
          · show (isort ltR _).length ≤ _
            rw [(isort_perm _).length_eq, List.length_append]
            have := List.length_filter_le (fun x : Ride => decide (x.t ≠ r.t)) (monAt ms A M).rides
            unfold othR
            simp only [List.length_cons, List.length_nil]
            omega
          · omega
  · exact ⟨by simp, fun x hx => by simp at hx⟩

theorem MonIn.one {w : World} {b off n cap : Nat} {hs : List Hdr} {ms : List Mon} {k : Nat} {m : Mon} {h : Hdr} (H : MonIn w (some ⟨b, off, none⟩) n cap hs ms) (hm : ms[k]? = some m) (hh : hs[k]? = some h) : MonIn w (some ⟨b, off + k * 6, none⟩) 1 (cap - k) [h] [m] := by
  have hk : k < n := by rw [H.n_eq]; exact (List.getElem?_eq_some_iff.1 hm).1
  have hcap := H.hd.hcap
  have e : ((List.zipWith Mon.hd ms hs).take (k + 1)).drop k = [m.hd h] := by
    have hx : (List.zipWith Mon.hd ms hs)[k]? = some (m.hd h) := by rw [List.getElem?_zipWith, hm, hh]
    have hl := (List.getElem?_eq_some_iff.1 hx).1
    rw [take_at hx, List.drop_append_of_le_length (by rw [List.length_take]; omega), List.drop_eq_nil_of_le (by rw [List.length_take]; omega)]
    rfl
  rcases H.hd.piece (lo := k) (hi := k + 1) (by omega) (by omega) (by omega) with ⟨q, -⟩ | ⟨b', off', q, hsl⟩
  · cases q
  · cases q
    rw [e, Nat.add_sub_cancel_left] at hsl
    refine ⟨hsl, rfl, fun i x y h1 h2 => ?_⟩
    have : i = 0 := by have := (List.getElem?_eq_some_iff.1 h1).1; simp at this; omega
    subst this
    simp at h1 h2; subst h1; subst h2
    exact H.each k h m hh hm

set_option maxHeartbeats 8000000 in
set_option maxRecDepth 100000 in
theorem mturns_any (a : Option Addr) (n cap : Nat) (hs : List Hdr) (ms : List Mon) (q : AskP) (h : Hdr) (w : World) (h0 : MonIn w a n cap hs ms) (hok : ∀ m ∈ ms, ∀ r ∈ m.rides, Ride.ok r) (hro : Ride.ok q.r) (hoo : ∀ r ∈ q.o.rides, Ride.ok r) (hr : Sl Ride.cod w h.a h.n h.cap q.o.rides) :
    Calls Try.prog 3 #[.slice a n cap, q.val h] w fun e w' => e = .returned (.bool true) ∧ Below w.heap.size w w' := by
  have mixed : Try.prog.follows .mixedOrders = true := by kernel_rfl
  obtain ⟨ha, hnn, hc⟩ := h
  obtain rfl : hnn = q.o.rides.length := hr.hlen
  unfold AskP.val
  have HN := Lib.hid h0.n_eq
  have X0 : Hid ((w.alloc (.cells #[.int .i64 q.A, .int .i64 q.M, .int .i64 q.T, .int .i64 q.S, .int .i64 q.r.t, .int .i64 q.r.s, .int .i64 q.r.e, .int .i64 q.r.f, .int .i64 q.o.a, .int .i64 q.o.m, .int .i64 q.o.t, .int .i64 q.o.c, .slice ha q.o.rides.length hc, .bool q.o.z] 29)).heap[w.heap.size]? = some (.cells #[.int .i64 q.A, .int .i64 q.M, .int .i64 q.T, .int .i64 q.S, .int .i64 q.r.t, .int .i64 q.r.s, .int .i64 q.r.e, .int .i64 q.r.f, .int .i64 q.o.a, .int .i64 q.o.m, .int .i64 q.o.t, .int .i64 q.o.c, .slice ha q.o.rides.length hc, .bool q.o.z] 29 (0, 0))) := box_new w _
  have B0 : Hid (Below w.heap.size w (w.alloc (.cells #[.int .i64 q.A, .int .i64 q.M, .int .i64 q.T, .int .i64 q.S, .int .i64 q.r.t, .int .i64 q.r.s, .int .i64 q.r.e, .int .i64 q.r.f, .int .i64 q.o.a, .int .i64 q.o.m, .int .i64 q.o.t, .int .i64 q.o.c, .slice ha q.o.rides.length hc, .bool q.o.z] 29))) := (Below.refl _ _).alloc (Nat.le_refl _) _
  obtain ⟨p1, hp1⟩ : ∃ p, decide (FewM ms) = p := ⟨_, rfl⟩
  obtain ⟨p2, hp2⟩ : ∃ p, decide (FewM [q.o]) = p := ⟨_, rfl⟩
  have HP : Hid (decide (FewM ms) = p1 ∧ decide (FewM [q.o]) = p2) := ⟨hp1, hp2⟩
  clear hp1 hp2
  cases p1 with
  | false =>
    go_enter Try.func3, Try.ntmps3
    go_wp2_with (first
      | (go_at_call 7; refine (awake37 _).mono ?_; rintro e w1 ⟨rfl, hb1⟩; have HB1 := Lib.hid (B0.out.trans (hb1.mono B0.out.size)); clear hb1)
      | (go_at_call 8; go_fit (few37_any a n cap hs ms _ (h0.below HB1.out)); rintro e w2 ⟨rfl, hb2⟩; rw [HP.out.1]; have HB2 := Lib.hid (HB1.out.trans (hb2.mono HB1.out.size)); clear hb2))
    go_ret
    exact ⟨rfl, HB2.out⟩
  | true =>
    cases p2 with
    | false =>
      go_enter Try.func3, Try.ntmps3
      go_wp2_with (first
        | (go_at_call 7; refine (awake37 _).mono ?_; rintro e w1 ⟨rfl, hb1⟩; have HB1 : Hid (Below w.heap.size w w1) := B0.out.trans (hb1.mono B0.out.size); have X1 := Lib.hid (box_below X0.out hb1); clear hb1)
        | (go_at_call 8; go_fit (few37_any a n cap hs ms _ (h0.below HB1.out)); rintro e w2 ⟨rfl, hb2⟩; rw [HP.out.1]; have HB2 : Hid (Below w.heap.size w w2) := HB1.out.trans (hb2.mono HB1.out.size); have X2 := Lib.hid (box_below X1.out hb2); have y8 := (box_cell X2.out 8).1; have y9 := (box_cell X2.out 9).1; have y10 := (box_cell X2.out 10).1; have y11 := (box_cell X2.out 11).1; have y12 := (box_cell X2.out 12).1; have y13 := (box_cell X2.out 13).1; have hz := box_lt X2.out; clear hb2)
        | (go_at_call 8; go_fit (few37_any (some ⟨w2.heap.size, 0, none⟩) 1 1 [⟨ha, q.o.rides.length, hc⟩] [q.o] _ (mon_new w2 q.o ⟨ha, q.o.rides.length, hc⟩ (hr.below HB2.out))); rintro e w3 ⟨rfl, hb3⟩; rw [HP.out.2]; have HB3 : Hid (Below w.heap.size w w3) := (HB2.out.alloc HB2.out.size _).trans (hb3.mono (HB2.out.alloc HB2.out.size _).size); clear hb3))
      go_ret
      exact ⟨rfl, HB3.out⟩
    | true =>
      have hf1 : FewM ms := of_decide_eq_true HP.out.1
      have hf2 : FewM [q.o] := of_decide_eq_true HP.out.2
      have hn : n ≤ 20 := by rw [HN.out]; exact hf1.2
      have hl : ∀ m ∈ ms, m.rides.length ≤ 50 := hf1.1
      have hl1 : ∀ m ∈ ms, m.rides.length ≤ 1000000 := fun m hm => by have := hl m hm; omega
      have hl2 : ∀ m ∈ ms, m.rides.length ≤ 100000 := fun m hm => by have := hl m hm; omega
      have hlo : q.o.rides.length ≤ 50 := hf2.1 q.o (by simp)
      clear hf1 hf2
      go_enter Try.func3, Try.ntmps3
      go_upto_region 5 with (first
        | (go_at_call 7; refine (awake37 _).mono ?_; rintro e w1 ⟨rfl, hb1⟩; have HB1 : Hid (Below w.heap.size w w1) := B0.out.trans (hb1.mono B0.out.size); have X1 := Lib.hid (box_below X0.out hb1); clear hb1)
        | (go_at_call 8; go_fit (few37_any a n cap hs ms _ (h0.below HB1.out)); rintro e w2 ⟨rfl, hb2⟩; rw [HP.out.1]; have HB2 : Hid (Below w.heap.size w w2) := HB1.out.trans (hb2.mono HB1.out.size); have X2 := Lib.hid (box_below X1.out hb2); have y8 := (box_cell X2.out 8).1; have y9 := (box_cell X2.out 9).1; have y10 := (box_cell X2.out 10).1; have y11 := (box_cell X2.out 11).1; have y12 := (box_cell X2.out 12).1; have y13 := (box_cell X2.out 13).1; have hz := box_lt X2.out; clear hb2)
        | (go_at_call 8; go_fit (few37_any (some ⟨w2.heap.size, 0, none⟩) 1 1 [⟨ha, q.o.rides.length, hc⟩] [q.o] _ (mon_new w2 q.o ⟨ha, q.o.rides.length, hc⟩ (hr.below HB2.out))); rintro e w3 ⟨rfl, hb3⟩; rw [HP.out.2]; have HB3 : Hid (Below w.heap.size w w3) := (HB2.out.alloc HB2.out.size _).trans (hb3.mono (HB2.out.alloc HB2.out.size _).size); have X3 := Lib.hid (box_below (box_alloc X2.out) hb3); clear hb3 y8 y9 y10 y11 y12 y13 hz))
      obtain ⟨pr, hpr⟩ : ∃ p, decide (RightM ms) = p := ⟨_, rfl⟩
      have HPR := Lib.hid hpr
      clear hpr
      obtain ⟨be, hbe⟩ : ∃ e, begRE ms q.o = e := ⟨_, rfl⟩
      obtain ⟨bl, hbl⟩ : ∃ l, begR ms q.o = l := ⟨_, rfl⟩
      have HBE : Hid (begRE ms q.o = be ∧ begR ms q.o = bl) := ⟨hbe, hbl⟩
      have HBS : Hid (bl.length ≤ 21 ∧ ∀ x ∈ bl, x.rides.length ≤ 1000000) := by
        have := begR_small hl hlo (by rw [← HN.out]; exact hn)
        rwa [hbl] at this
      clear hbe hbl
      go_upto_region 9 with (first
        | (go_at_call 9; go_fit (mright_any a n cap hs ms _ (by omega) hl1 hok (h0.below HB3.out)); rintro e w4 ⟨rfl, hb4⟩; rw [HPR.out]; have HB4 : Hid (Below w.heap.size w w4) := HB3.out.trans (hb4.mono HB3.out.size); have X4 := Lib.hid (box_below X3.out hb4); clear hb4)
        | (go_at_call 10; go_fit (rmright_any a n cap hs ms _ (by omega) hl1 (h0.below HB4.out)); rintro e w5 ⟨rfl, hb5⟩; rw [HPR.out]; have HB5 : Hid (Below w.heap.size w w5) := HB4.out.trans (hb5.mono HB4.out.size); have X5 := Lib.hid (box_below X4.out hb5); have y8 := (box_cell X5.out 8).1; have y9 := (box_cell X5.out 9).1; have y10 := (box_cell X5.out 10).1; have y11 := (box_cell X5.out 11).1; have y12 := (box_cell X5.out 12).1; have y13 := (box_cell X5.out 13).1; have hz := box_lt X5.out; clear hb5)
        | (go_at_call 11; go_fit (mbegin_any a n cap hs ms q.o ⟨ha, q.o.rides.length, hc⟩ _ (by omega) hl1 hok (by omega) hoo (h0.below HB5.out) (hr.below HB5.out)); rintro e w6 ⟨a6, c6, hs6, rfl, hin6, hb6⟩; rw [HBE.out.2] at hin6; rw [HBE.out.1, HBE.out.2]; have HIN6 := Lib.hid hin6; have HB6 : Hid (Below w.heap.size w w6) := HB5.out.trans (hb6.mono HB5.out.size); have X6 := Lib.hid (box_below X5.out hb6); clear hb6 hin6 y8 y9 y10 y11 y12 y13 hz; have y8 := (box_cell X6.out 8).1; have y9 := (box_cell X6.out 9).1; have y10 := (box_cell X6.out 10).1; have y11 := (box_cell X6.out 11).1; have y12 := (box_cell X6.out 12).1; have y13 := (box_cell X6.out 13).1; have hz := box_lt X6.out)
        | (go_at_call 12; go_fit (rmbegin_any a n cap hs ms q.o ⟨ha, q.o.rides.length, hc⟩ _ (by omega) hl1 (by omega) (h0.below HB6.out) (hr.below HB6.out)); rintro e w7 ⟨a7, c7, hs7, rfl, hin7, hb7⟩; rw [HBE.out.2] at hin7; rw [HBE.out.1, HBE.out.2]; have HIN7 := Lib.hid hin7; have HIN67 := Lib.hid (HIN6.out.below hb7); have HB7 : Hid (Below w.heap.size w w7) := HB6.out.trans (hb7.mono HB6.out.size); have X7 := Lib.hid (box_below X6.out hb7); clear hb7 hin7 y8 y9 y10 y11 y12 y13 hz))
      have zbe : (be != be) = false := by simp
      go_upto_block 0 with (go_at_call 13; go_fit (rmsame_eq a6 bl.length c6 hs6 a7 c7 hs7 bl _ (by have := HBS.out.1; omega) HBS.out.2 HIN67.out HIN7.out); rintro e w8 ⟨rfl, hb8⟩; have HB8 : Hid (Below w.heap.size w w8) := HB7.out.trans (hb8.mono HB7.out.size); have X8 := Lib.hid (box_below X7.out hb8); clear hb8)
      go_cut [] (fun wx => Hid (Below w8.heap.size w8 wx))
      case first =>
        go_wp2_with fail
        go_loopw [9] (fun i wr => ∃ k : Nat, i = .int .i64 k ∧ 1 ≤ k ∧ k ≤ 4 ∧ Hid (Below w8.heap.size w8 wr)) (fun i _ => 4 - (intOf i).toNat)
        case atStart => exact ⟨1, rfl, by omega, by omega, Below.refl _ _⟩
        case round =>
          obtain ⟨k, rfl, hk1, hk4, hB⟩ := hrel
          have XR := Lib.hid (box_below X8.out hB.out)
          have HBR : Hid (Below w.heap.size w wr) := HB8.out.trans (hB.out.mono HB8.out.size)
          have y0 := (box_cell XR.out 0).1
          have y1 := (box_cell XR.out 1).1
          have y2 := (box_cell XR.out 2).1
          have y3 := (box_cell XR.out 3).1
          have y4 := (box_cell XR.out 4).1
          have y5 := (box_cell XR.out 5).1
          have y6 := (box_cell XR.out 6).1
          have y7 := (box_cell XR.out 7).1
          have hzr := box_lt XR.out
          have hcase : k = 1 ∨ k = 2 ∨ k = 3 ∨ k = 4 := by omega
          rcases hcase with rfl | rfl | rfl | rfl
          · obtain ⟨te, hte⟩ : ∃ e, turnE 1 ms q.A q.M q.r = e := ⟨_, rfl⟩
            obtain ⟨tl, htl⟩ : ∃ l, turnR 1 ms q.A q.M q.r = l := ⟨_, rfl⟩
            have HTE : Hid (turnE 1 ms q.A q.M q.r = te ∧ turnR 1 ms q.A q.M q.r = tl) := ⟨hte, htl⟩
            have HTS : Hid (tl.length ≤ 20 ∧ ∀ x ∈ tl, x.rides.length ≤ 1000000) := by
              have := turnR_small (k := 1) (A := q.A) (M := q.M) (r := q.r) hl (by rw [← HN.out]; exact hn)
              rwa [htl] at this
            clear hte htl
            have zte : (te != te) = false := by simp
            go_wp2_with (first
              | (go_at_call 14; go_fit (madd_any a n cap hs ms q.A q.M q.r _ (by omega) hl2 hok hro (h0.below HBR.out)); rintro e w9 ⟨v9, rfl, hq9, hb9⟩; rw [HTE.out.2] at hq9; rw [HTE.out.1]; obtain ⟨a9, c9, hs9, rfl, hin9⟩ := hq9; have HIN9 := Lib.hid hin9; have HB9 : Hid (Below w.heap.size w w9) := HBR.out.trans (hb9.mono HBR.out.size); have HB89 : Hid (Below w8.heap.size w8 w9) := hB.out.trans (hb9.mono hB.out.size); have X9 := Lib.hid (box_below XR.out hb9); clear hb9 hin9 y0 y1 y2 y3 y4 y5 y6 y7 hzr; have y0 := (box_cell X9.out 0).1; have y1 := (box_cell X9.out 1).1; have y2 := (box_cell X9.out 2).1; have y3 := (box_cell X9.out 3).1; have y4 := (box_cell X9.out 4).1; have y5 := (box_cell X9.out 5).1; have y6 := (box_cell X9.out 6).1; have y7 := (box_cell X9.out 7).1; have hzr := box_lt X9.out)
              | (go_at_call 17; go_fit (rturn_any 1 a n cap hs ms q.A q.M q.r _ (by omega) (by omega) hl2 (h0.below HB9.out)); rintro e w10 ⟨v10, rfl, hq10, hb10⟩; rw [HTE.out.2] at hq10; rw [HTE.out.1]; obtain ⟨a10, c10, hs10, rfl, hin10⟩ := hq10; have HIN10 := Lib.hid hin10; have HIN910 := Lib.hid (HIN9.out.below hb10); have HB10 : Hid (Below w8.heap.size w8 w10) := HB89.out.trans (hb10.mono HB89.out.size); clear hb10 hin10)
              | (go_at_call 13; go_fit (rmsame_eq a9 tl.length c9 hs9 a10 c10 hs10 tl _ (by have := HTS.out.1; omega) HTS.out.2 HIN910.out HIN10.out); rintro e w11 ⟨rfl, hb11⟩; have HB11 : Hid (Below w8.heap.size w8 w11) := HB10.out.trans (hb11.mono HB10.out.size); clear hb11))
            go_roundw
            case rel => exact ⟨2, rfl, by omega, by omega, HB11.out⟩
            case measure => simp [intOf]
          · obtain ⟨te, hte⟩ : ∃ e, turnE 2 ms q.A q.M q.r = e := ⟨_, rfl⟩
            obtain ⟨tl, htl⟩ : ∃ l, turnR 2 ms q.A q.M q.r = l := ⟨_, rfl⟩
            have HTE : Hid (turnE 2 ms q.A q.M q.r = te ∧ turnR 2 ms q.A q.M q.r = tl) := ⟨hte, htl⟩
            have HTS : Hid (tl.length ≤ 20 ∧ ∀ x ∈ tl, x.rides.length ≤ 1000000) := by
              have := turnR_small (k := 2) (A := q.A) (M := q.M) (r := q.r) hl (by rw [← HN.out]; exact hn)
              rwa [htl] at this
            clear hte htl
            have zte : (te != te) = false := by simp
            go_wp2_with (first
              | (go_at_call 15; go_fit (mchange_any a n cap hs ms q.A q.M q.r _ (by omega) hl2 hok hro (h0.below HBR.out)); rintro e w9 ⟨v9, rfl, hq9, hb9⟩; rw [HTE.out.2] at hq9; rw [HTE.out.1]; obtain ⟨a9, c9, hs9, rfl, hin9⟩ := hq9; have HIN9 := Lib.hid hin9; have HB9 : Hid (Below w.heap.size w w9) := HBR.out.trans (hb9.mono HBR.out.size); have HB89 : Hid (Below w8.heap.size w8 w9) := hB.out.trans (hb9.mono hB.out.size); have X9 := Lib.hid (box_below XR.out hb9); clear hb9 hin9 y0 y1 y2 y3 y4 y5 y6 y7 hzr; have y0 := (box_cell X9.out 0).1; have y1 := (box_cell X9.out 1).1; have y2 := (box_cell X9.out 2).1; have y3 := (box_cell X9.out 3).1; have y4 := (box_cell X9.out 4).1; have y5 := (box_cell X9.out 5).1; have y6 := (box_cell X9.out 6).1; have y7 := (box_cell X9.out 7).1; have hzr := box_lt X9.out)
              | (go_at_call 17; go_fit (rturn_any 2 a n cap hs ms q.A q.M q.r _ (by omega) (by omega) hl2 (h0.below HB9.out)); rintro e w10 ⟨v10, rfl, hq10, hb10⟩; rw [HTE.out.2] at hq10; rw [HTE.out.1]; obtain ⟨a10, c10, hs10, rfl, hin10⟩ := hq10; have HIN10 := Lib.hid hin10; have HIN910 := Lib.hid (HIN9.out.below hb10); have HB10 : Hid (Below w8.heap.size w8 w10) := HB89.out.trans (hb10.mono HB89.out.size); clear hb10 hin10)
              | (go_at_call 13; go_fit (rmsame_eq a9 tl.length c9 hs9 a10 c10 hs10 tl _ (by have := HTS.out.1; omega) HTS.out.2 HIN910.out HIN10.out); rintro e w11 ⟨rfl, hb11⟩; have HB11 : Hid (Below w8.heap.size w8 w11) := HB10.out.trans (hb11.mono HB10.out.size); clear hb11))
            go_roundw
            case rel => exact ⟨3, rfl, by omega, by omega, HB11.out⟩
            case measure => simp [intOf]
          · obtain ⟨te, hte⟩ : ∃ e, turnE 3 ms q.A q.M q.r = e := ⟨_, rfl⟩
            obtain ⟨tl, htl⟩ : ∃ l, turnR 3 ms q.A q.M q.r = l := ⟨_, rfl⟩
            have HTE : Hid (turnE 3 ms q.A q.M q.r = te ∧ turnR 3 ms q.A q.M q.r = tl) := ⟨hte, htl⟩
            have HTS : Hid (tl.length ≤ 20 ∧ ∀ x ∈ tl, x.rides.length ≤ 1000000) := by
              have := turnR_small (k := 3) (A := q.A) (M := q.M) (r := q.r) hl (by rw [← HN.out]; exact hn)
              rwa [htl] at this
            clear hte htl
            have zte : (te != te) = false := by simp
            go_wp2_with (first
              | (go_at_call 16; go_fit (mclose_any a n cap hs ms q.A q.M q.r _ (by omega) hl2 hok (h0.below HBR.out)); rintro e w9 ⟨v9, rfl, hq9, hb9⟩; rw [HTE.out.2] at hq9; rw [HTE.out.1]; obtain ⟨a9, c9, hs9, rfl, hin9⟩ := hq9; have HIN9 := Lib.hid hin9; have HB9 : Hid (Below w.heap.size w w9) := HBR.out.trans (hb9.mono HBR.out.size); have HB89 : Hid (Below w8.heap.size w8 w9) := hB.out.trans (hb9.mono hB.out.size); have X9 := Lib.hid (box_below XR.out hb9); clear hb9 hin9 y0 y1 y2 y3 y4 y5 y6 y7 hzr; have y0 := (box_cell X9.out 0).1; have y1 := (box_cell X9.out 1).1; have y2 := (box_cell X9.out 2).1; have y3 := (box_cell X9.out 3).1; have y4 := (box_cell X9.out 4).1; have y5 := (box_cell X9.out 5).1; have y6 := (box_cell X9.out 6).1; have y7 := (box_cell X9.out 7).1; have hzr := box_lt X9.out)
              | (go_at_call 17; go_fit (rturn_any 3 a n cap hs ms q.A q.M q.r _ (by omega) (by omega) hl2 (h0.below HB9.out)); rintro e w10 ⟨v10, rfl, hq10, hb10⟩; rw [HTE.out.2] at hq10; rw [HTE.out.1]; obtain ⟨a10, c10, hs10, rfl, hin10⟩ := hq10; have HIN10 := Lib.hid hin10; have HIN910 := Lib.hid (HIN9.out.below hb10); have HB10 : Hid (Below w8.heap.size w8 w10) := HB89.out.trans (hb10.mono HB89.out.size); clear hb10 hin10)
              | (go_at_call 13; go_fit (rmsame_eq a9 tl.length c9 hs9 a10 c10 hs10 tl _ (by have := HTS.out.1; omega) HTS.out.2 HIN910.out HIN10.out); rintro e w11 ⟨rfl, hb11⟩; have HB11 : Hid (Below w8.heap.size w8 w11) := HB10.out.trans (hb11.mono HB10.out.size); clear hb11))
            go_roundw
            case rel => exact ⟨4, rfl, by omega, by omega, HB11.out⟩
            case measure => simp [intOf]
          · go_wp2_with fail
            go_meet
            exact hB.out
      have HBC : Hid (Below w.heap.size w wc) := HB8.out.trans (hcut.out.mono HB8.out.size)
      have XC := Lib.hid (box_below X8.out hcut.out)
      have hsc := HBC.out.size
      have y0 := (box_cell XC.out 0).1
      have y1 := (box_cell XC.out 1).1
      have y2 := (box_cell XC.out 2).1
      have y3 := (box_cell XC.out 3).1
      have hzc := box_lt XC.out
      obtain ⟨F, hF⟩ : ∃ F, findM ms q.A q.M = F := ⟨_, rfl⟩
      have HF := Lib.hid hF
      clear hF
      obtain ⟨bk, hbk⟩ : ∃ b, decide (0 ≤ F) = b := ⟨_, rfl⟩
      have HBK := Lib.hid hbk
      have HFI : Hid (Calls Try.prog 18 #[.slice a n cap, .int .i64 q.A, .int .i64 q.M] wc fun e w' => ∃ (m : Mon) (g : Hdr), e = .returned (.tuple #[.agg #[.int .i64 m.a, .int .i64 m.m, .int .i64 m.t, .int .i64 m.c, .slice g.a g.n g.cap, .bool m.z], .bool bk]) ∧ (bk = true → ∃ k : Nat, F = k ∧ ms[k]? = some m ∧ Sl Ride.cod w' g.a g.n g.cap m.rides) ∧ Below wc.heap.size wc w') := by
        refine (mfind2_any a n cap hs ms q.A q.M wc (by omega) hl1 (h0.below HBC.out)).mono ?_
        rintro e w' ⟨h1, h2⟩
        rcases h1 with ⟨h3, rfl⟩ | ⟨k, m, g, h1, h3, -, rfl, h5⟩
        · rw [HF.out] at h3
          have e1 : bk = false := by rw [← HBK.out]; exact decide_eq_false (by omega)
          subst e1
          exact ⟨⟨0, 0, 0, 0, [], false⟩, ⟨none, 0, 0⟩, rfl, (fun z => by cases z), h2⟩
        · rw [HF.out] at h1
          have e1 : bk = true := by rw [← HBK.out]; exact decide_eq_true (by omega)
          subst e1
          exact ⟨m, g, rfl, fun _ => ⟨k, h1, h3, h5⟩, h2⟩
      clear hbk
      go_upto_region 27 with (first
        | (go_at_call 18; refine HFI.out.mono ?_; rintro e w9 ⟨m, g, rfl, hk9, hb9⟩; have HK9 := Lib.hid hk9; have HB9 : Hid (Below w.heap.size w w9) := HBC.out.trans (hb9.mono hsc); have X9 := Lib.hid (box_below XC.out hb9); clear hb9 hk9 y0 y1 y2 y3 hzc; have y0 := (box_cell X9.out 0).1; have y1 := (box_cell X9.out 1).1; have y2 := (box_cell X9.out 2).1; have y3 := (box_cell X9.out 3).1; have hzc := box_lt X9.out)
        | (go_at_call 19; go_fit (rmfind_any a n cap hs ms q.A q.M _ (by omega) (h0.below (HB9.out.alloc HB9.out.size _))); rintro e w10 ⟨rfl, rfl⟩; rw [HF.out]))
      have XM : Hid ((w9.alloc (.cells #[.int .i64 m.a, .int .i64 m.m, .int .i64 m.t, .int .i64 m.c, .slice g.a g.n g.cap, .bool m.z] 27)).heap[w9.heap.size]? = some (.cells #[.int .i64 m.a, .int .i64 m.m, .int .i64 m.t, .int .i64 m.c, .slice g.a g.n g.cap, .bool m.z] 27 (0, 0))) := box_new w9 _
      have HBM : Hid (Below w.heap.size w (w9.alloc (.cells #[.int .i64 m.a, .int .i64 m.m, .int .i64 m.t, .int .i64 m.c, .slice g.a g.n g.cap, .bool m.z] 27))) := HB9.out.alloc HB9.out.size _
      have XA := Lib.hid (box_alloc X9.out (o := .cells #[.int .i64 m.a, .int .i64 m.m, .int .i64 m.t, .int .i64 m.c, .slice g.a g.n g.cap, .bool m.z] 27))
      have HKM : Hid (bk = true → ∃ k : Nat, F = k ∧ ms[k]? = some m ∧ Sl Ride.cod (w9.alloc (.cells #[.int .i64 m.a, .int .i64 m.m, .int .i64 m.t, .int .i64 m.c, .slice g.a g.n g.cap, .bool m.z] 27)) g.a g.n g.cap m.rides) := fun z => by
        obtain ⟨k, h1, h2, h3⟩ := HK9.out z
        exact ⟨k, h1, h2, h3.below ((Below.refl _ _).alloc (Nat.le_refl _) _)⟩
      obtain ⟨W, hW⟩ : ∃ W, w9.alloc (.cells #[.int .i64 m.a, .int .i64 m.m, .int .i64 m.t, .int .i64 m.c, .slice g.a g.n g.cap, .bool m.z] 27) = W := ⟨_, rfl⟩
      rw [hW] at XM HBM XA HKM ⊢
      clear hW y0 y1 y2 y3 hzc
      obtain ⟨z0, z1, z2, z3, z4, z5⟩ := box6_cells XM.out
      have hzm := box_lt XM.out
      go_cut [152] (fun v wx => v = .bool false ∧ Hid (Below W.heap.size W wx))
      case first =>
        cases bk with
        | false =>
          have d1 : decide (0 ≤ F) = false := HBK.out
          clear z0 z1 z2 z3 z4 z5
          refine wp_region_quiet_below (by assumption) (by kernel_rfl) ?_
          repeat (go_big_quiet_step (fail))
          refine wpQuiet_nil ?_
          intro w8' hw8
          obtain ⟨⟨nd, osq⟩, rfl⟩ := hw8
          have HB8' := Lib.hid (below_regrown W nd osq)
          generalize Go.Sort.grow (redrawn W nd) osq = w12 at HB8' ⊢
          go_wp2_with fail
          go_meet
          exact ⟨rfl, HB8'.out⟩
        | true =>
          obtain ⟨k, hk1, hk2, hk3⟩ := HKM.out rfl
          subst hk1
          have hkn : k < n := by rw [HN.out]; exact (List.getElem?_eq_some_iff.1 hk2).1
          obtain ⟨b, off, at_, ct, m', rfl, hbb, hm', hh', -, hrd⟩ := (h0.below HBM.out).at hkn
          have := hm'.symm.trans hk2
          cases this
          obtain ⟨ga, gn, gc⟩ := g
          obtain rfl : gn = m.rides.length := hk3.hlen
          have hcap := h0.hd.hcap
          have d1 : decide ((0 : Int) ≤ (k : Int)) = true := decide_eq_true (by omega)
          have b1 : (k : Int) ≤ (n : Int) := by omega
          have b2 : (k : Int) + 1 ≤ (n : Int) := by omega
          have b3 : (k : Int) + 1 ≤ (cap : Int) := by omega
          have b4 : IntKind.i64.wrap ((k : Int) + 1) = (k : Int) + 1 := by rw [IntKind.wrap_i64]; omega
          have b5 : ((k : Int) + 1).toNat = k + 1 := by omega
          have b6 : ¬ (cap = k) := by omega
          have b7 : (0 : Int) ≤ (k : Int) + 1 := by omega
          have b8 : (k : Int) ≤ (k : Int) + 1 := by omega
          have HPC : Hid (∀ W', Below w.heap.size w W' → MonIn W' (some ⟨b, off + k * 6, none⟩) 1 (cap - k) [⟨at_, m.rides.length, ct⟩] [m]) := fun W' hb => (h0.below hb).one hk2 hh'
          have HL50 := Lib.hid (hl1 m (List.mem_of_getElem? hk2))
          have HKN := Lib.hid hkn
          have HG := Lib.hid hk3
          clear hk2 hm' hrd hk3 hkn
          go_region_held3 (fun wx => wx.cell? ⟨w9.heap.size, 0, none⟩ = some (.int .i64 m.a) ∧ wx.cell? ⟨w9.heap.size, 1, none⟩ = some (.int .i64 m.m) ∧ wx.cell? ⟨w9.heap.size, 2, none⟩ = some (.int .i64 m.t) ∧ wx.cell? ⟨w9.heap.size, 3, none⟩ = some (.int .i64 m.c) ∧ wx.cell? ⟨w9.heap.size, 4, none⟩ = some (.slice ga m.rides.length gc) ∧ wx.cell? ⟨w9.heap.size, 5, none⟩ = some (.bool m.z)) (first | (exact box6_cells XM12.out) | go_keep) (first
            | (go_at_call 13; go_fit (rmsame_eq (some ⟨W.heap.size, 0, none⟩) 1 1 [⟨ga, m.rides.length, gc⟩] (some ⟨b, off + k * 6, none⟩) (cap - k) [⟨at_, m.rides.length, ct⟩] [m] (W.alloc (.cells #[.int .i64 m.a, .int .i64 m.m, .int .i64 m.t, .int .i64 m.c, .slice ga m.rides.length gc, .bool m.z] 27)).drew (by omega) (fun x hx => by simp at hx; subst hx; exact HL50.out) ((mon_new W m ⟨ga, m.rides.length, gc⟩ HG.out).below (Below.drew (Below.refl _ _))) (HPC.out _ (Below.drew (HBM.out.alloc HBM.out.size _)))); rintro e w12 ⟨rfl, hb12⟩; have HB12 : Hid (Below W.heap.size W w12) := (Below.drew ((Below.refl _ _).alloc (Nat.le_refl _) _)).trans (hb12.mono (by show _ ≤ (W.alloc _).heap.size; simp)); have XM12 := Lib.hid (box_below XM.out HB12.out); clear hb12))
          all_goals
            go_wp2_with fail
            go_meet
            exact ⟨rfl, HB12.out⟩
      obtain ⟨rfl, HBX⟩ := hcut
      have HBZ : Hid (Below w.heap.size w wc) := HBM.out.trans (HBX.out.mono HBM.out.size)
      have XT := Lib.hid (box_below XA.out HBX.out)
      have y2 := (box_cell XT.out 2).1
      have y3 := (box_cell XT.out 3).1
      have hzt := box_lt XT.out
      by_cases t1 : q.T < 0
      · have e0 : decide (q.T < 0) = true := decide_eq_true t1
        have HOF : Hid (ofV q.T q.S = 0 ∧ ofE q.T q.S = 2) := by
          have e1 : ofE q.T q.S = 2 := by unfold ofE; rw [if_neg (fun z => by omega)]
          exact ⟨by unfold ofV; rw [e1]; rfl, e1⟩
        go_wp2_with (go_at_call 20; refine (mof_any q.T q.S _).mono ?_; rintro e w13 ⟨rfl, rfl⟩; rw [HOF.out.1, HOF.out.2])
        go_ret
        exact ⟨rfl, HBZ.out⟩
      have f1 : decide (q.T < 0) = false := decide_eq_false t1
      by_cases t2 : 1099511627776 < q.T
      · have e0 : decide (1099511627776 < q.T) = true := decide_eq_true t2
        have HOF : Hid (ofV q.T q.S = 0 ∧ ofE q.T q.S = 2) := by
          have e1 : ofE q.T q.S = 2 := by unfold ofE; rw [if_neg (fun z => by omega)]
          exact ⟨by unfold ofV; rw [e1]; rfl, e1⟩
        go_wp2_with (go_at_call 20; refine (mof_any q.T q.S _).mono ?_; rintro e w13 ⟨rfl, rfl⟩; rw [HOF.out.1, HOF.out.2])
        go_ret
        exact ⟨rfl, HBZ.out⟩
      have f2 : decide (1099511627776 < q.T) = false := decide_eq_false t2
      by_cases t3 : q.S < 1
      · have e0 : decide (q.S < 1) = true := decide_eq_true t3
        have HOF : Hid (ofV q.T q.S = 0 ∧ ofE q.T q.S = 2) := by
          have e1 : ofE q.T q.S = 2 := by unfold ofE; rw [if_neg (fun z => by omega)]
          exact ⟨by unfold ofV; rw [e1]; rfl, e1⟩
        go_wp2_with (go_at_call 20; refine (mof_any q.T q.S _).mono ?_; rintro e w13 ⟨rfl, rfl⟩; rw [HOF.out.1, HOF.out.2])
        go_ret
        exact ⟨rfl, HBZ.out⟩
      have f3 : decide (q.S < 1) = false := decide_eq_false t3
      by_cases t4 : 1099511627776 < q.S
      · have e0 : decide (1099511627776 < q.S) = true := decide_eq_true t4
        have HOF : Hid (ofV q.T q.S = 0 ∧ ofE q.T q.S = 2) := by
          have e1 : ofE q.T q.S = 2 := by unfold ofE; rw [if_neg (fun z => by omega)]
          exact ⟨by unfold ofV; rw [e1]; rfl, e1⟩
        go_wp2_with (go_at_call 20; refine (mof_any q.T q.S _).mono ?_; rintro e w13 ⟨rfl, rfl⟩; rw [HOF.out.1, HOF.out.2])
        go_ret
        exact ⟨rfl, HBZ.out⟩
      have f4 : decide (1099511627776 < q.S) = false := decide_eq_false t4
      have q1 : q.T.tdiv q.S = q.T / q.S := Int.tdiv_eq_ediv_of_nonneg (by omega)
      have q2 : 0 ≤ q.T / q.S ∧ q.T / q.S ≤ q.T := ⟨Int.ediv_nonneg (by omega) (by omega), Int.ediv_le_self _ (by omega)⟩
      have q3 : q.T / q.S * q.S ≤ q.T := Int.ediv_mul_le _ (by omega)
      have q4 : q.T - q.T / q.S * q.S < q.S := by
        have := Int.emod_lt_of_pos q.T (show 0 < q.S by omega)
        rw [Int.emod_def, Int.mul_comm] at this
        exact this
      have q5 : 0 ≤ q.T / q.S * q.S := Int.mul_nonneg q2.1 (by omega)
      have z1 : (q.S == 0) = false := by simp; omega
      have z2 : ¬ q.S = 0 := by omega
      by_cases t5 : 1048576 < q.T / q.S
      · have HOF : Hid (ofV q.T q.S = 0 ∧ ofE q.T q.S = 3) := by
          have e1 : ofE q.T q.S = 3 := by unfold ofE; rw [if_pos ⟨by omega, by omega, by omega, by omega⟩, if_pos t5]
          exact ⟨by unfold ofV; rw [e1]; rfl, e1⟩
        obtain ⟨d, hd⟩ : ∃ d, q.T / q.S = d := ⟨_, rfl⟩
        rw [hd] at q1 q2 t5
        have r1 : IntKind.i64.wrap d = d := by rw [IntKind.wrap_i64]; omega
        have e0 : decide (1048576 < d) = true := decide_eq_true t5
        clear hd q3 q4 q5
        go_wp2_with (go_at_call 20; refine (mof_any q.T q.S _).mono ?_; rintro e w13 ⟨rfl, rfl⟩; rw [HOF.out.1, HOF.out.2])
        go_ret
        exact ⟨rfl, HBZ.out⟩
      · have HOF : Hid (ofV q.T q.S = q.T / q.S ∧ ofE q.T q.S = 0) := by
          have e1 : ofE q.T q.S = 0 := by unfold ofE; rw [if_pos ⟨by omega, by omega, by omega, by omega⟩, if_neg t5]
          exact ⟨by unfold ofV; rw [if_pos e1], e1⟩
        obtain ⟨d, hd⟩ : ∃ d, q.T / q.S = d := ⟨_, rfl⟩
        rw [hd] at q1 q2 t5 q3 q4 q5 HOF
        obtain ⟨p, hp⟩ : ∃ p, d * q.S = p := ⟨_, rfl⟩
        rw [hp] at q3 q4 q5
        have r1 : IntKind.i64.wrap d = d := by rw [IntKind.wrap_i64]; omega
        have r2 : IntKind.i64.wrap (d * q.S) = p := by rw [hp, IntKind.wrap_i64]; omega
        have r3 : IntKind.i64.wrap (q.T - p) = q.T - p := by rw [IntKind.wrap_i64]; omega
        have e0 : decide (1048576 < d) = false := decide_eq_false t5
        have e2 : decide (p ≤ q.T) = true := decide_eq_true q3
        have e3 : decide (q.T - p < q.S) = true := decide_eq_true q4
        clear hd
        go_wp2_with (go_at_call 20; refine (mof_any q.T q.S _).mono ?_; rintro e w13 ⟨rfl, rfl⟩; rw [HOF.out.1, HOF.out.2])
        go_ret
        exact ⟨rfl, HBZ.out⟩
end Go.Proofs.Ytbdkhgenkekioaa
