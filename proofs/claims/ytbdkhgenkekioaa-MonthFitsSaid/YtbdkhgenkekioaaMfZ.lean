/- Months: are they one, by the document, walked (for those that are). -/
/- Months: the chapter's example, walked. -/
/- Months begun, added, changed, closed, found; a time's month: the law, walked. -/
/- How an argument is opened: a slice of things that are always so many cells. -/
/- Months: how arguments that hold them are opened. -/
/- Months: an asking, opened. -/
/- Months as bytes: month.Put, walked. -/
/- MonthFits: what two rides added in either order make of a month, in plain Lean. -/
/- MonthFits: walked. -/
/- How an argument is opened: a ride. -/
/- MonthFits answers true, whatever comes in, and what came in reads as it did; no condition. -/
import Derived.Test.YtbdkhgenkekioaaMoB
import Derived.Deep.DeepFit
import Derived.Test.YtbdkhgenkekioaaMoS
import Derived.Test.YtbdkhgenkekioaaBase
import Derived.ProofKit
import Derived.OpenShut
import Derived.ShutString
import Derived.ChangeOld
import Derived.Below
import Derived.Deep.Slices
import Derived.Lib.SmallJoins
import Derived.Test.YtbdkhgenkekioaaMoA
import Derived.Test.YtbdkhgenkekioaaMbA
import Derived.Test.YtbdkhgenkekioaaMoC
import Derived.Test.YtbdkhgenkekioaaRows
namespace Go.Proofs.Ytbdkhgenkekioaa
open Go.RowKit Go.V Go.Sort Go.Shelf Go.Proofs Go.Maps
open Go.Proofs.Ytbdkhgenkekioaa.Ne (box_alloc box_new box_cell box_below box_lt box2_cells)

set_option maxHeartbeats 4000000 in
set_option maxRecDepth 100000 in
theorem rmsame_eq (a1 : Option Addr) (n c1 : Nat) (hs1 : List Hdr) (a2 : Option Addr) (c2 : Nat) (hs2 : List Hdr) (ms : List Mon) (w : World) (hn : n ≤ 1000000) (hl : ∀ m ∈ ms, m.rides.length ≤ 1000000) (h1 : MonIn w a1 n c1 hs1 ms) (h2 : MonIn w a2 n c2 hs2 ms) :
    Calls Try.prog 13 #[.slice a1 n c1, .slice a2 n c2] w fun e w' => e = .returned (.bool true) ∧ Below w.heap.size w w' := by
  go_enter Try.func13, Try.ntmps13
  go_wp2_with fail
  go_loopw [5] (fun i wr => ∃ k : Nat, i = .int .i64 k ∧ k ≤ n ∧ Hid (Below w.heap.size w wr)) (fun i _ => n - (intOf i).toNat)
  case atStart => exact ⟨0, rfl, by omega, Below.refl _ _⟩
  case round =>
    obtain ⟨k, rfl, hk, hB⟩ := hrel
    by_cases hlt : k < n
    · obtain ⟨b, off, at_, ct, m, rfl, hbb, hm, -, ⟨c0, c1', c2', c3, c4, c5⟩, hrd⟩ := (h1.below hB.out).at hlt
      obtain ⟨b2, off2, at2, ct2, m2, rfl, hbb2, hm2, -, ⟨d0, d1, d2, d3, d4, d5⟩, hrd2⟩ := (h2.below hB.out).at hlt
      have := hm.symm.trans hm2
      cases this
      have HL := Lib.hid (hl m (List.mem_of_getElem? hm))
      have HRD := Lib.hid hrd
      have HRD2 := Lib.hid hrd2
      have hbs := hB.out.size
      have b1 : (k : Int) < (n : Int) := by omega
      clear hm hm2 hrd hrd2
      go_upto_region 8 with fail
      have X0 : Hid (((wr.alloc (.cells #[.int .i64 m.a, .int .i64 m.m, .int .i64 m.t, .int .i64 m.c, .slice at_ m.rides.length ct, .bool m.z] 27)).alloc (.cells #[.int .i64 m.a, .int .i64 m.m, .int .i64 m.t, .int .i64 m.c, .slice at2 m.rides.length ct2, .bool m.z] 27)).heap[wr.heap.size]? = some (.cells #[.int .i64 m.a, .int .i64 m.m, .int .i64 m.t, .int .i64 m.c, .slice at_ m.rides.length ct, .bool m.z] 27 (0, 0))) := box_alloc (box_new wr _)
      have X2 : Hid (((wr.alloc (.cells #[.int .i64 m.a, .int .i64 m.m, .int .i64 m.t, .int .i64 m.c, .slice at_ m.rides.length ct, .bool m.z] 27)).alloc (.cells #[.int .i64 m.a, .int .i64 m.m, .int .i64 m.t, .int .i64 m.c, .slice at2 m.rides.length ct2, .bool m.z] 27)).heap[wr.heap.size + 1]? = some (.cells #[.int .i64 m.a, .int .i64 m.m, .int .i64 m.t, .int .i64 m.c, .slice at2 m.rides.length ct2, .bool m.z] 27 (0, 0))) := by
        have := box_new (wr.alloc (.cells #[.int .i64 m.a, .int .i64 m.m, .int .i64 m.t, .int .i64 m.c, .slice at_ m.rides.length ct, .bool m.z] 27)) (.cells #[.int .i64 m.a, .int .i64 m.m, .int .i64 m.t, .int .i64 m.c, .slice at2 m.rides.length ct2, .bool m.z] 27)
        rwa [World.size_alloc] at this
      have B0 : Hid (Below wr.heap.size wr ((wr.alloc (.cells #[.int .i64 m.a, .int .i64 m.m, .int .i64 m.t, .int .i64 m.c, .slice at_ m.rides.length ct, .bool m.z] 27)).alloc (.cells #[.int .i64 m.a, .int .i64 m.m, .int .i64 m.t, .int .i64 m.c, .slice at2 m.rides.length ct2, .bool m.z] 27))) := ((Below.refl _ _).alloc (Nat.le_refl _) _).alloc (by simp) _
      obtain ⟨W, hW⟩ : ∃ W, (wr.alloc (.cells #[.int .i64 m.a, .int .i64 m.m, .int .i64 m.t, .int .i64 m.c, .slice at_ m.rides.length ct, .bool m.z] 27)).alloc (.cells #[.int .i64 m.a, .int .i64 m.m, .int .i64 m.t, .int .i64 m.c, .slice at2 m.rides.length ct2, .bool m.z] 27) = W := ⟨_, rfl⟩
      rw [hW] at X0 X2 B0 ⊢
      clear hW c0 c1' c2' c3 c4 c5 d0 d1 d2 d3 d4 d5
      have HBW : Hid (Below w.heap.size w W) := hB.out.trans (B0.out.mono hbs)
      obtain ⟨y0, y1, y2, y3, y4, y5⟩ := box6_cells X0.out
      obtain ⟨z0, z1, z2, z3, z4, z5⟩ := box6_cells X2.out
      have hz1 := box_lt X0.out
      have hz2 := box_lt X2.out
      go_wp2_with (go_at_call 45; refine (same_any at_ m.rides.length ct m.rides at2 m.rides.length ct2 m.rides _ HL.out (HRD.out.below B0.out) (HRD2.out.below B0.out)).mono ?_; rintro e w3 ⟨rfl, hb3⟩; rw [show decide (m.rides = m.rides) = true from decide_eq_true rfl]; have HB3 := Lib.hid (HBW.out.trans (hb3.mono HBW.out.size)); clear hb3)
      go_roundw
      case rel => exact ⟨k + 1, by go_num, by omega, HB3.out⟩
      case measure => simp [intOf]; omega
    · have hk' : k = n := by omega
      subst hk'
      go_wp2_with fail
      go_ret
      exact ⟨rfl, hB.out⟩
end Go.Proofs.Ytbdkhgenkekioaa

namespace Go.Proofs.Ytbdkhgenkekioaa
open Go.RowKit Go.V Go.Sort Go.Shelf Go.Proofs Go.Maps
open Go.Proofs.Ytbdkhgenkekioaa.Ne (box_alloc box_new box_cell box_below box_lt box2_cells)

theorem slr_nil (w : World) : Sl Ride.cod w none 0 0 ([] : List Ride) := ⟨rfl, Nat.le_refl _, by unfold maxLen; omega, fun _ => ⟨rfl, rfl⟩, fun d hd => nomatch hd⟩
def mEx : Mon := ⟨1, 2, 1, 0, [], false⟩
def rEx : Ride := ⟨3, 250, 260, 4⟩
theorem rEx_ok : Ride.ok rEx := by unfold Ride.ok; decide
theorem right_nil : RightM [] := ⟨by decide, fun i m h => by simp at h⟩
theorem oneEx : OneM mEx := by decide
theorem begEx : begRE [] mEx = 0 ∧ begR [] mEx = [mEx] := by
  obtain ⟨h1, h2⟩ := begE_new (ms := []) (m := mEx) right_nil oneEx (by decide) (by decide)
  exact ⟨h1, by rw [h2]; rfl⟩
theorem addEx : turnE 1 [mEx] 1 2 rEx = 0 ∧ turnR 1 [mEx] 1 2 rEx = [{ mEx with rides := [rEx] }] := by
  have hf : findM [mEx] 1 2 = ((0 : Nat) : Int) := by decide
  obtain ⟨h1, h2⟩ := tn_at (k := 1) (ms := [mEx]) (A := 1) (M := 2) (r := rEx) (j := 0) (m := mEx) ⟨(right_one mEx).2 oneEx, .inr (by decide)⟩ hf (by unfold monAt; rw [hf]; rfl) (by decide)
  rw [h1, h2]
  exact ⟨by decide, by unfold rideR; decide⟩
theorem findEx (a : Option Addr) (c : Nat) (hs : List Hdr) (w : World) (h : MonIn w a 1 c hs [{ mEx with rides := [rEx] }]) :
    Calls Try.prog 18 #[.slice a 1 c, .int .i64 1, .int .i64 2] w fun e w' => ∃ q : Hdr, e = .returned (.tuple #[.agg #[.int .i64 1, .int .i64 2, .int .i64 1, .int .i64 0, .slice q.a 1 q.cap, .bool false], .bool true]) ∧ Sl Ride.cod w' q.a 1 q.cap [rEx] ∧ Below w.heap.size w w' := by
  refine (mfind2_any a 1 c hs [{ mEx with rides := [rEx] }] 1 2 w (by omega) (fun m hm => by simp at hm; subst hm; decide) h).mono ?_
  rintro e w' ⟨h1, h2⟩
  have hf : findM [{ mEx with rides := [rEx] }] 1 2 = ((0 : Nat) : Int) := by decide
  rcases h1 with ⟨h1, -⟩ | ⟨k, m, ⟨qa, qn, qc⟩, h1, h3, -, rfl, h4⟩
  · rw [hf] at h1; omega
  · rw [hf] at h1
    have : k = 0 := by omega
    subst this
    simp at h3; subst h3
    obtain rfl : qn = 1 := h4.hlen
    exact ⟨⟨qa, 1, qc⟩, rfl, h4, h2⟩
set_option maxHeartbeats 4000000 in
set_option maxRecDepth 100000 in
theorem awake37 (w : World) : Calls Try.prog 7 #[] w fun e w' => e = .returned (.bool true) ∧ Below w.heap.size w w' := by
  go_enter Try.func7, Try.ntmps7
  go_upto_region 5 with (first
    | (go_at_call 20; refine (mof_any 250 100 _).mono ?_; rintro e w1 ⟨rfl, rfl⟩; rw [show ofV 250 100 = 2 by decide, show ofE 250 100 = 0 by decide])
    | (go_at_call 11; go_loud (go_fit (mbegin_any none 0 0 [] [] mEx ⟨none, 0, 0⟩ _ (by omega) (fun m hm => by simp at hm) (fun m hm => by simp at hm) (by decide) (fun r hr => by simp [mEx] at hr) (MonIn.nil _) (slr_nil _)); rintro e w2 ⟨a2, c2, hs2, rfl, hin2, hb2⟩; rw [begEx.2] at hin2; rw [begEx.1, begEx.2]; have HIN2 : Hid (MonIn w2 a2 1 c2 hs2 [mEx]) := hin2; have HB2 := Lib.hid hb2; clear hin2 hb2))
    | (go_at_call 14; go_loud (go_fit (madd_any a2 1 c2 hs2 [mEx] 1 2 rEx w2 (by omega) (fun m hm => by simp at hm; subst hm; decide) (fun m hm => by simp at hm; subst hm; intro r hr; simp [mEx] at hr) rEx_ok HIN2.out); rintro e w3 ⟨v3, rfl, hq3, hb3⟩; rw [addEx.2] at hq3; rw [addEx.1]; obtain ⟨a3, c3, hs3, rfl, hin3⟩ := hq3; have HIN3 : Hid (MonIn w3 a3 1 c3 hs3 [{ mEx with rides := [rEx] }]) := hin3; have HB3 := Lib.hid (HB2.out.trans (hb3.mono HB2.out.size)); clear hin3 hb3))
    | (go_at_call 18; go_fit (findEx a3 c3 hs3 w3 HIN3.out); rintro e w4 ⟨q4, rfl, hq4, hb4⟩; have HQ4 := Lib.hid hq4; have HB4 := Lib.hid (HB3.out.trans (hb4.mono HB3.out.size)); clear hq4 hb4))
  go_wp2_with fail
  go_ret
  exact ⟨rfl, HB4.out.alloc HB4.out.size _⟩
end Go.Proofs.Ytbdkhgenkekioaa

namespace Go.Proofs.Ytbdkhgenkekioaa
open Go.RowKit Go.V Go.Sort Go.Shelf Go.Proofs Go.Maps
open Go.Proofs.Ytbdkhgenkekioaa.Ne (box_alloc box_new box_cell box_below box_lt box2_cells)

/-- What is asked. -/
structure AskP where
  A : Int
  M : Int
  T : Int
  S : Int
  r : Ride
  o : Mon
def AskP.val (q : AskP) (h : Hdr) : Value := .agg #[.int .i64 q.A, .int .i64 q.M, .int .i64 q.T, .int .i64 q.S, .int .i64 q.r.t, .int .i64 q.r.s, .int .i64 q.r.e, .int .i64 q.r.f, .int .i64 q.o.a, .int .i64 q.o.m, .int .i64 q.o.t, .int .i64 q.o.c, .slice h.a h.n h.cap, .bool q.o.z]

theorem begR_small {ms : List Mon} {m : Mon} (h1 : ∀ x ∈ ms, x.rides.length ≤ 50) (h2 : m.rides.length ≤ 50) (h3 : ms.length ≤ 20) : (begR ms m).length ≤ 21 ∧ ∀ x ∈ begR ms m, x.rides.length ≤ 1000000 := by
  unfold begR
  split
  · split
    · exact ⟨by omega, fun x hx => by have := h1 x hx; omega⟩
    · unfold insM
      refine ⟨by simp; omega, fun x hx => ?_⟩
      rcases List.mem_append.1 hx with hx | hx
      · have := h1 x (List.mem_of_mem_take hx); omega
      · rcases List.mem_cons.1 hx with rfl | hx
        · omega
        · have := h1 x (List.mem_of_mem_drop hx); omega
  · exact ⟨by simp, fun x hx => by simp at hx⟩
theorem set_mem_or {α : Type} {l : List α} {j : Nat} {y x : α} (h : x ∈ l.set j y) : x ∈ l ∨ x = y := by
  rcases List.mem_or_eq_of_mem_set h with h | h
  · exact .inl h
  · exact .inr h
theorem turnR_small {k : Int} {ms : List Mon} {A M : Int} {r : Ride} (h1 : ∀ x ∈ ms, x.rides.length ≤ 50) (h3 : ms.length ≤ 20) : (turnR k ms A M r).length ≤ 20 ∧ ∀ x ∈ turnR k ms A M r, x.rides.length ≤ 1000000 := by
  have hm : (monAt ms A M).rides.length ≤ 50 := by
    unfold monAt
    rw [List.getD_eq_getElem?_getD]
    cases e : ms[(findM ms A M).toNat]? with
    | none => show (default : Mon).rides.length ≤ 50; exact Nat.zero_le _
    | some y => exact h1 y (List.mem_of_getElem? e)
  unfold turnR
  split
  · split
    · refine ⟨by rw [List.length_set]; exact h3, fun x hx => ?_⟩
      rcases set_mem_or hx with h | rfl
      · have := h1 x h; omega
      · show (monAt ms A M).rides.length ≤ _; omega
    · split
      · exact ⟨h3, fun x hx => by have := h1 x hx; omega⟩
      · refine ⟨by rw [withM_len]; exact h3, fun x hx => ?_⟩
        obtain ⟨i, hi⟩ := List.mem_iff_getElem?.1 hx
        unfold withM at hi
        rw [List.getElem?_mapIdx] at hi
        cases e : ms[i]? with
        | none => rw [e] at hi; simp at hi
        | some y =>
          rw [e] at hi
          simp at hi
          have h5 := h1 y (List.mem_of_getElem? e)
          subst hi
          split
          · show (isort ltR _).length ≤ _
            rw [(isort_perm _).length_eq, List.length_append]
            have := List.length_filter_le (fun x : Ride => decide (x.t ≠ r.t)) (monAt ms A M).rides
            unfold othR
            simp only [List.length_cons, List.length_nil]
            omega
          · omega
  · exact ⟨by simp, fun x hx => by simp at hx⟩

theorem MonIn.one {w : World} {b off n cap : Nat} {hs : List Hdr} {ms : List Mon} {k : Nat} {m : Mon} {h : Hdr} (H : MonIn w (some ⟨b, off, none⟩) n cap hs ms) (hm : ms[k]? = some m) (hh : hs[k]? = some h) : MonIn w (some ⟨b, off + k * 6, none⟩) 1 (cap - k) [h] [m] := by
  have hk : k < n := by rw [H.n_eq]; exact (List.getElem?_eq_some_iff.1 hm).1
  have hcap := H.hd.hcap
  have e : ((List.zipWith Mon.hd ms hs).take (k + 1)).drop k = [m.hd h] := by
    have hx : (List.zipWith Mon.hd ms hs)[k]? = some (m.hd h) := by rw [List.getElem?_zipWith, hm, hh]
    have hl := (List.getElem?_eq_some_iff.1 hx).1
    rw [take_at hx, List.drop_append_of_le_length (by rw [List.length_take]; omega), List.drop_eq_nil_of_le (by rw [List.length_take]; omega)]
    rfl
  rcases H.hd.piece (lo := k) (hi := k + 1) (by omega) (by omega) (by omega) with ⟨q, -⟩ | ⟨b', off', q, hsl⟩
  · cases q
  · cases q
    rw [e, Nat.add_sub_cancel_left] at hsl
    refine ⟨hsl, rfl, fun i x y h1 h2 => ?_⟩
    have : i = 0 := by have := (List.getElem?_eq_some_iff.1 h1).1; simp at this; omega
    subst this
    simp at h1 h2; subst h1; subst h2
    exact H.each k h m hh hm

set_option maxHeartbeats 8000000 in
set_option maxRecDepth 100000 in
theorem mturns_any (a : Option Addr) (n cap : Nat) (hs : List Hdr) (ms : List Mon) (q : AskP) (h : Hdr) (w : World) (h0 : MonIn w a n cap hs ms) (hok : ∀ m ∈ ms, ∀ r ∈ m.rides, Ride.ok r) (hro : Ride.ok q.r) (hoo : ∀ r ∈ q.o.rides, Ride.ok r) (hr : Sl Ride.cod w h.a h.n h.cap q.o.rides) :
    Calls Try.prog 3 #[.slice a n cap, q.val h] w fun e w' => e = .returned (.bool true) ∧ Below w.heap.size w w' := by
  have mixed : Try.prog.follows .mixedOrders = true := by kernel_rfl
  obtain ⟨ha, hnn, hc⟩ := h
  obtain rfl : hnn = q.o.rides.length := hr.hlen
  unfold AskP.val
  have HN := Lib.hid h0.n_eq
  have X0 : Hid ((w.alloc (.cells #[.int .i64 q.A, .int .i64 q.M, .int .i64 q.T, .int .i64 q.S, .int .i64 q.r.t, .int .i64 q.r.s, .int .i64 q.r.e, .int .i64 q.r.f, .int .i64 q.o.a, .int .i64 q.o.m, .int .i64 q.o.t, .int .i64 q.o.c, .slice ha q.o.rides.length hc, .bool q.o.z] 29)).heap[w.heap.size]? = some (.cells #[.int .i64 q.A, .int .i64 q.M, .int .i64 q.T, .int .i64 q.S, .int .i64 q.r.t, .int .i64 q.r.s, .int .i64 q.r.e, .int .i64 q.r.f, .int .i64 q.o.a, .int .i64 q.o.m, .int .i64 q.o.t, .int .i64 q.o.c, .slice ha q.o.rides.length hc, .bool q.o.z] 29 (0, 0))) := box_new w _
  have B0 : Hid (Below w.heap.size w (w.alloc (.cells #[.int .i64 q.A, .int .i64 q.M, .int .i64 q.T, .int .i64 q.S, .int .i64 q.r.t, .int .i64 q.r.s, .int .i64 q.r.e, .int .i64 q.r.f, .int .i64 q.o.a, .int .i64 q.o.m, .int .i64 q.o.t, .int .i64 q.o.c, .slice ha q.o.rides.length hc, .bool q.o.z] 29))) := (Below.refl _ _).alloc (Nat.le_refl _) _
  obtain ⟨p1, hp1⟩ : ∃ p, decide (FewM ms) = p := ⟨_, rfl⟩
  obtain ⟨p2, hp2⟩ : ∃ p, decide (FewM [q.o]) = p := ⟨_, rfl⟩
  have HP : Hid (decide (FewM ms) = p1 ∧ decide (FewM [q.o]) = p2) := ⟨hp1, hp2⟩
  clear hp1 hp2
  cases p1 with
  | false =>
    go_enter Try.func3, Try.ntmps3
    go_wp2_with (first
      | (go_at_call 7; refine (awake37 _).mono ?_; rintro e w1 ⟨rfl, hb1⟩; have HB1 := Lib.hid (B0.out.trans (hb1.mono B0.out.size)); clear hb1)
      | (go_at_call 8; go_fit (few37_any a n cap hs ms _ (h0.below HB1.out)); rintro e w2 ⟨rfl, hb2⟩; rw [HP.out.1]; have HB2 := Lib.hid (HB1.out.trans (hb2.mono HB1.out.size)); clear hb2))
    go_ret
    exact ⟨rfl, HB2.out⟩
  | true =>
    cases p2 with
    | false =>
      go_enter Try.func3, Try.ntmps3
      go_wp2_with (first
        | (go_at_call 7; refine (awake37 _).mono ?_; rintro e w1 ⟨rfl, hb1⟩; have HB1 : Hid (Below w.heap.size w w1) := B0.out.trans (hb1.mono B0.out.size); have X1 := Lib.hid (box_below X0.out hb1); clear hb1)
        | (go_at_call 8; go_fit (few37_any a n cap hs ms _ (h0.below HB1.out)); rintro e w2 ⟨rfl, hb2⟩; rw [HP.out.1]; have HB2 : Hid (Below w.heap.size w w2) := HB1.out.trans (hb2.mono HB1.out.size); have X2 := Lib.hid (box_below X1.out hb2); have y8 := (box_cell X2.out 8).1; have y9 := (box_cell X2.out 9).1; have y10 := (box_cell X2.out 10).1; have y11 := (box_cell X2.out 11).1; have y12 := (box_cell X2.out 12).1; have y13 := (box_cell X2.out 13).1; have hz := box_lt X2.out; clear hb2)
        | (go_at_call 8; go_fit (few37_any (some ⟨w2.heap.size, 0, none⟩) 1 1 [⟨ha, q.o.rides.length, hc⟩] [q.o] _ (mon_new w2 q.o ⟨ha, q.o.rides.length, hc⟩ (hr.below HB2.out))); rintro e w3 ⟨rfl, hb3⟩; rw [HP.out.2]; have HB3 : Hid (Below w.heap.size w w3) := (HB2.out.alloc HB2.out.size _).trans (hb3.mono (HB2.out.alloc HB2.out.size _).size); clear hb3))
      go_ret
      exact ⟨rfl, HB3.out⟩
    | true =>
      have hf1 : FewM ms := of_decide_eq_true HP.out.1
      have hf2 : FewM [q.o] := of_decide_eq_true HP.out.2
      have hn : n ≤ 20 := by rw [HN.out]; exact hf1.2
      have hl : ∀ m ∈ ms, m.rides.length ≤ 50 := hf1.1
      have hl1 : ∀ m ∈ ms, m.rides.length ≤ 1000000 := fun m hm => by have := hl m hm; omega
      have hl2 : ∀ m ∈ ms, m.rides.length ≤ 100000 := fun m hm => by have := hl m hm; omega
      have hlo : q.o.rides.length ≤ 50 := hf2.1 q.o (by simp)
      clear hf1 hf2
      go_enter Try.func3, Try.ntmps3
      go_upto_region 5 with (first
        | (go_at_call 7; refine (awake37 _).mono ?_; rintro e w1 ⟨rfl, hb1⟩; have HB1 : Hid (Below w.heap.size w w1) := B0.out.trans (hb1.mono B0.out.size); have X1 := Lib.hid (box_below X0.out hb1); clear hb1)
        | (go_at_call 8; go_fit (few37_any a n cap hs ms _ (h0.below HB1.out)); rintro e w2 ⟨rfl, hb2⟩; rw [HP.out.1]; have HB2 : Hid (Below w.heap.size w w2) := HB1.out.trans (hb2.mono HB1.out.size); have X2 := Lib.hid (box_below X1.out hb2); have y8 := (box_cell X2.out 8).1; have y9 := (box_cell X2.out 9).1; have y10 := (box_cell X2.out 10).1; have y11 := (box_cell X2.out 11).1; have y12 := (box_cell X2.out 12).1; have y13 := (box_cell X2.out 13).1; have hz := box_lt X2.out; clear hb2)
        | (go_at_call 8; go_fit (few37_any (some ⟨w2.heap.size, 0, none⟩) 1 1 [⟨ha, q.o.rides.length, hc⟩] [q.o] _ (mon_new w2 q.o ⟨ha, q.o.rides.length, hc⟩ (hr.below HB2.out))); rintro e w3 ⟨rfl, hb3⟩; rw [HP.out.2]; have HB3 : Hid (Below w.heap.size w w3) := (HB2.out.alloc HB2.out.size _).trans (hb3.mono (HB2.out.alloc HB2.out.size _).size); have X3 := Lib.hid (box_below (box_alloc X2.out) hb3); clear hb3 y8 y9 y10 y11 y12 y13 hz))
      obtain ⟨pr, hpr⟩ : ∃ p, decide (RightM ms) = p := ⟨_, rfl⟩
      have HPR := Lib.hid hpr
      clear hpr
      obtain ⟨be, hbe⟩ : ∃ e, begRE ms q.o = e := ⟨_, rfl⟩
      obtain ⟨bl, hbl⟩ : ∃ l, begR ms q.o = l := ⟨_, rfl⟩
      have HBE : Hid (begRE ms q.o = be ∧ begR ms q.o = bl) := ⟨hbe, hbl⟩
      have HBS : Hid (bl.length ≤ 21 ∧ ∀ x ∈ bl, x.rides.length ≤ 1000000) := by
        have := begR_small hl hlo (by rw [← HN.out]; exact hn)
        rwa [hbl] at this
      clear hbe hbl
      go_upto_region 9 with (first
        | (go_at_call 9; go_fit (mright_any a n cap hs ms _ (by omega) hl1 hok (h0.below HB3.out)); rintro e w4 ⟨rfl, hb4⟩; rw [HPR.out]; have HB4 : Hid (Below w.heap.size w w4) := HB3.out.trans (hb4.mono HB3.out.size); have X4 := Lib.hid (box_below X3.out hb4); clear hb4)
        | (go_at_call 10; go_fit (rmright_any a n cap hs ms _ (by omega) hl1 (h0.below HB4.out)); rintro e w5 ⟨rfl, hb5⟩; rw [HPR.out]; have HB5 : Hid (Below w.heap.size w w5) := HB4.out.trans (hb5.mono HB4.out.size); have X5 := Lib.hid (box_below X4.out hb5); have y8 := (box_cell X5.out 8).1; have y9 := (box_cell X5.out 9).1; have y10 := (box_cell X5.out 10).1; have y11 := (box_cell X5.out 11).1; have y12 := (box_cell X5.out 12).1; have y13 := (box_cell X5.out 13).1; have hz := box_lt X5.out; clear hb5)
        | (go_at_call 11; go_fit (mbegin_any a n cap hs ms q.o ⟨ha, q.o.rides.length, hc⟩ _ (by omega) hl1 hok (by omega) hoo (h0.below HB5.out) (hr.below HB5.out)); rintro e w6 ⟨a6, c6, hs6, rfl, hin6, hb6⟩; rw [HBE.out.2] at hin6; rw [HBE.out.1, HBE.out.2]; have HIN6 := Lib.hid hin6; have HB6 : Hid (Below w.heap.size w w6) := HB5.out.trans (hb6.mono HB5.out.size); have X6 := Lib.hid (box_below X5.out hb6); clear hb6 hin6 y8 y9 y10 y11 y12 y13 hz; have y8 := (box_cell X6.out 8).1; have y9 := (box_cell X6.out 9).1; have y10 := (box_cell X6.out 10).1; have y11 := (box_cell X6.out 11).1; have y12 := (box_cell X6.out 12).1; have y13 := (box_cell X6.out 13).1; have hz := box_lt X6.out)
        | (go_at_call 12; go_fit (rmbegin_any a n cap hs ms q.o ⟨ha, q.o.rides.length, hc⟩ _ (by omega) hl1 (by omega) (h0.below HB6.out) (hr.below HB6.out)); rintro e w7 ⟨a7, c7, hs7, rfl, hin7, hb7⟩; rw [HBE.out.2] at hin7; rw [HBE.out.1, HBE.out.2]; have HIN7 := Lib.hid hin7; have HIN67 := Lib.hid (HIN6.out.below hb7); have HB7 : Hid (Below w.heap.size w w7) := HB6.out.trans (hb7.mono HB6.out.size); have X7 := Lib.hid (box_below X6.out hb7); clear hb7 hin7 y8 y9 y10 y11 y12 y13 hz))
      have zbe : (be != be) = false := by simp
      go_upto_block 0 with (go_at_call 13; go_fit (rmsame_eq a6 bl.length c6 hs6 a7 c7 hs7 bl _ (by have := HBS.out.1; omega) HBS.out.2 HIN67.out HIN7.out); rintro e w8 ⟨rfl, hb8⟩; have HB8 : Hid (Below w.heap.size w w8) := HB7.out.trans (hb8.mono HB7.out.size); have X8 := Lib.hid (box_below X7.out hb8); clear hb8)
      go_cut [] (fun wx => Hid (Below w8.heap.size w8 wx))
      case first =>
        go_wp2_with fail
        go_loopw [9] (fun i wr => ∃ k : Nat, i = .int .i64 k ∧ 1 ≤ k ∧ k ≤ 4 ∧ Hid (Below w8.heap.size w8 wr)) (fun i _ => 4 - (intOf i).toNat)
        case atStart => exact ⟨1, rfl, by omega, by omega, Below.refl _ _⟩
        case round =>
          obtain ⟨k, rfl, hk1, hk4, hB⟩ := hrel
          have XR := Lib.hid (box_below X8.out hB.out)
          have HBR : Hid (Below w.heap.size w wr) := HB8.out.trans (hB.out.mono HB8.out.size)
          have y0 := (box_cell XR.out 0).1
          have y1 := (box_cell XR.out 1).1
          have y2 := (box_cell XR.out 2).1
          have y3 := (box_cell XR.out 3).1
          have y4 := (box_cell XR.out 4).1
          have y5 := (box_cell XR.out 5).1
          have y6 := (box_cell XR.out 6).1
          have y7 := (box_cell XR.out 7).1
          have hzr := box_lt XR.out
          have hcase : k = 1 ∨ k = 2 ∨ k = 3 ∨ k = 4 := by omega
          rcases hcase with rfl | rfl | rfl | rfl
          · obtain ⟨te, hte⟩ : ∃ e, turnE 1 ms q.A q.M q.r = e := ⟨_, rfl⟩
            obtain ⟨tl, htl⟩ : ∃ l, turnR 1 ms q.A q.M q.r = l := ⟨_, rfl⟩
            have HTE : Hid (turnE 1 ms q.A q.M q.r = te ∧ turnR 1 ms q.A q.M q.r = tl) := ⟨hte, htl⟩
            have HTS : Hid (tl.length ≤ 20 ∧ ∀ x ∈ tl, x.rides.length ≤ 1000000) := by
              have := turnR_small (k := 1) (A := q.A) (M := q.M) (r := q.r) hl (by rw [← HN.out]; exact hn)
              rwa [htl] at this
            clear hte htl
            have zte : (te != te) = false := by simp
            go_wp2_with (first
              | (go_at_call 14; go_fit (madd_any a n cap hs ms q.A q.M q.r _ (by omega) hl2 hok hro (h0.below HBR.out)); rintro e w9 ⟨v9, rfl, hq9, hb9⟩; rw [HTE.out.2] at hq9; rw [HTE.out.1]; obtain ⟨a9, c9, hs9, rfl, hin9⟩ := hq9; have HIN9 := Lib.hid hin9; have HB9 : Hid (Below w.heap.size w w9) := HBR.out.trans (hb9.mono HBR.out.size); have HB89 : Hid (Below w8.heap.size w8 w9) := hB.out.trans (hb9.mono hB.out.size); have X9 := Lib.hid (box_below XR.out hb9); clear hb9 hin9 y0 y1 y2 y3 y4 y5 y6 y7 hzr; have y0 := (box_cell X9.out 0).1; have y1 := (box_cell X9.out 1).1; have y2 := (box_cell X9.out 2).1; have y3 := (box_cell X9.out 3).1; have y4 := (box_cell X9.out 4).1; have y5 := (box_cell X9.out 5).1; have y6 := (box_cell X9.out 6).1; have y7 := (box_cell X9.out 7).1; have hzr := box_lt X9.out)
              | (go_at_call 17; go_fit (rturn_any 1 a n cap hs ms q.A q.M q.r _ (by omega) (by omega) hl2 (h0.below HB9.out)); rintro e w10 ⟨v10, rfl, hq10, hb10⟩; rw [HTE.out.2] at hq10; rw [HTE.out.1]; obtain ⟨a10, c10, hs10, rfl, hin10⟩ := hq10; have HIN10 := Lib.hid hin10; have HIN910 := Lib.hid (HIN9.out.below hb10); have HB10 : Hid (Below w8.heap.size w8 w10) := HB89.out.trans (hb10.mono HB89.out.size); clear hb10 hin10)
              | (go_at_call 13; go_fit (rmsame_eq a9 tl.length c9 hs9 a10 c10 hs10 tl _ (by have := HTS.out.1; omega) HTS.out.2 HIN910.out HIN10.out); rintro e w11 ⟨rfl, hb11⟩; have HB11 : Hid (Below w8.heap.size w8 w11) := HB10.out.trans (hb11.mono HB10.out.size); clear hb11))
            go_roundw
            case rel => exact ⟨2, rfl, by omega, by omega, HB11.out⟩
            case measure => simp [intOf]
          · obtain ⟨te, hte⟩ : ∃ e, turnE 2 ms q.A q.M q.r = e := ⟨_, rfl⟩
            obtain ⟨tl, htl⟩ : ∃ l, turnR 2 ms q.A q.M q.r = l := ⟨_, rfl⟩
            have HTE : Hid (turnE 2 ms q.A q.M q.r = te ∧ turnR 2 ms q.A q.M q.r = tl) := ⟨hte, htl⟩
            have HTS : Hid (tl.length ≤ 20 ∧ ∀ x ∈ tl, x.rides.length ≤ 1000000) := by
              have := turnR_small (k := 2) (A := q.A) (M := q.M) (r := q.r) hl (by rw [← HN.out]; exact hn)
              rwa [htl] at this
            clear hte htl
            have zte : (te != te) = false := by simp
            go_wp2_with (first
              | (go_at_call 15; go_fit (mchange_any a n cap hs ms q.A q.M q.r _ (by omega) hl2 hok hro (h0.below HBR.out)); rintro e w9 ⟨v9, rfl, hq9, hb9⟩; rw [HTE.out.2] at hq9; rw [HTE.out.1]; obtain ⟨a9, c9, hs9, rfl, hin9⟩ := hq9; have HIN9 := Lib.hid hin9; have HB9 : Hid (Below w.heap.size w w9) := HBR.out.trans (hb9.mono HBR.out.size); have HB89 : Hid (Below w8.heap.size w8 w9) := hB.out.trans (hb9.mono hB.out.size); have X9 := Lib.hid (box_below XR.out hb9); clear hb9 hin9 y0 y1 y2 y3 y4 y5 y6 y7 hzr; have y0 := (box_cell X9.out 0).1; have y1 := (box_cell X9.out 1).1; have y2 := (box_cell X9.out 2).1; have y3 := (box_cell X9.out 3).1; have y4 := (box_cell X9.out 4).1; have y5 := (box_cell X9.out 5).1; have y6 := (box_cell X9.out 6).1; have y7 := (box_cell X9.out 7).1; have hzr := box_lt X9.out)
              | (go_at_call 17; go_fit (rturn_any 2 a n cap hs ms q.A q.M q.r _ (by omega) (by omega) hl2 (h0.below HB9.out)); rintro e w10 ⟨v10, rfl, hq10, hb10⟩; rw [HTE.out.2] at hq10; rw [HTE.out.1]; obtain ⟨a10, c10, hs10, rfl, hin10⟩ := hq10; have HIN10 := Lib.hid hin10; have HIN910 := Lib.hid (HIN9.out.below hb10); have HB10 : Hid (Below w8.heap.size w8 w10) := HB89.out.trans (hb10.mono HB89.out.size); clear hb10 hin10)
              | (go_at_call 13; go_fit (rmsame_eq a9 tl.length c9 hs9 a10 c10 hs10 tl _ (by have := HTS.out.1; omega) HTS.out.2 HIN910.out HIN10.out); rintro e w11 ⟨rfl, hb11⟩; have HB11 : Hid (Below w8.heap.size w8 w11) := HB10.out.trans (hb11.mono HB10.out.size); clear hb11))
            go_roundw
            case rel => exact ⟨3, rfl, by omega, by omega, HB11.out⟩
            case measure => simp [intOf]
          · obtain ⟨te, hte⟩ : ∃ e, turnE 3 ms q.A q.M q.r = e := ⟨_, rfl⟩
            obtain ⟨tl, htl⟩ : ∃ l, turnR 3 ms q.A q.M q.r = l := ⟨_, rfl⟩
            have HTE : Hid (turnE 3 ms q.A q.M q.r = te ∧ turnR 3 ms q.A q.M q.r = tl) := ⟨hte, htl⟩
            have HTS : Hid (tl.length ≤ 20 ∧ ∀ x ∈ tl, x.rides.length ≤ 1000000) := by
              have := turnR_small (k := 3) (A := q.A) (M := q.M) (r := q.r) hl (by rw [← HN.out]; exact hn)
              rwa [htl] at this
            clear hte htl
            have zte : (te != te) = false := by simp
            go_wp2_with (first
              | (go_at_call 16; go_fit (mclose_any a n cap hs ms q.A q.M q.r _ (by omega) hl2 hok (h0.below HBR.out)); rintro e w9 ⟨v9, rfl, hq9, hb9⟩; rw [HTE.out.2] at hq9; rw [HTE.out.1]; obtain ⟨a9, c9, hs9, rfl, hin9⟩ := hq9; have HIN9 := Lib.hid hin9; have HB9 : Hid (Below w.heap.size w w9) := HBR.out.trans (hb9.mono HBR.out.size); have HB89 : Hid (Below w8.heap.size w8 w9) := hB.out.trans (hb9.mono hB.out.size); have X9 := Lib.hid (box_below XR.out hb9); clear hb9 hin9 y0 y1 y2 y3 y4 y5 y6 y7 hzr; have y0 := (box_cell X9.out 0).1; have y1 := (box_cell X9.out 1).1; have y2 := (box_cell X9.out 2).1; have y3 := (box_cell X9.out 3).1; have y4 := (box_cell X9.out 4).1; have y5 := (box_cell X9.out 5).1; have y6 := (box_cell X9.out 6).1; have y7 := (box_cell X9.out 7).1; have hzr := box_lt X9.out)
              | (go_at_call 17; go_fit (rturn_any 3 a n cap hs ms q.A q.M q.r _ (by omega) (by omega) hl2 (h0.below HB9.out)); rintro e w10 ⟨v10, rfl, hq10, hb10⟩; rw [HTE.out.2] at hq10; rw [HTE.out.1]; obtain ⟨a10, c10, hs10, rfl, hin10⟩ := hq10; have HIN10 := Lib.hid hin10; have HIN910 := Lib.hid (HIN9.out.below hb10); have HB10 : Hid (Below w8.heap.size w8 w10) := HB89.out.trans (hb10.mono HB89.out.size); clear hb10 hin10)
              | (go_at_call 13; go_fit (rmsame_eq a9 tl.length c9 hs9 a10 c10 hs10 tl _ (by have := HTS.out.1; omega) HTS.out.2 HIN910.out HIN10.out); rintro e w11 ⟨rfl, hb11⟩; have HB11 : Hid (Below w8.heap.size w8 w11) := HB10.out.trans (hb11.mono HB10.out.size); clear hb11))
            go_roundw
            case rel => exact ⟨4, rfl, by omega, by omega, HB11.out⟩
            case measure => simp [intOf]
          · go_wp2_with fail
            go_meet
            exact hB.out
      have HBC : Hid (Below w.heap.size w wc) := HB8.out.trans (hcut.out.mono HB8.out.size)
      have XC := Lib.hid (box_below X8.out hcut.out)
      have hsc := HBC.out.size
      have y0 := (box_cell XC.out 0).1
      have y1 := (box_cell XC.out 1).1
      have y2 := (box_cell XC.out 2).1
      have y3 := (box_cell XC.out 3).1
      have hzc := box_lt XC.out
      obtain ⟨F, hF⟩ : ∃ F, findM ms q.A q.M = F := ⟨_, rfl⟩
      have HF := Lib.hid hF
      clear hF
      obtain ⟨bk, hbk⟩ : ∃ b, decide (0 ≤ F) = b := ⟨_, rfl⟩
      have HBK := Lib.hid hbk
      have HFI : Hid (Calls Try.prog 18 #[.slice a n cap, .int .i64 q.A, .int .i64 q.M] wc fun e w' => ∃ (m : Mon) (g : Hdr), e = .returned (.tuple #[.agg #[.int .i64 m.a, .int .i64 m.m, .int .i64 m.t, .int .i64 m.c, .slice g.a g.n g.cap, .bool m.z], .bool bk]) ∧ (bk = true → ∃ k : Nat, F = k ∧ ms[k]? = some m ∧ Sl Ride.cod w' g.a g.n g.cap m.rides) ∧ Below wc.heap.size wc w') := by
        refine (mfind2_any a n cap hs ms q.A q.M wc (by omega) hl1 (h0.below HBC.out)).mono ?_
        rintro e w' ⟨h1, h2⟩
        rcases h1 with ⟨h3, rfl⟩ | ⟨k, m, g, h1, h3, -, rfl, h5⟩
        · rw [HF.out] at h3
          have e1 : bk = false := by rw [← HBK.out]; exact decide_eq_false (by omega)
          subst e1
          exact ⟨⟨0, 0, 0, 0, [], false⟩, ⟨none, 0, 0⟩, rfl, (fun z => by cases z), h2⟩
        · rw [HF.out] at h1
          have e1 : bk = true := by rw [← HBK.out]; exact decide_eq_true (by omega)
          subst e1
          exact ⟨m, g, rfl, fun _ => ⟨k, h1, h3, h5⟩, h2⟩
      clear hbk
      go_upto_region 27 with (first
        | (go_at_call 18; refine HFI.out.mono ?_; rintro e w9 ⟨m, g, rfl, hk9, hb9⟩; have HK9 := Lib.hid hk9; have HB9 : Hid (Below w.heap.size w w9) := HBC.out.trans (hb9.mono hsc); have X9 := Lib.hid (box_below XC.out hb9); clear hb9 hk9 y0 y1 y2 y3 hzc; have y0 := (box_cell X9.out 0).1; have y1 := (box_cell X9.out 1).1; have y2 := (box_cell X9.out 2).1; have y3 := (box_cell X9.out 3).1; have hzc := box_lt X9.out)
        | (go_at_call 19; go_fit (rmfind_any a n cap hs ms q.A q.M _ (by omega) (h0.below (HB9.out.alloc HB9.out.size _))); rintro e w10 ⟨rfl, rfl⟩; rw [HF.out]))
      have XM : Hid ((w9.alloc (.cells #[.int .i64 m.a, .int .i64 m.m, .int .i64 m.t, .int .i64 m.c, .slice g.a g.n g.cap, .bool m.z] 27)).heap[w9.heap.size]? = some (.cells #[.int .i64 m.a, .int .i64 m.m, .int .i64 m.t, .int .i64 m.c, .slice g.a g.n g.cap, .bool m.z] 27 (0, 0))) := box_new w9 _
      have HBM : Hid (Below w.heap.size w (w9.alloc (.cells #[.int .i64 m.a, .int .i64 m.m, .int .i64 m.t, .int .i64 m.c, .slice g.a g.n g.cap, .bool m.z] 27))) := HB9.out.alloc HB9.out.size _
      have XA := Lib.hid (box_alloc X9.out (o := .cells #[.int .i64 m.a, .int .i64 m.m, .int .i64 m.t, .int .i64 m.c, .slice g.a g.n g.cap, .bool m.z] 27))
      have HKM : Hid (bk = true → ∃ k : Nat, F = k ∧ ms[k]? = some m ∧ Sl Ride.cod (w9.alloc (.cells #[.int .i64 m.a, .int .i64 m.m, .int .i64 m.t, .int .i64 m.c, .slice g.a g.n g.cap, .bool m.z] 27)) g.a g.n g.cap m.rides) := fun z => by
        obtain ⟨k, h1, h2, h3⟩ := HK9.out z
        exact ⟨k, h1, h2, h3.below ((Below.refl _ _).alloc (Nat.le_refl _) _)⟩
      obtain ⟨W, hW⟩ : ∃ W, w9.alloc (.cells #[.int .i64 m.a, .int .i64 m.m, .int .i64 m.t, .int .i64 m.c, .slice g.a g.n g.cap, .bool m.z] 27) = W := ⟨_, rfl⟩
      rw [hW] at XM HBM XA HKM ⊢
      clear hW y0 y1 y2 y3 hzc
      obtain ⟨z0, z1, z2, z3, z4, z5⟩ := box6_cells XM.out
      have hzm := box_lt XM.out
      go_cut [152] (fun v wx => v = .bool false ∧ Hid (Below W.heap.size W wx))
      case first =>
        cases bk with
        | false =>
          have d1 : decide (0 ≤ F) = false := HBK.out
          clear z0 z1 z2 z3 z4 z5
          refine wp_region_quiet_below (by assumption) (by kernel_rfl) ?_
          repeat (go_big_quiet_step (fail))
          refine wpQuiet_nil ?_
          intro w8' hw8
          obtain ⟨⟨nd, osq⟩, rfl⟩ := hw8
          have HB8' := Lib.hid (below_regrown W nd osq)
          generalize Go.Sort.grow (redrawn W nd) osq = w12 at HB8' ⊢
          go_wp2_with fail
          go_meet
          exact ⟨rfl, HB8'.out⟩
        | true =>
          obtain ⟨k, hk1, hk2, hk3⟩ := HKM.out rfl
          subst hk1
          have hkn : k < n := by rw [HN.out]; exact (List.getElem?_eq_some_iff.1 hk2).1
          obtain ⟨b, off, at_, ct, m', rfl, hbb, hm', hh', -, hrd⟩ := (h0.below HBM.out).at hkn
          have := hm'.symm.trans hk2
          cases this
          obtain ⟨ga, gn, gc⟩ := g
          obtain rfl : gn = m.rides.length := hk3.hlen
          have hcap := h0.hd.hcap
          have d1 : decide ((0 : Int) ≤ (k : Int)) = true := decide_eq_true (by omega)
          have b1 : (k : Int) ≤ (n : Int) := by omega
          have b2 : (k : Int) + 1 ≤ (n : Int) := by omega
          have b3 : (k : Int) + 1 ≤ (cap : Int) := by omega
          have b4 : IntKind.i64.wrap ((k : Int) + 1) = (k : Int) + 1 := by rw [IntKind.wrap_i64]; omega
          have b5 : ((k : Int) + 1).toNat = k + 1 := by omega
          have b6 : ¬ (cap = k) := by omega
          have b7 : (0 : Int) ≤ (k : Int) + 1 := by omega
          have b8 : (k : Int) ≤ (k : Int) + 1 := by omega
          have HPC : Hid (∀ W', Below w.heap.size w W' → MonIn W' (some ⟨b, off + k * 6, none⟩) 1 (cap - k) [⟨at_, m.rides.length, ct⟩] [m]) := fun W' hb => (h0.below hb).one hk2 hh'
          have HL50 := Lib.hid (hl1 m (List.mem_of_getElem? hk2))
          have HKN := Lib.hid hkn
          have HG := Lib.hid hk3
          clear hk2 hm' hrd hk3 hkn
          go_region_held3 (fun wx => wx.cell? ⟨w9.heap.size, 0, none⟩ = some (.int .i64 m.a) ∧ wx.cell? ⟨w9.heap.size, 1, none⟩ = some (.int .i64 m.m) ∧ wx.cell? ⟨w9.heap.size, 2, none⟩ = some (.int .i64 m.t) ∧ wx.cell? ⟨w9.heap.size, 3, none⟩ = some (.int .i64 m.c) ∧ wx.cell? ⟨w9.heap.size, 4, none⟩ = some (.slice ga m.rides.length gc) ∧ wx.cell? ⟨w9.heap.size, 5, none⟩ = some (.bool m.z)) (first | (exact box6_cells XM12.out) | go_keep) (first
            | (go_at_call 13; go_fit (rmsame_eq (some ⟨W.heap.size, 0, none⟩) 1 1 [⟨ga, m.rides.length, gc⟩] (some ⟨b, off + k * 6, none⟩) (cap - k) [⟨at_, m.rides.length, ct⟩] [m] (W.alloc (.cells #[.int .i64 m.a, .int .i64 m.m, .int .i64 m.t, .int .i64 m.c, .slice ga m.rides.length gc, .bool m.z] 27)).drew (by omega) (fun x hx => by simp at hx; subst hx; exact HL50.out) ((mon_new W m ⟨ga, m.rides.length, gc⟩ HG.out).below (Below.drew (Below.refl _ _))) (HPC.out _ (Below.drew (HBM.out.alloc HBM.out.size _)))); rintro e w12 ⟨rfl, hb12⟩; have HB12 : Hid (Below W.heap.size W w12) := (Below.drew ((Below.refl _ _).alloc (Nat.le_refl _) _)).trans (hb12.mono (by show _ ≤ (W.alloc _).heap.size; simp)); have XM12 := Lib.hid (box_below XM.out HB12.out); clear hb12))
          all_goals
            go_wp2_with fail
            go_meet
            exact ⟨rfl, HB12.out⟩
      obtain ⟨rfl, HBX⟩ := hcut
      have HBZ : Hid (Below w.heap.size w wc) := HBM.out.trans (HBX.out.mono HBM.out.size)
      have XT := Lib.hid (box_below XA.out HBX.out)
      have y2 := (box_cell XT.out 2).1
      have y3 := (box_cell XT.out 3).1
      have hzt := box_lt XT.out
      by_cases t1 : q.T < 0
      · have e0 : decide (q.T < 0) = true := decide_eq_true t1
        have HOF : Hid (ofV q.T q.S = 0 ∧ ofE q.T q.S = 2) := by
          have e1 : ofE q.T q.S = 2 := by unfold ofE; rw [if_neg (fun z => by omega)]
          exact ⟨by unfold ofV; rw [e1]; rfl, e1⟩
        go_wp2_with (go_at_call 20; refine (mof_any q.T q.S _).mono ?_; rintro e w13 ⟨rfl, rfl⟩; rw [HOF.out.1, HOF.out.2])
        go_ret
        exact ⟨rfl, HBZ.out⟩
      have f1 : decide (q.T < 0) = false := decide_eq_false t1
      by_cases t2 : 1099511627776 < q.T
      · have e0 : decide (1099511627776 < q.T) = true := decide_eq_true t2
        have HOF : Hid (ofV q.T q.S = 0 ∧ ofE q.T q.S = 2) := by
          have e1 : ofE q.T q.S = 2 := by unfold ofE; rw [if_neg (fun z => by omega)]
          exact ⟨by unfold ofV; rw [e1]; rfl, e1⟩
        go_wp2_with (go_at_call 20; refine (mof_any q.T q.S _).mono ?_; rintro e w13 ⟨rfl, rfl⟩; rw [HOF.out.1, HOF.out.2])
        go_ret
        exact ⟨rfl, HBZ.out⟩
      have f2 : decide (1099511627776 < q.T) = false := decide_eq_false t2
      by_cases t3 : q.S < 1
      · have e0 : decide (q.S < 1) = true := decide_eq_true t3
        have HOF : Hid (ofV q.T q.S = 0 ∧ ofE q.T q.S = 2) := by
          have e1 : ofE q.T q.S = 2 := by unfold ofE; rw [if_neg (fun z => by omega)]
          exact ⟨by unfold ofV; rw [e1]; rfl, e1⟩
        go_wp2_with (go_at_call 20; refine (mof_any q.T q.S _).mono ?_; rintro e w13 ⟨rfl, rfl⟩; rw [HOF.out.1, HOF.out.2])
        go_ret
        exact ⟨rfl, HBZ.out⟩
      have f3 : decide (q.S < 1) = false := decide_eq_false t3
      by_cases t4 : 1099511627776 < q.S
      · have e0 : decide (1099511627776 < q.S) = true := decide_eq_true t4
        have HOF : Hid (ofV q.T q.S = 0 ∧ ofE q.T q.S = 2) := by
          have e1 : ofE q.T q.S = 2 := by unfold ofE; rw [if_neg (fun z => by omega)]
          exact ⟨by unfold ofV; rw [e1]; rfl, e1⟩
        go_wp2_with (go_at_call 20; refine (mof_any q.T q.S _).mono ?_; rintro e w13 ⟨rfl, rfl⟩; rw [HOF.out.1, HOF.out.2])
        go_ret
        exact ⟨rfl, HBZ.out⟩
      have f4 : decide (1099511627776 < q.S) = false := decide_eq_false t4
      have q1 : q.T.tdiv q.S = q.T / q.S := Int.tdiv_eq_ediv_of_nonneg (by omega)
      have q2 : 0 ≤ q.T / q.S ∧ q.T / q.S ≤ q.T := ⟨Int.ediv_nonneg (by omega) (by omega), Int.ediv_le_self _ (by omega)⟩
      have q3 : q.T / q.S * q.S ≤ q.T := Int.ediv_mul_le _ (by omega)
      have q4 : q.T - q.T / q.S * q.S < q.S := by
        have := Int.emod_lt_of_pos q.T (show 0 < q.S by omega)
        rw [Int.emod_def, Int.mul_comm] at this
        exact this
      have q5 : 0 ≤ q.T / q.S * q.S := Int.mul_nonneg q2.1 (by omega)
      have z1 : (q.S == 0) = false := by simp; omega
      have z2 : ¬ q.S = 0 := by omega
      by_cases t5 : 1048576 < q.T / q.S
      · have HOF : Hid (ofV q.T q.S = 0 ∧ ofE q.T q.S = 3) := by
          have e1 : ofE q.T q.S = 3 := by unfold ofE; rw [if_pos ⟨by omega, by omega, by omega, by omega⟩, if_pos t5]
          exact ⟨by unfold ofV; rw [e1]; rfl, e1⟩
        obtain ⟨d, hd⟩ : ∃ d, q.T / q.S = d := ⟨_, rfl⟩
        rw [hd] at q1 q2 t5
        have r1 : IntKind.i64.wrap d = d := by rw [IntKind.wrap_i64]; omega
        have e0 : decide (1048576 < d) = true := decide_eq_true t5
        clear hd q3 q4 q5
        go_wp2_with (go_at_call 20; refine (mof_any q.T q.S _).mono ?_; rintro e w13 ⟨rfl, rfl⟩; rw [HOF.out.1, HOF.out.2])
        go_ret
        exact ⟨rfl, HBZ.out⟩
      · have HOF : Hid (ofV q.T q.S = q.T / q.S ∧ ofE q.T q.S = 0) := by
          have e1 : ofE q.T q.S = 0 := by unfold ofE; rw [if_pos ⟨by omega, by omega, by omega, by omega⟩, if_neg t5]
          exact ⟨by unfold ofV; rw [if_pos e1], e1⟩
        obtain ⟨d, hd⟩ : ∃ d, q.T / q.S = d := ⟨_, rfl⟩
        rw [hd] at q1 q2 t5 q3 q4 q5 HOF
        obtain ⟨p, hp⟩ : ∃ p, d * q.S = p := ⟨_, rfl⟩
        rw [hp] at q3 q4 q5
        have r1 : IntKind.i64.wrap d = d := by rw [IntKind.wrap_i64]; omega
        have r2 : IntKind.i64.wrap (d * q.S) = p := by rw [hp, IntKind.wrap_i64]; omega
        have r3 : IntKind.i64.wrap (q.T - p) = q.T - p := by rw [IntKind.wrap_i64]; omega
        have e0 : decide (1048576 < d) = false := decide_eq_false t5
        have e2 : decide (p ≤ q.T) = true := decide_eq_true q3
        have e3 : decide (q.T - p < q.S) = true := decide_eq_true q4
        clear hd
        go_wp2_with (go_at_call 20; refine (mof_any q.T q.S _).mono ?_; rintro e w13 ⟨rfl, rfl⟩; rw [HOF.out.1, HOF.out.2])
        go_ret
        exact ⟨rfl, HBZ.out⟩
end Go.Proofs.Ytbdkhgenkekioaa

namespace Go.V
open Go.RowKit Go.ChangeShapes Go.WideShapes Go.ChangeAt

theorem add_addr' (b off j : Nat) : (⟨b, off, none⟩ : Addr).add j = ⟨b, off + j, none⟩ := add_addr b off j

/-- A slice argument's address, as it must be. -/
theorem okWide_addr {P : Program} {w : World} {r : Reach} {base : Nat} {t e : TypeId} {d : Addr} {n cap : Nat} (ht : P.underlying t = some (.slice e)) (h : Value.okWide P w r base t (.slice (some d) n cap)) : d.spot = none ∧ d.block < w.heap.size := by
  simp only [Value.okWide, ht, Cell.okWide, Cell.ok, World.has] at h
  obtain ⟨-, -, -, h1, row, cells, h2, -⟩ := h
  refine ⟨h1, ?_⟩
  unfold World.shape? at h2
  split at h2
  · next hh => exact (Array.getElem?_eq_some_iff.1 hh).1
  · cases h2

theorem list_of {α : Type} {p : Nat → α → Prop} : ∀ n, (∀ i, i < n → ∃ x, p i x) → ∃ xs : List α, xs.length = n ∧ ∀ i x, xs[i]? = some x → p i x
  | 0, _ => ⟨[], rfl, fun i x hx => by simp at hx⟩
  | n + 1, h => by
    obtain ⟨xs, h1, h2⟩ := list_of n (fun i hi => h i (by omega))
    obtain ⟨x, hx⟩ := h n (by omega)
    refine ⟨xs ++ [x], by simp [h1], fun i y hy => ?_⟩
    by_cases hi : i < n
    · rw [List.getElem?_append_left (by omega)] at hy; exact h2 i y hy
    · have hl := (List.getElem?_eq_some_iff.1 hy).1
      simp at hl
      have : i = n := by omega
      subst this
      rw [List.getElem?_append_right (by omega)] at hy
      simp [h1] at hy; subst hy; exact hx

theorem open_sl {α : Type} {c : Cod α} {ok : α → Prop} {H : Type} {enc : TypeId × Value → H} {P : Program} {w : World} {b0 base : Nat} {spare : Nat → Bool} {held : Bool} {t e : TypeId} {v : Value} {d : DataW H} {ps : List MemPlace} (ht : P.underlying t = some (.slice e)) (hc : P.cellsOf e = c.k)
    (hel : ∀ n cs y, DataW.trod enc P w b0 spare held n e cs = some y → ∃ x, cs = c.enc x ∧ ok x)
    (hval : Value.okWide P w .any base t v) (h : DataW.Trod enc P w b0 spare held t v d ps) : ∃ a n cap xs, v = .slice a n cap ∧ Sl c w a n cap xs ∧ ∀ x ∈ xs, ok x := by
  obtain ⟨a, n, cap, rfl⟩ := okWide_slice ht hval
  obtain ⟨fuel, hf⟩ := h
  rcases Go.Deep.open_slice ht hf with ⟨hcs, _⟩ | ⟨d, n', cap', m, _, D, Pl, hcs, -, hl, hm, hmm, -, hx⟩
  · simp [Value.cells] at hcs
    obtain ⟨rfl, rfl, rfl⟩ := hcs
    exact ⟨none, 0, 0, [], rfl, ⟨rfl, Nat.le_refl _, by unfold maxLen; omega, fun _ => ⟨rfl, rfl⟩, fun d hd => nomatch hd⟩, fun x hx => by simp at hx⟩
  · simp [Value.cells] at hcs
    obtain ⟨rfl, rfl, rfl⟩ := hcs
    obtain ⟨hs, hb⟩ := okWide_addr ht hval
    obtain ⟨b, off, sp⟩ := d
    change sp = none at hs
    subst hs
    have hle : n ≤ m := by rw [hmm]; split <;> omega
    have hx' : ∀ i, i < n → ∃ x, ok x ∧ ∀ j u, (c.enc x)[j]? = some u → w.cell? ⟨b, off + i * c.k + j, none⟩ = some u := by
      intro i hi
      obtain ⟨cs', h1, h2⟩ := hx i (by omega)
      obtain ⟨x, rfl, hok⟩ := hel _ _ _ h2
      refine ⟨x, hok, fun j u hu => ?_⟩
      have hj : j < c.k := by rw [← c.len x]; exact (List.getElem?_eq_some_iff.1 hu).1
      rw [hc, add_addr] at h1
      obtain ⟨_, _, h4⟩ := World.cells?_some h1
      have h5 := h4 j (by simpa [hc] using hj)
      rw [add_addr] at h5
      rw [h5]; exact hu
    obtain ⟨xs, hl1, hl2⟩ := list_of n hx'
    refine ⟨some ⟨b, off, none⟩, n, cap, xs, rfl, ⟨hl1.symm, hl, hm, (fun hd => nomatch hd), fun d hd _ => ?_⟩, fun x hx => ?_⟩
    · simp at hd; subst hd
      refine ⟨rfl, hb, fun j u hu => ?_⟩
      have hj : j < n * c.k := by have := (List.getElem?_eq_some_iff.1 hu).1; rw [flat_len, hl1] at this; exact this
      have hk : 0 < c.k := by rcases Nat.eq_zero_or_pos c.k with e | e; rw [e] at hj; omega; exact e
      have f1 := flat_get c xs (j / c.k) (j % c.k) (Nat.mod_lt _ hk)
      have f3 : j / c.k * c.k + j % c.k = j := by rw [Nat.mul_comm]; exact Nat.div_add_mod j c.k
      rw [f3, hu] at f1
      obtain ⟨x, g1, g2⟩ := Option.bind_eq_some_iff.1 f1.symm
      have := (hl2 _ _ g1).2 _ _ g2
      show w.cell? ⟨b, off + j, none⟩ = _
      rw [Nat.add_assoc, f3] at this
      exact this
    · obtain ⟨i, hi⟩ := List.mem_iff_getElem?.1 hx
      exact (hl2 i x hi).1
/-- An array of two numbers. -/
theorem open_i2 {H : Type} {enc : TypeId × Value → H} {P : Program} {w : World} {b0 base : Nat} {spare : Nat → Bool} {held : Bool} {t e : TypeId} {v : Value} {d : DataW H} {ps : List MemPlace} (ht : P.underlying t = some (.array 2 e)) (he : P.underlying e = some (.int .i64)) (hc : P.cellsOf t = 2) (hc1 : P.cellsOf e = 1)
    (hval : Value.okWide P w .any base t v) (h : DataW.Trod enc P w b0 spare held t v d ps) : ∃ p q : Int, v = .agg #[.int .i64 p, .int .i64 q] := by
  simp only [Value.okWide, ht] at hval
  obtain ⟨cs, rfl, hs, -⟩ := hval
  obtain ⟨fuel, hf⟩ := h
  obtain ⟨xs, m, -, -, hl, hxl, hx⟩ := DataW.trod_array ht hf
  obtain ⟨l⟩ := cs
  rw [hc] at hs
  match l, hs with
  | [v0, v1], _ =>
    have h0 := hx 0 (by omega)
    have h1 := hx 1 (by omega)
    match xs, hxl with
    | [y0, y1], _ =>
      simp [Value.cells, hc1] at h0 h1
      obtain ⟨n0, e0, -, w0⟩ := DataW.trod_int he h0
      obtain ⟨n1, e1, -, w1⟩ := DataW.trod_int he h1
      simp at e0 e1
      subst e0; subst e1
      exact ⟨n0, n1, rfl⟩
end Go.V

namespace Go.V
open Go.RowKit Go.ChangeShapes Go.WideShapes Go.ChangeAt
/-- A slice within an argument, all of whose room is read. -/
theorem trod_sl {α : Type} {c : Cod α} {ok : α → Prop} {H : Type} {enc : TypeId × Value → H} {P : Program} {w : World} {b0 : Nat} {spare : Nat → Bool} {held : Bool} {t e : TypeId} {n : Nat} {cs : List Value} {y : DataW H × List MemPlace} (hsp : ∀ b, spare b = true) (ht : P.underlying t = some (.slice e)) (hc : P.cellsOf e = c.k) (hk : 0 < c.k)
    (hel : ∀ n cs y, DataW.trod enc P w b0 spare held n e cs = some y → ∃ x, cs = c.enc x ∧ ok x) (h : DataW.trod enc P w b0 spare held n t cs = some y) : ∃ (a : Option Addr) (l r : Nat) (xs : List α), cs = [.slice a l r] ∧ Sl c w a l r xs ∧ ∀ x ∈ xs, ok x := by
  rcases Go.Deep.open_slice ht h with ⟨hcs, _⟩ | ⟨d, n, cap, m, _, D, Pl, hcs, -, hl, hm, hmm, -, hx⟩
  · exact ⟨none, 0, 0, [], hcs, ⟨rfl, Nat.le_refl _, Nat.zero_le _, fun _ => ⟨rfl, rfl⟩, fun d hd => nomatch hd⟩, fun x hx => by simp at hx⟩
  · rw [hsp, if_pos rfl] at hmm
    subst hmm
    by_cases h0 : 0 < m
    · obtain ⟨cs0, h1, h2⟩ := hx 0 h0
      obtain ⟨x0, rfl, -⟩ := hel _ _ _ h2
      obtain ⟨_, hl0, h4⟩ := World.cells?_some h1
      have h5 := h4 0 (by rw [hc]; exact hk)
      obtain ⟨u0, hu0⟩ : ∃ u, (c.enc x0)[0]? = some u := ⟨_, List.getElem?_eq_getElem (by rw [c.len]; exact hk)⟩
      rw [hu0] at h5
      obtain ⟨b, off, sp⟩ := d
      have hs : sp = none := by simpa [Addr.add] using World.cell?_spot h5
      subst hs
      have hb : b < w.heap.size := by have := World.block_lt_of_cell? w _ h5; simpa [Addr.add] using this
      have hx' : ∀ i, i < n → ∃ x, ok x ∧ ∀ j u, (c.enc x)[j]? = some u → w.cell? ⟨b, off + i * c.k + j, none⟩ = some u := by
        intro i hi
        obtain ⟨cs', h1, h2⟩ := hx i (by omega)
        obtain ⟨x, rfl, hok⟩ := hel _ _ _ h2
        refine ⟨x, hok, fun j u hu => ?_⟩
        have hj : j < c.k := by rw [← c.len x]; exact (List.getElem?_eq_some_iff.1 hu).1
        rw [hc, add_addr] at h1
        obtain ⟨_, _, h4⟩ := World.cells?_some h1
        have h5 := h4 j (by simpa [hc] using hj)
        rw [add_addr] at h5
        rw [h5]; exact hu
      obtain ⟨xs, hl1, hl2⟩ := list_of n hx'
      refine ⟨some ⟨b, off, none⟩, n, m, xs, hcs, ⟨hl1.symm, hl, hm, (fun hd => nomatch hd), fun d hd _ => ?_⟩, fun x hx => ?_⟩
      · simp at hd; subst hd
        refine ⟨rfl, hb, fun j u hu => ?_⟩
        have hj : j < n * c.k := by have := (List.getElem?_eq_some_iff.1 hu).1; rw [flat_len, hl1] at this; exact this
        have f1 := flat_get c xs (j / c.k) (j % c.k) (Nat.mod_lt _ hk)
        have f3 : j / c.k * c.k + j % c.k = j := by rw [Nat.mul_comm]; exact Nat.div_add_mod j c.k
        rw [f3, hu] at f1
        obtain ⟨x, g1, g2⟩ := Option.bind_eq_some_iff.1 f1.symm
        have := (hl2 _ _ g1).2 _ _ g2
        show w.cell? ⟨b, off + j, none⟩ = _
        rw [Nat.add_assoc, f3] at this
        exact this
      · obtain ⟨i, hi⟩ := List.mem_iff_getElem?.1 hx
        exact (hl2 i x hi).1
    · have e0 : m = 0 := by omega
      subst e0
      have e1 : n = 0 := by omega
      subst e1
      exact ⟨some d, 0, 0, [], hcs, ⟨rfl, Nat.le_refl _, Nat.zero_le _, (fun hd => nomatch hd), fun d _ hc => absurd hc (Nat.lt_irrefl 0)⟩, fun x hx => by simp at hx⟩
end Go.V
namespace Go.Proofs.Ytbdkhgenkekioaa
open Go.RowKit Go.V Go.Sort Go.Shelf Go.Proofs Go.Maps Go.ChangeShapes Go.WideShapes Go.ChangeAt

set_option maxRecDepth 100000 in
theorem mride_opened {H : Type} {enc : TypeId × Value → H} {w : World} {b0 : Nat} {spare : Nat → Bool} {held : Bool} (n : Nat) (cs : List Value) (y : DataW H × List MemPlace) (h : DataW.trod enc Try.prog w b0 spare held n 24 cs = some y) : ∃ x, cs = Ride.cod.enc x ∧ Ride.ok x := by
  obtain ⟨y0, y1, y2, y3, m, rfl, hl, h0, h1, h2, h3⟩ := Go.Joins.trod_struct4 Try.underlying24 h
  have hl' : cs.length = 4 := by rw [hl]; kernel_rfl
  have hc : Try.prog.cellsOf 3 = 1 := by kernel_rfl
  match cs, hl' with
  | [v0, v1, v2, v3], _ =>
    rw [hc] at h0 h1 h2 h3
    obtain ⟨n0, e0, -, w0⟩ := DataW.trod_int Try.underlying3 h0
    obtain ⟨n1, e1, -, w1⟩ := DataW.trod_int Try.underlying3 h1
    obtain ⟨n2, e2, -, w2⟩ := DataW.trod_int Try.underlying3 h2
    obtain ⟨n3, e3, -, w3⟩ := DataW.trod_int Try.underlying3 h3
    simp at e0 e1 e2 e3
    subst e0; subst e1; subst e2; subst e3
    exact ⟨⟨n0, n1, n2, n3⟩, rfl, w0, w1, w2, w3⟩
/-- A month's cells, and its rides. -/
def MHok (w : World) (x : MH) : Prop := ∃ l : List Ride, Sl Ride.cod w x.h.a x.h.n x.h.cap l ∧ (∀ r ∈ l, Ride.ok r)
theorem list6 {α : Type} {l : List α} (h : l.length = 6) : ∃ a b c d e f, l = [a, b, c, d, e, f] := by
  match l, h with
  | [a, b, c, d, e, f], _ => exact ⟨a, b, c, d, e, f, rfl⟩
set_option maxRecDepth 100000 in
theorem month_opened {H : Type} {enc : TypeId × Value → H} {w : World} {b0 : Nat} {spare : Nat → Bool} {held : Bool} (hsp : ∀ b, spare b = true) (n : Nat) (cs : List Value) (y : DataW H × List MemPlace) (h : DataW.trod enc Try.prog w b0 spare held n 27 cs = some y) : ∃ x, cs = MH.cod.enc x ∧ MHok w x := by
  obtain ⟨xs, m, -, -, hl, hxl, hx⟩ := DataW.trod_struct Try.underlying27 h
  have hl' : cs.length = 6 := by rw [hl]; kernel_rfl
  have hc1 : Try.prog.cellsOf 3 = 1 := by kernel_rfl
  have hcs : Try.prog.cellsOf 25 = 1 := by kernel_rfl
  have hcb : Try.prog.cellsOf 4 = 1 := by kernel_rfl
  obtain ⟨v0, v1, v2, v3, v4, v5, rfl⟩ := list6 hl'
  have hx6 : xs.length = 6 := by rw [hxl]; rfl
  obtain ⟨y0, y1, y2, y3, y4, y5, rfl⟩ := list6 hx6
  have g0 := hx 0 _ rfl
  have g1 := hx 1 _ rfl
  have g2 := hx 2 _ rfl
  have g3 := hx 3 _ rfl
  have g4 := hx 4 _ rfl
  have g5 := hx 5 _ rfl
  simp [hc1, hcs, hcb] at g0 g1 g2 g3 g4 g5
  obtain ⟨n0, e0, -, -⟩ := DataW.trod_int Try.underlying3 g0
  obtain ⟨n1, e1, -, -⟩ := DataW.trod_int Try.underlying3 g1
  obtain ⟨n2, e2, -, -⟩ := DataW.trod_int Try.underlying3 g2
  obtain ⟨n3, e3, -, -⟩ := DataW.trod_int Try.underlying3 g3
  obtain ⟨a, l, r, zs, e4, hsl, hok⟩ := trod_sl (c := Ride.cod) (ok := Ride.ok) hsp Try.underlying25 (by kernel_rfl) (by decide) (fun n cs y hy => mride_opened n cs y hy) g4
  obtain ⟨bz, e5, -⟩ := DataW.trod_bool Try.underlying4 g5
  simp at e0 e1 e2 e3 e4 e5
  subst e0; subst e1; subst e2; subst e3; subst e4; subst e5
  exact ⟨⟨n0, n1, n2, n3, ⟨a, l, r⟩, bz⟩, rfl, zs, hsl, hok⟩
theorem monIn_of {w : World} {a : Option Addr} {n cap : Nat} {X : List MH} (h : Sl MH.cod w a n cap X) (hx : ∀ x ∈ X, MHok w x) : ∃ hs ms, MonIn w a n cap hs ms ∧ ∀ m ∈ ms, ∀ r ∈ m.rides, Ride.ok r := by
  have key : ∀ X : List MH, (∀ x ∈ X, MHok w x) → ∃ ms : List Mon, ms.length = X.length ∧ ∀ (i : Nat) (x : MH) (m : Mon), X[i]? = some x → ms[i]? = some m → m.hd x.h = x ∧ Sl Ride.cod w x.h.a x.h.n x.h.cap m.rides ∧ ∀ r ∈ m.rides, Ride.ok r := by
    intro X
    induction X with
    | nil => intro _; exact ⟨[], rfl, fun i x m h => by simp at h⟩
    | cons x X ih =>
      intro hX
      obtain ⟨ms, h1, h2⟩ := ih (fun y hy => hX y (by simp [hy]))
      obtain ⟨l, h3, h4⟩ := hX x (by simp)
      refine ⟨⟨x.a, x.m, x.t, x.c, l, x.z⟩ :: ms, by simp [h1], fun i y m e1 e2 => ?_⟩
      cases i with
      | zero => simp at e1 e2; subst e1; subst e2; exact ⟨rfl, h3, h4⟩
      | succ i => exact h2 i y m (by simpa using e1) (by simpa using e2)
  obtain ⟨ms, h1, h2⟩ := key X hx
  have e : List.zipWith Mon.hd ms (X.map MH.h) = X := by
    apply List.ext_getElem?
    intro i
    rw [List.getElem?_zipWith, List.getElem?_map]
    cases e1 : X[i]? with
    | none =>
      cases ms[i]? <;> rfl
    | some x =>
      have hi := (List.getElem?_eq_some_iff.1 e1).1
      have e2 : ms[i]? = some ms[i] := List.getElem?_eq_getElem (by omega)
      rw [e2]
      exact congrArg some (h2 i x _ e1 e2).1
  refine ⟨X.map MH.h, ms, ⟨by rw [e]; exact h, by simp [h1], fun i g m e1 e2 => ?_⟩, fun m hm r hr => ?_⟩
  · rw [List.getElem?_map] at e1
    cases e3 : X[i]? with
    | none => rw [e3] at e1; cases e1
    | some x =>
      rw [e3] at e1
      cases e1
      exact (h2 i x m e3 e2).2.1
  · obtain ⟨i, hi⟩ := List.mem_iff_getElem?.1 hm
    have hl := (List.getElem?_eq_some_iff.1 hi).1
    have e3 : X[i]? = some X[i] := List.getElem?_eq_getElem (by omega)
    exact (h2 i _ m e3 hi).2.2 r hr
set_option maxRecDepth 100000 in
theorem open_months {H : Type} {enc : TypeId × Value → H} {w : World} {b0 base : Nat} {spare : Nat → Bool} {held : Bool} {v : Value} {d : DataW H} {ps : List MemPlace} (hsp : ∀ b, spare b = true) (hval : Value.okWide Try.prog w .any base 22 v) (h : DataW.Trod enc Try.prog w b0 spare held 22 v d ps) :
    ∃ a n cap hs ms, v = .slice a n cap ∧ MonIn w a n cap hs ms ∧ ∀ m ∈ ms, ∀ r ∈ m.rides, Ride.ok r := by
  obtain ⟨a, n, cap, X, rfl, hsl, hok⟩ := open_sl (c := MH.cod) (ok := MHok w) Try.underlying22 (by kernel_rfl) (fun n cs y hy => month_opened hsp n cs y hy) hval h
  obtain ⟨hs, ms, h1, h2⟩ := monIn_of hsl hok
  exact ⟨a, n, cap, hs, ms, rfl, h1, h2⟩
end Go.Proofs.Ytbdkhgenkekioaa

namespace Go.Proofs.Ytbdkhgenkekioaa
open Go.RowKit Go.V Go.Sort Go.Shelf Go.Proofs Go.Maps Go.ChangeShapes Go.WideShapes Go.ChangeAt
theorem list14 {α : Type} {l : List α} (h : l.length = 14) : ∃ a b c d e f g i j k m n p q, l = [a, b, c, d, e, f, g, i, j, k, m, n, p, q] := by
  match l, h with
  | [a, b, c, d, e, f, g, i, j, k, m, n, p, q], _ => exact ⟨a, b, c, d, e, f, g, i, j, k, m, n, p, q, rfl⟩
set_option maxRecDepth 100000 in
theorem open_ask {H : Type} {enc : TypeId × Value → H} {w : World} {b0 base : Nat} {spare : Nat → Bool} {held : Bool} {v : Value} {d : DataW H} {ps : List MemPlace} (hsp : ∀ b, spare b = true) (hval : Value.okWide Try.prog w .any base 29 v) (h : DataW.Trod enc Try.prog w b0 spare held 29 v d ps) :
    ∃ (q : AskP) (g : Hdr), v = q.val g ∧ Ride.ok q.r ∧ (∀ r ∈ q.o.rides, Ride.ok r) ∧ Sl Ride.cod w g.a g.n g.cap q.o.rides := by
  simp only [Value.okWide, Try.underlying29] at hval
  obtain ⟨cs, rfl, hsz, -⟩ := hval
  obtain ⟨fuel, hf⟩ := h
  obtain ⟨xs, m, -, -, hl, hxl, hx⟩ := DataW.trod_struct Try.underlying29 hf
  have hc14 : Try.prog.cellsOf 29 = 14 := by kernel_rfl
  have hc1 : Try.prog.cellsOf 3 = 1 := by kernel_rfl
  have hcr : Try.prog.cellsOf 24 = 4 := by kernel_rfl
  have hcm : Try.prog.cellsOf 27 = 6 := by kernel_rfl
  obtain ⟨l⟩ := cs
  rw [hc14] at hsz
  obtain ⟨v0, v1, v2, v3, v4, v5, v6, v7, v8, v9, v10, v11, v12, v13, rfl⟩ := list14 (l := l) (by simpa using hsz)
  have hx6 : xs.length = 6 := by rw [hxl]; rfl
  obtain ⟨y0, y1, y2, y3, y4, y5, rfl⟩ := list6 hx6
  have g0 := hx 0 _ rfl
  have g1 := hx 1 _ rfl
  have g2 := hx 2 _ rfl
  have g3 := hx 3 _ rfl
  have g4 := hx 4 _ rfl
  have g5 := hx 5 _ rfl
  simp [Value.cells, hc1, hcr, hcm] at g0 g1 g2 g3 g4 g5
  obtain ⟨n0, e0, -, -⟩ := DataW.trod_int Try.underlying3 g0
  obtain ⟨n1, e1, -, -⟩ := DataW.trod_int Try.underlying3 g1
  obtain ⟨n2, e2, -, -⟩ := DataW.trod_int Try.underlying3 g2
  obtain ⟨n3, e3, -, -⟩ := DataW.trod_int Try.underlying3 g3
  obtain ⟨r, e4, hr⟩ := mride_opened _ _ _ g4
  obtain ⟨x, e5, zs, hsl, hok⟩ := month_opened hsp _ _ _ g5
  have e4 : [v4, v5, v6, v7] = [.int .i64 r.t, .int .i64 r.s, .int .i64 r.e, .int .i64 r.f] := e4
  have e5 : [v8, v9, v10, v11, v12, v13] = [.int .i64 x.a, .int .i64 x.m, .int .i64 x.t, .int .i64 x.c, .slice x.h.a x.h.n x.h.cap, .bool x.z] := e5
  simp at e0 e1 e2 e3 e4 e5
  obtain ⟨rfl, rfl, rfl, rfl⟩ := e4
  obtain ⟨rfl, rfl, rfl, rfl, rfl, rfl⟩ := e5
  subst e0; subst e1; subst e2; subst e3
  exact ⟨⟨n0, n1, n2, n3, r, ⟨x.a, x.m, x.t, x.c, zs, x.z⟩⟩, x.h, rfl, hr, hok, hsl⟩
end Go.Proofs.Ytbdkhgenkekioaa

namespace Go.Proofs.Ytbdkhgenkekioaa
open Go.RowKit Go.V Go.Sort Go.Shelf Go.Proofs Go.Maps Go.Proofs.Ytbdkhgenkekioaa.Wi
open Go.Proofs.Ytbdkhgenkekioaa.Ne (box_alloc box_new box_cell box_below box_lt icod int_at)

/-- What month.Put has in memory. -/
structure MW (w1 W : World) (g : Nat) (xs : List Int) : Prop where
  wr : Wr W g (g + 1) xs
  bl : Below g w1 W
  sz : w1.heap.size = g
  gs : g + 1 ≤ W.heap.size
  len : xs.length ≤ 900000000
theorem MW.step {w1 W W' : World} {g : Nat} {xs ys : List Int} (h : MW w1 W g xs) (ht : WrTo g (g + 1) W W') (hw : Wr W' g (g + 1) ys) (hl : ys.length ≤ 900000000) : MW w1 W' g ys := by
  have hb : Below g W W' := ht.below (by have := h.gs; omega) (by omega)
  exact ⟨hw, h.bl.trans hb, h.sz, by have := h.gs; have := hb.size; omega, hl⟩
theorem MW.below {w1 W W' : World} {g : Nat} {xs : List Int} (h : MW w1 W g xs) (hb : Below W.heap.size W W') : MW w1 W' g xs :=
  ⟨h.wr.below hb, h.bl.trans (hb.mono (by have := h.gs; omega)), h.sz, by have := h.gs; have := hb.size; omega, h.len⟩
theorem MW.alloc {w1 W : World} {g : Nat} {xs : List Int} (h : MW w1 W g xs) (ob : Obj) : MW w1 (W.alloc ob) g xs := h.below ((Below.refl _ _).alloc (Nat.le_refl _) _)
theorem MW.mon {w1 W : World} {g : Nat} {xs : List Int} (h : MW w1 W g xs) {a : Option Addr} {n cap : Nat} {hs : List Hdr} {ms : List Mon} (hm : MonIn w1 a n cap hs ms) : MonIn W a n cap hs ms := hm.below (by have := h.bl; rw [← h.sz] at this; exact this)
theorem WrTo.box {g B q : Nat} {w w' : World} {cs : Array Value} {t : TypeId} {fr : Nat × Nat} (ht : WrTo g B w w') (h : w.heap[q]? = some (.cells cs t fr)) (hne : q ≠ g) (hob : t ≠ 5) : w'.heap[q]? = some (.cells cs t fr) :=
  ht.block q _ h hne (.inr (fun cur fr q => by cases q; exact hob rfl))
theorem enN_take {fs : List Int} {j : Nat} {x : Int} (h : fs[j]? = some x) : (fs.take (j + 1)).flatMap enN = (fs.take j).flatMap enN ++ putV x.toNat := flat_take enN h
theorem heM_bound {m : Mon} (h : OneM m) : ∀ x ∈ heM m, 0 ≤ x ∧ x ≤ 4294967296 := by
  obtain ⟨⟨n1, n2, n3, n4⟩, -, hr⟩ := h
  have hl : m.rides.length ≤ 2048 := hr.1
  intro x hx
  unfold heM at hx
  simp at hx
  rcases hx with rfl | rfl | rfl | rfl | rfl <;> omega

set_option maxHeartbeats 8000000 in
set_option maxRecDepth 100000 in
theorem mput_any (a : Option Addr) (n cap : Nat) (hs : List Hdr) (ms : List Mon) (w : World) (hn : n ≤ 1000000) (hl : ∀ m ∈ ms, m.rides.length ≤ 1000000) (hok : ∀ m ∈ ms, ∀ r ∈ m.rides, Ride.ok r) (h0 : MonIn w a n cap hs ms) :
    Calls Try.prog 21 #[.slice a n cap] w fun e w' => Below w.heap.size w w' ∧ (¬ RightM ms → e = .returned (.tuple #[.slice none 0 0, .int .i64 2])) ∧ (RightM ms → ∃ v, e = .returned (.tuple #[v, .int .i64 0]) ∧ V.Own 5 bcod w.heap.size w' v (putMs ms)) := by
  obtain ⟨p, hp⟩ : ∃ p, decide (RightM ms) = p := ⟨_, rfl⟩
  have HP := Lib.hid hp
  have HN := Lib.hid h0.n_eq
  clear hp
  cases p with
  | false =>
    go_enter Try.func21, Try.ntmps21
    go_wp2_with (go_at_call 9; go_fit (mright_any a n cap hs ms _ hn hl hok h0); rintro e w1 ⟨rfl, hb1⟩; rw [HP.out]; have HB1 := Lib.hid hb1; clear hb1)
    go_ret2
    exact ⟨HB1.out, fun _ => rfl, fun q => absurd q (of_decide_eq_false HP.out)⟩
  | true =>
    have HR := Lib.hid (of_decide_eq_true HP.out)
    have hn4 : n ≤ 4096 := by rw [HN.out]; exact HR.out.1
    have hn0 : (0 : Int) ≤ (n : Int) := by omega
    go_enter Try.func21, Try.ntmps21
    go_upto_region 4 with (go_at_call 9; go_fit (mright_any a n cap hs ms _ hn hl hok h0); rintro e w1 ⟨rfl, hb1⟩; rw [HP.out]; have HB1 := Lib.hid hb1; clear hb1)
    have HG : Hid (MW w1 (w1.alloc (.cells #[.slice none 0 0] 91)) w1.heap.size []) := ⟨Wr.new w1, (Below.refl _ _).alloc (Nat.le_refl _) _, rfl, by simp, by simp⟩
    obtain ⟨W, hW⟩ : ∃ W, w1.alloc (.cells #[.slice none 0 0] 91) = W := ⟨_, rfl⟩
    rw [hW] at HG ⊢
    clear hW
    obtain ⟨g, hg⟩ : ∃ g, w1.heap.size = g := ⟨_, rfl⟩
    have hg0 : w.heap.size ≤ g := by rw [← hg]; exact HB1.out.size
    rw [hg] at HG ⊢
    clear hg
    have h1 := h0.below HB1.out
    have HL1 : Hid ((putV n).length ≤ 10) := putV_10 _ (by omega)
    go_upto_region 5 with (go_at_call 55; go_loud (refine (wnum_any g (g + 1) [] (n : Int) W HG.out.wr HG.out.gs hn0 (by omega) HG.out.len).mono ?_); rintro e W2 ⟨⟨u2, rfl⟩, hw, ht⟩; have HG2 : Hid (MW w1 W2 g (putV n)) := HG.out.step ht hw (by have := HL1.out; omega); clear hw ht)
    clear HG
    obtain ⟨P0, hP0⟩ : ∃ P0, putV n = P0 := ⟨_, rfl⟩
    have HP0 := Lib.hid hP0
    rw [hP0] at HG2 HL1
    clear hP0
    go_wp2_with fail
    go_loopw [23] (fun vi wr => ∃ i : Nat, vi = .int .i64 ((i : Nat) : Int) ∧ i ≤ n ∧ Hid ((P0 ++ (ms.take i).flatMap enM).length ≤ 10 + 82000 * i) ∧ Hid (MW w1 wr g (P0 ++ (ms.take i).flatMap enM))) (fun vi _ => n - (intOf vi).toNat)
    case atStart => exact ⟨0, rfl, by omega, by have := HL1.out; show _ ≤ _; simp; omega, by have := HG2.out; show MW _ _ _ _; simpa using this⟩
    case round =>
      obtain ⟨i, rfl, hi, HLI, HGI⟩ := hrel
      by_cases hlt : i < n
      · have hii : (i : Int) < (n : Int) := by omega
        obtain ⟨b, off, at_, ct, m, rfl, hbb, hm, hhi, ⟨c0, c1, c2, c3, c4, c5⟩, hrd⟩ := (HGI.out.mon h1).at hlt
        have HHI := Lib.hid hhi
        have HM := Lib.hid hm
        have hone := (HR.out.2 i m (List.getElem?_eq_some_iff.1 hm).1 hm).1
        have HONE := Lib.hid hone
        have HRD := Lib.hid hrd
        have hml : m.rides.length ≤ 2048 := hone.2.2.1
        clear hm hone hrd hhi
        go_upto_region 8 with fail
        have HGY := Lib.hid (HGI.out.alloc (.cells #[.int .i64 m.a, .int .i64 m.m, .int .i64 m.t, .int .i64 m.c, .slice at_ m.rides.length ct, .bool m.z] 27))
        have HY : Hid ((wr.alloc (.cells #[.int .i64 m.a, .int .i64 m.m, .int .i64 m.t, .int .i64 m.c, .slice at_ m.rides.length ct, .bool m.z] 27)).heap[wr.heap.size]? = some (.cells #[.int .i64 m.a, .int .i64 m.m, .int .i64 m.t, .int .i64 m.c, .slice at_ m.rides.length ct, .bool m.z] 27 (0, 0))) := box_new wr _
        have hgy : g < wr.heap.size := by have := HGI.out.gs; omega
        obtain ⟨Y, hY⟩ : ∃ W, wr.alloc (.cells #[.int .i64 m.a, .int .i64 m.m, .int .i64 m.t, .int .i64 m.c, .slice at_ m.rides.length ct, .bool m.z] 27) = W := ⟨_, rfl⟩
        obtain ⟨y, hy⟩ : ∃ y, wr.heap.size = y := ⟨_, rfl⟩
        rw [hY] at HGY HY ⊢
        rw [hy] at HY hgy ⊢
        clear hY hy c0 c1 c2 c3 c4 c5
        obtain ⟨y0, y1, y2, y3, y4, y5⟩ := box6_cells HY.out
        have hyl := box_lt HY.out
        obtain ⟨P, hP⟩ : ∃ P, P0 ++ (ms.take i).flatMap enM = P := ⟨_, rfl⟩
        have HPP := Lib.hid hP
        rw [hP] at HGY HLI
        clear hP
        have HFS : Hid (Sl icod (Y.alloc (.cells #[.int .i64 m.a, .int .i64 m.m, .int .i64 m.t, .int .i64 m.c, .int .i64 (m.rides.length : Int)] 3)) (some ⟨Y.heap.size, 0, none⟩) 5 5 (heM m)) := sl_new (c := icod) Y #[.int .i64 m.a, .int .i64 m.m, .int .i64 m.t, .int .i64 m.c, .int .i64 (m.rides.length : Int)] 3 (heM m) 5 rfl (by unfold maxLen; omega) rfl
        have HFB : Hid ((Y.alloc (.cells #[.int .i64 m.a, .int .i64 m.m, .int .i64 m.t, .int .i64 m.c, .int .i64 (m.rides.length : Int)] 3)).heap[Y.heap.size]? = some (.cells #[.int .i64 m.a, .int .i64 m.m, .int .i64 m.t, .int .i64 m.c, .int .i64 (m.rides.length : Int)] 3 (0, 0))) := box_new Y _
        have HYA := Lib.hid (box_alloc HY.out (o := .cells #[.int .i64 m.a, .int .i64 m.m, .int .i64 m.t, .int .i64 m.c, .int .i64 (m.rides.length : Int)] 3))
        have HGA := Lib.hid (HGY.out.alloc (.cells #[.int .i64 m.a, .int .i64 m.m, .int .i64 m.t, .int .i64 m.c, .int .i64 (m.rides.length : Int)] 3))
        have hyf : y < Y.heap.size := hyl
        go_upto_block 2 with fail
        obtain ⟨A, hA⟩ : ∃ W, Y.alloc (.cells #[.int .i64 m.a, .int .i64 m.m, .int .i64 m.t, .int .i64 m.c, .int .i64 (m.rides.length : Int)] 3) = W := ⟨_, rfl⟩
        obtain ⟨f, hf⟩ : ∃ y, Y.heap.size = y := ⟨_, rfl⟩
        rw [hA] at HFS HFB HYA HGA ⊢
        rw [hf] at HFS HFB hyf ⊢
        clear hA hf y0 y1 y2 y3 y4 y5 hyl
        have hgf : g < f := by omega
        go_cut [] (fun wx => Hid (MW w1 wx g (P ++ (heM m).flatMap enN)) ∧ Hid ((P ++ (heM m).flatMap enN).length ≤ 10 + 82000 * i + 50) ∧ Hid (wx.heap[y]? = some (.cells #[.int .i64 m.a, .int .i64 m.m, .int .i64 m.t, .int .i64 m.c, .slice at_ m.rides.length ct, .bool m.z] 27 (0, 0))))
        case first =>
          go_wp2_with fail
          go_loopw [40] (fun vj wj => ∃ j : Nat, vj = .int .i64 ((j : Nat) : Int) ∧ j ≤ 5 ∧ Hid ((P ++ ((heM m).take j).flatMap enN).length ≤ 10 + 82000 * i + 10 * j) ∧ Hid (MW w1 wj g (P ++ ((heM m).take j).flatMap enN)) ∧ Hid (wj.heap[y]? = some (.cells #[.int .i64 m.a, .int .i64 m.m, .int .i64 m.t, .int .i64 m.c, .slice at_ m.rides.length ct, .bool m.z] 27 (0, 0))) ∧ Hid (wj.heap[f]? = some (.cells #[.int .i64 m.a, .int .i64 m.m, .int .i64 m.t, .int .i64 m.c, .int .i64 (m.rides.length : Int)] 3 (0, 0)))) (fun vj _ => 5 - (intOf vj).toNat)
          case atStart => exact ⟨0, rfl, by omega, by have := HLI.out; show _ ≤ _; simp; omega, by have := HGA.out; show MW _ _ _ _; simpa using this, HYA.out, HFB.out⟩
          case round =>
            obtain ⟨j, rfl, hj, HLJ, HGJ, HYJ, HFJ⟩ := hrel
            by_cases hlj : j < 5
            · have hjj : (j : Int) < (5 : Int) := by omega
              obtain ⟨k, hk, hkc⟩ : ∃ k, (heM m)[j]? = some k ∧ wr.cell? ⟨f, j, none⟩ = some (.int .i64 k) := by
                have hc := (box_cell HFJ.out j).1
                have hcase : j = 0 ∨ j = 1 ∨ j = 2 ∨ j = 3 ∨ j = 4 := by omega
                rcases hcase with rfl | rfl | rfl | rfl | rfl <;> exact ⟨_, rfl, hc⟩
              have hkb := heM_bound HONE.out k (List.mem_of_getElem? hk)
              have HK := Lib.hid (enN_take hk)
              have HKL : Hid ((putV k.toNat).length ≤ 10) := putV_10 _ (by omega)
              have hfl := box_lt HFJ.out
              clear hk
              go_wp2_with (go_at_call 55; go_loud (refine (wnum_any g (g + 1) _ k wr HGJ.out.wr HGJ.out.gs hkb.1 (by omega) HGJ.out.len).mono ?_); rintro e W3 ⟨⟨u3, rfl⟩, hw, ht⟩; have HG3 : Hid (MW w1 W3 g ((P ++ ((heM m).take j).flatMap enN) ++ putV k.toNat)) := HGJ.out.step ht hw (by have := HLJ.out; have := HKL.out; rw [List.length_append]; omega); have HY3 := Lib.hid (WrTo.box ht HYJ.out (by omega) (by decide)); have HF3 := Lib.hid (WrTo.box ht HFJ.out (by omega) (by decide)); clear hw ht)
              go_roundw
              case rel => exact ⟨j + 1, by go_num, by omega, by have := HLJ.out; have := HKL.out; show _ ≤ _; rw [HK.out, ← List.append_assoc, List.length_append]; omega, by show MW _ _ _ _; rw [HK.out, ← List.append_assoc]; exact HG3.out, HY3.out, HF3.out⟩
              case measure => simp [intOf]; omega
            · have hj5 : j = 5 := by omega
              subst hj5
              go_wp2_with fail
              go_meet
              have e5 : (heM m).take 5 = heM m := rfl
              rw [e5] at HLJ HGJ
              exact ⟨HGJ.out, by have := HLJ.out; show _ ≤ _; omega, HYJ.out⟩
        obtain ⟨HGC, HLC, HYC⟩ := hcut
        obtain ⟨Q, hQ⟩ : ∃ Q, P ++ (heM m).flatMap enN = Q := ⟨_, rfl⟩
        have HQQ := Lib.hid hQ
        rw [hQ] at HGC HLC
        clear hQ HGA HYA HFS HFB
        obtain ⟨y0, y1, y2, y3, y4, y5⟩ := box6_cells HYC.out
        have hyl := box_lt HYC.out
        go_upto_block 4 with fail
        go_cut [] (fun wx => Hid (MW w1 wx g (Q ++ m.rides.flatMap enR)) ∧ Hid ((Q ++ m.rides.flatMap enR).length ≤ 10 + 82000 * i + 50 + 40 * 2048) ∧ Hid (wx.heap[y]? = some (.cells #[.int .i64 m.a, .int .i64 m.m, .int .i64 m.t, .int .i64 m.c, .slice at_ m.rides.length ct, .bool m.z] 27 (0, 0))))
        case first =>
          go_wp2_with fail
          clear y0 y1 y2 y3 y4 y5 hyl
          go_loopw [51] (fun vj wj => ∃ j : Nat, vj = .int .i64 ((j : Nat) : Int) ∧ j ≤ m.rides.length ∧ Hid ((Q ++ (m.rides.take j).flatMap enR).length ≤ 10 + 82000 * i + 50 + 40 * j) ∧ Hid (MW w1 wj g (Q ++ (m.rides.take j).flatMap enR)) ∧ Hid (wj.heap[y]? = some (.cells #[.int .i64 m.a, .int .i64 m.m, .int .i64 m.t, .int .i64 m.c, .slice at_ m.rides.length ct, .bool m.z] 27 (0, 0)))) (fun vj _ => m.rides.length - (intOf vj).toNat)
          case atStart => exact ⟨0, rfl, by omega, by have := HLC.out; show _ ≤ _; simp at *; omega, by have := HGC.out; show MW _ _ _ _; simpa using this, HYC.out⟩
          case round =>
            obtain ⟨j, rfl, hj, HLJ, HGJ, HYJ⟩ := hrel
            by_cases hlj : j < m.rides.length
            · have hjj : (j : Int) < (m.rides.length : Int) := by omega
              have hrj := (HGJ.out.mon h1).each i _ m HHI.out HM.out
              obtain ⟨b7, o7, x, e7, hbl, hx, k0, k1, k2, k3⟩ := ride_at hrj hlj
              have e7 : at_ = some ⟨b7, o7, none⟩ := e7
              subst e7
              have hxo := HONE.out.2.2.2.1 x (List.mem_of_getElem? hx)
              have HXL := Lib.hid (enR_len hxo)
              obtain ⟨g1, g2, g3, g4⟩ := (moneB_iff x).1 hxo
              have HFT := Lib.hid (flat_take enR hx)
              clear hrj hx hxo
              go_upto_region 16 with fail
              have HGZ := Lib.hid (HGJ.out.alloc (.cells #[.int .i64 x.t, .int .i64 x.s, .int .i64 x.e, .int .i64 x.f] 24))
              have HZ : Hid ((wr.alloc (.cells #[.int .i64 x.t, .int .i64 x.s, .int .i64 x.e, .int .i64 x.f] 24)).heap[wr.heap.size]? = some (.cells #[.int .i64 x.t, .int .i64 x.s, .int .i64 x.e, .int .i64 x.f] 24 (0, 0))) := box_new wr _
              have HYZ := Lib.hid (box_alloc HYJ.out (o := .cells #[.int .i64 x.t, .int .i64 x.s, .int .i64 x.e, .int .i64 x.f] 24))
              have hgz : g < wr.heap.size := by have := HGJ.out.gs; omega
              obtain ⟨Z, hZ⟩ : ∃ W, wr.alloc (.cells #[.int .i64 x.t, .int .i64 x.s, .int .i64 x.e, .int .i64 x.f] 24) = W := ⟨_, rfl⟩
              obtain ⟨z, hz⟩ : ∃ y, wr.heap.size = y := ⟨_, rfl⟩
              rw [hZ] at HGZ HZ HYZ ⊢
              rw [hz] at HZ hgz ⊢
              clear hZ hz k0 k1 k2 k3
              obtain ⟨S, hS⟩ : ∃ S, Q ++ (m.rides.take j).flatMap enR = S := ⟨_, rfl⟩
              have HSS := Lib.hid hS
              rw [hS] at HGZ HLJ
              clear hS
              have HT1 : Hid ((putV x.t.toNat).length ≤ 10) := putV_10 _ (by omega)
              have HT2 : Hid ((putV x.s.toNat).length ≤ 10) := putV_10 _ (by omega)
              have HT3 : Hid ((putV x.e.toNat).length ≤ 10) := putV_10 _ (by omega)
              have HT4 : Hid ((putV (turnV x.f)).length ≤ 10) := putV_10 _ (turnV_lt (by omega) (by omega))
              have z0 := (box_cell HZ.out 0).1
              have zl1 := box_lt HZ.out
              go_upto_region 17 with (go_at_call 55; go_loud (refine (wnum_any g (g + 1) _ x.t Z HGZ.out.wr HGZ.out.gs (by omega) (by omega) HGZ.out.len).mono ?_); rintro e V1 ⟨⟨uu1, rfl⟩, hw, ht⟩; have HG1' : Hid (MW w1 V1 g (S ++ putV x.t.toNat)) := HGZ.out.step ht hw (by have := HLJ.out; have := HT1.out; simp only [List.length_append]; omega); have HZ1 := Lib.hid (WrTo.box ht HZ.out (by omega) (by decide)); have HY1 := Lib.hid (WrTo.box ht HYZ.out (by omega) (by decide)); clear hw ht)
              clear z0 zl1
              have z1 := (box_cell HZ1.out 1).1
              have zl2 := box_lt HZ1.out
              go_upto_region 18 with (go_at_call 55; go_loud (refine (wnum_any g (g + 1) _ x.s V1 HG1'.out.wr HG1'.out.gs (by omega) (by omega) HG1'.out.len).mono ?_); rintro e V2 ⟨⟨uu2, rfl⟩, hw, ht⟩; have HG2' : Hid (MW w1 V2 g ((S ++ putV x.t.toNat) ++ putV x.s.toNat)) := HG1'.out.step ht hw (by have := HLJ.out; have := HT1.out; have := HT2.out; simp only [List.length_append]; omega); have HZ2 := Lib.hid (WrTo.box ht HZ1.out (by omega) (by decide)); have HY2 := Lib.hid (WrTo.box ht HY1.out (by omega) (by decide)); clear hw ht)
              clear z1 zl2
              have z2 := (box_cell HZ2.out 2).1
              have zl3 := box_lt HZ2.out
              go_upto_region 19 with (go_at_call 55; go_loud (refine (wnum_any g (g + 1) _ x.e V2 HG2'.out.wr HG2'.out.gs (by omega) (by omega) HG2'.out.len).mono ?_); rintro e V3 ⟨⟨uu3, rfl⟩, hw, ht⟩; have HG3' : Hid (MW w1 V3 g (((S ++ putV x.t.toNat) ++ putV x.s.toNat) ++ putV x.e.toNat)) := HG2'.out.step ht hw (by have := HLJ.out; have := HT1.out; have := HT2.out; have := HT3.out; simp only [List.length_append]; omega); have HZ3 := Lib.hid (WrTo.box ht HZ2.out (by omega) (by decide)); have HY3 := Lib.hid (WrTo.box ht HY2.out (by omega) (by decide)); clear hw ht)
              clear z2 zl3
              have z3 := (box_cell HZ3.out 3).1
              have zl4 := box_lt HZ3.out
              go_wp2_with (go_at_call 56; go_loud (refine (wsgn_any g (g + 1) _ x.f V3 HG3'.out.wr HG3'.out.gs (by omega) (by omega) HG3'.out.len).mono ?_); rintro e V4 ⟨⟨uu4, rfl⟩, hw, ht⟩; have HG4' : Hid (MW w1 V4 g ((((S ++ putV x.t.toNat) ++ putV x.s.toNat) ++ putV x.e.toNat) ++ putV (turnV x.f))) := HG3'.out.step ht hw (by have := HLJ.out; have := HT1.out; have := HT2.out; have := HT3.out; have := HT4.out; simp only [List.length_append]; omega); have HZ4 := Lib.hid (WrTo.box ht HZ3.out (by omega) (by decide)); have HY4 := Lib.hid (WrTo.box ht HY3.out (by omega) (by decide)); clear hw ht)
              go_roundw
              case rel =>
                have e8 : Q ++ (m.rides.take (j + 1)).flatMap enR = (((S ++ putV x.t.toNat) ++ putV x.s.toNat) ++ putV x.e.toNat) ++ putV (turnV x.f) := by
                  rw [HFT.out, ← HSS.out]
                  unfold enR
                  simp only [List.append_assoc]
                exact ⟨j + 1, by go_num, by omega, by have := HLJ.out; have := HT1.out; have := HT2.out; have := HT3.out; have := HT4.out; show _ ≤ _; rw [e8]; simp only [List.length_append]; omega, by show MW _ _ _ _; rw [e8]; exact HG4'.out, HY4.out⟩
              case measure => simp [intOf]; omega
            · have hjl : j = m.rides.length := by omega
              go_wp2_with fail
              go_meet
              have e5 : m.rides.take j = m.rides := List.take_of_length_le (by omega)
              rw [e5] at HLJ HGJ
              exact ⟨HGJ.out, by have := HLJ.out; show _ ≤ _; omega, HYJ.out⟩
        obtain ⟨HGD, HLD, HYD⟩ := hcut
        obtain ⟨T, hT⟩ : ∃ T, Q ++ m.rides.flatMap enR = T := ⟨_, rfl⟩
        have HTT := Lib.hid hT
        rw [hT] at HGD HLD
        clear hT HGC HLC HYC y0 y1 y2 y3 y4 y5 hyl
        obtain ⟨y0, y1, y2, y3, y4, y5⟩ := box6_cells HYD.out
        have hyl := box_lt HYD.out
        have HEND : Hid (P0 ++ (ms.take (i + 1)).flatMap enM = T ++ [zB m.z]) := by
          show _ = _
          rw [flat_take enM HM.out, ← List.append_assoc, HPP.out, ← HTT.out, ← HQQ.out]
          unfold enM
          simp only [List.append_assoc]
        obtain ⟨mz, hmz⟩ : ∃ q, m.z = q := ⟨_, rfl⟩
        rw [hmz] at y5 HEND
        clear hmz y0 y1 y2 y3 y4
        cases mz with
        | false =>
          go_wp2_with (go_at_call 57; go_loud (refine (wbyte_any g (g + 1) T 0 wc HGD.out.wr HGD.out.gs HGD.out.len).mono ?_); rintro e W8 ⟨⟨u8', rfl⟩, hw, ht⟩; have HG8 : Hid (MW w1 W8 g (T ++ [0])) := HGD.out.step ht hw (by have := HLD.out; simp only [List.length_append, List.length_cons, List.length_nil]; omega); clear hw ht)
          go_roundw
          case rel => exact ⟨i + 1, by go_num, by omega, by have := HLD.out; show _ ≤ _; rw [HEND.out]; simp only [List.length_append, List.length_cons, List.length_nil]; omega, by show MW _ _ _ _; rw [HEND.out]; exact HG8.out⟩
          case measure => simp [intOf]; omega
        | true =>
          go_wp2_with (go_at_call 57; go_loud (refine (wbyte_any g (g + 1) T 1 wc HGD.out.wr HGD.out.gs HGD.out.len).mono ?_); rintro e W8 ⟨⟨u8', rfl⟩, hw, ht⟩; have HG8 : Hid (MW w1 W8 g (T ++ [1])) := HGD.out.step ht hw (by have := HLD.out; simp only [List.length_append, List.length_cons, List.length_nil]; omega); clear hw ht)
          go_roundw
          case rel => exact ⟨i + 1, by go_num, by omega, by have := HLD.out; show _ ≤ _; rw [HEND.out]; simp only [List.length_append, List.length_cons, List.length_nil]; omega, by show MW _ _ _ _; rw [HEND.out]; exact HG8.out⟩
          case measure => simp [intOf]; omega
      · have hie : i = n := by omega
        subst hie
        have HALL : Hid (P0 ++ (ms.take i).flatMap enM = putMs ms) := by
          show _ = _
          rw [List.take_of_length_le (by rw [← HN.out]; exact Nat.le_refl _), ← HP0.out, HN.out]
          rfl
        go_wp2_with (go_at_call 58; go_loud (refine (wout_any g (g + 1) _ wr HGI.out.wr (by have := HGI.out.len; omega)).mono ?_); rintro e W9 ⟨v9, rfl, ho, hb⟩; have HO9 := Lib.hid ho; have HB9 := Lib.hid hb; clear ho hb)
        go_ret2
        have hbw : Below w.heap.size w wr := HB1.out.trans (HGI.out.bl.mono hg0)
        refine ⟨hbw.trans (HB9.out.mono hbw.size), fun q => absurd HR.out q, fun _ => ⟨_, rfl, ?_⟩⟩
        have := HO9.out
        rw [HALL.out] at this
        exact this.lower hbw.size
end Go.Proofs.Ytbdkhgenkekioaa

namespace Go.Proofs.Ytbdkhgenkekioaa
open Go.RowKit Go.V Go.Sort Go.Shelf Go.Proofs Go.Maps

open Classical in
noncomputable def addL (l : List Ride) (r : Ride) : List Ride := if r ∈ l then l else isort ltR (l ++ [r])
def OkAdd (m : Mon) (r : Ride) : Prop := r ∈ m.rides ∨ ((∀ x ∈ m.rides, x.t ≠ r.t) ∧ m.z = false ∧ m.rides.length < 2048)
theorem nodup_t {l : List Ride} (h : (l.map Ride.t).Nodup) {x y : Ride} (hx : x ∈ l) (hy : y ∈ l) (e : x.t = y.t) : x = y := by
  obtain ⟨i, hi, rfl⟩ := List.getElem_of_mem hx
  obtain ⟨j, hj, rfl⟩ := List.getElem_of_mem hy
  have h2 := List.pairwise_iff_getElem.1 h
  rcases Nat.lt_trichotomy i j with q | q | q
  · exact absurd (by rw [List.getElem_map, List.getElem_map]; exact e) (h2 i j (by simpa using hi) (by simpa using hj) q)
  · subst q; rfl
  · exact absurd (by rw [List.getElem_map, List.getElem_map]; exact e.symm) (h2 j i (by simpa using hj) (by simpa using hi) q)
theorem oneE_iff {m : Mon} {r : Ride} (hn : (m.rides.map Ride.t).Nodup) : oneE 1 m r = 0 ↔ OkAdd m r := by
  unfold oneE OkAdd
  rw [if_neg (by decide)]
  rcases findR_cases m.rides r.t with ⟨h1, h2⟩ | ⟨k, x, h1, h2, h3, h4, -⟩
  · rw [h1, if_neg (by omega)]
    constructor
    · intro h
      refine .inr ⟨h2, ?_, ?_⟩
      · cases hz : m.z with
        | false => rfl
        | true => rw [if_pos hz] at h; cases h
      · by_cases q : m.z = true
        · rw [if_pos q] at h; cases h
        · rw [if_neg q] at h
          by_cases q2 : 2048 ≤ m.rides.length
          · rw [if_pos q2] at h; cases h
          · omega
    · rintro (h | ⟨-, h3, h4⟩)
      · exact absurd rfl (h2 r h)
      · rw [if_neg (by rw [h3]; decide), if_neg (by omega)]
  · rw [h1, if_pos (by omega), Int.toNat_natCast, List.getD_eq_getElem?_getD, h3]
    simp only [Option.getD_some]
    have hx : x ∈ m.rides := List.mem_of_getElem? h3
    constructor
    · intro h
      by_cases q : x = r
      · exact .inl (q ▸ hx)
      · rw [if_neg q] at h; cases h
    · rintro (h | ⟨h5, -, -⟩)
      · rw [if_pos (nodup_t hn hx h h4)]
      · exact absurd h4 (h5 x hx)
theorem mem_addL {l : List Ride} {r x : Ride} : x ∈ addL l r ↔ x ∈ l ∨ x = r := by
  unfold addL
  split
  · next h => exact ⟨.inl, fun q => q.elim id (fun e => e ▸ h)⟩
  · rw [(isort_perm (lt := ltR) (l ++ [r])).mem_iff]; simp
theorem addL_in {l : List Ride} {r : Ride} (h : r ∈ l) : addL l r = l := if_pos h
theorem addL_out {l : List Ride} {r : Ride} (h : r ∉ l) : addL l r = isort ltR (l ++ [r]) := if_neg h
theorem addL_len (l : List Ride) (r : Ride) : (addL l r).length ≤ l.length + 1 := by
  unfold addL
  split
  · omega
  · rw [(isort_perm (lt := ltR) (l ++ [r])).length_eq]; simp
theorem addL_t {m : Mon} {r : Ride} (hn : (m.rides.map Ride.t).Nodup) (h : OkAdd m r) : ((addL m.rides r).map Ride.t).Nodup := by
  unfold addL
  split
  · exact hn
  · next hm =>
    rcases h with h | ⟨h, -, -⟩
    · exact absurd h hm
    · rw [((isort_perm (lt := ltR) (m.rides ++ [r])).map Ride.t).nodup_iff, List.map_append, List.nodup_append]
      refine ⟨hn, by simp, fun a ha b hb => ?_⟩
      simp at hb; subst hb
      obtain ⟨x, hx, rfl⟩ := List.mem_map.1 ha
      exact h x hx
theorem addL_srt {l : List Ride} {r : Ride} (hl : isort ltR l = l) (hn : ((addL l r).map Ride.t).Nodup) : isort ltR (addL l r) = addL l r := by
  by_cases h : r ∈ l
  · rw [addL_in h]; exact hl
  · rw [addL_out h] at hn ⊢
    exact (misort_eq (isort_perm (lt := ltR) (l ++ [r])) hn)
/-- The second ride goes in, too. -/
theorem ok_second {m : Mon} {r1 r2 : Ride} (hl : m.rides.length ≤ 1000) (hne : r1.t ≠ r2.t) (h2 : OkAdd m r2) : OkAdd { m with rides := addL m.rides r1 } r2 := by
  rcases h2 with h2 | ⟨h2, h3, -⟩
  · exact .inl (mem_addL.2 (.inl h2))
  · refine .inr ⟨fun x hx => ?_, h3, ?_⟩
    · rcases mem_addL.1 hx with hx | rfl
      · exact h2 x hx
      · exact hne
    · have := addL_len m.rides r1
      show (addL m.rides r1).length < 2048
      omega
/-- Either order makes the same row. -/
theorem addL_comm {m : Mon} {r1 r2 : Ride} (hl : m.rides.length ≤ 1000) (hn : (m.rides.map Ride.t).Nodup) (hne : r1.t ≠ r2.t) (h1 : OkAdd m r1) (h2 : OkAdd m r2) : addL (addL m.rides r1) r2 = addL (addL m.rides r2) r1 := by
  by_cases q1 : r1 ∈ m.rides
  · rw [addL_in q1, addL_in (mem_addL.2 (.inl q1))]
  by_cases q2 : r2 ∈ m.rides
  · rw [addL_in q2, addL_in (mem_addL.2 (.inl q2))]
  have n1 : r2 ∉ addL m.rides r1 := fun h => by
    rcases mem_addL.1 h with h | h
    · exact q2 h
    · exact hne (by rw [h])
  have n2 : r1 ∉ addL m.rides r2 := fun h => by
    rcases mem_addL.1 h with h | h
    · exact q1 h
    · exact hne (by rw [h])
  have t2 := addL_t (m := { m with rides := addL m.rides r1 }) (addL_t hn h1) (ok_second hl hne h2)
  have hp : (addL m.rides r1 ++ [r2]).Perm (addL m.rides r2 ++ [r1]) := by
    rw [addL_out q1, addL_out q2]
    refine ((isort_perm (lt := ltR) (m.rides ++ [r1])).append_right [r2]).trans (List.Perm.trans ?_ ((isort_perm (lt := ltR) (m.rides ++ [r2])).append_right [r1]).symm)
    rw [List.append_assoc, List.append_assoc]
    exact (List.Perm.swap r2 r1 []).append_left m.rides
  rw [addL_out n1, addL_out n2]
  refine misort_eq hp ?_
  simp only [] at t2
  rw [addL_out n1] at t2
  exact ((isort_perm (lt := ltR) (addL m.rides r1 ++ [r2])).map Ride.t).nodup_iff.1 t2
/-- Both rides are there once. -/
theorem two_once {l : List Ride} {r1 r2 : Ride} (hn : (l.map Ride.t).Nodup) (h1 : r1 ∈ l) (h2 : r2 ∈ l) (hne : r1.t ≠ r2.t) : (l.filter fun x => decide (x = r2 ∨ x = r1)).length = 2 := by
  have hl : l.Nodup := List.Pairwise.of_map Ride.t (fun a b h e => h (by rw [e])) hn
  have h3 : (l.filter fun x => decide (x = r2 ∨ x = r1)).Perm [r1, r2] := by
    refine (List.perm_ext_iff_of_nodup (hl.filter _) ?_).2 fun x => ?_
    · simp; intro e; exact hne (by rw [e])
    · simp [List.mem_filter]
      constructor
      · rintro ⟨-, h | h⟩
        · exact .inr h
        · exact .inl h
      · rintro (rfl | rfl)
        · exact ⟨h1, .inr rfl⟩
        · exact ⟨h2, .inl rfl⟩
  exact h3.length_eq

/-! ### The same of months -/
theorem findM_set : ∀ (ms : List Mon) (A M : Int) (j : Nat) (m m' : Mon), ms[j]? = some m → m'.a = m.a → m'.m = m.m → findM (ms.set j m') A M = findM ms A M
  | [], _, _, j, m, _, h, _, _ => by simp at h
  | x :: ms, A, M, 0, m, m', h, e1, e2 => by
    simp at h; subst h
    have : isM A M m' ↔ isM A M x := by unfold isM; rw [e1, e2]
    unfold findM
    simp only [List.set_cons_zero]
    by_cases q : isM A M x
    · rw [if_pos q, if_pos (this.2 q)]
    · rw [if_neg q, if_neg (fun z => q (this.1 z))]
  | x :: ms, A, M, j + 1, m, m', h, e1, e2 => by
    have h3 := findM_set ms A M j m m' (by simpa using h) e1 e2
    simp only [List.set_cons_succ]
    unfold findM
    rw [h3]
theorem right_set {ms : List Mon} {j : Nat} {m m' : Mon} (h : RightM ms) (hm : ms[j]? = some m) (e1 : m'.a = m.a) (e2 : m'.m = m.m) (ho : OneM m') : RightM (ms.set j m') := by
  refine ⟨by rw [List.length_set]; exact h.1, fun i x hi hx => ?_⟩
  rw [List.length_set] at hi
  have hjl := (List.getElem?_eq_some_iff.1 hm).1
  have key : ∀ (k : Nat) (y : Mon), (ms.set j m')[k]? = some y → ∃ z, ms[k]? = some z ∧ y.a = z.a ∧ y.m = z.m ∧ (y = m' ∨ y = z) := by
    intro k y hy
    by_cases q : j = k
    · subst q
      rw [List.getElem?_set_self hjl] at hy
      cases hy
      exact ⟨m, hm, e1, e2, .inl rfl⟩
    · rw [List.getElem?_set_ne q] at hy
      exact ⟨y, hy, rfl, rfl, .inr rfl⟩
  obtain ⟨z, hz, za, zm, hor⟩ := key i x hx
  obtain ⟨g1, g2⟩ := h.2 i z hi hz
  constructor
  · rcases hor with rfl | rfl
    · exact ho
    · exact g1
  · intro k p hk hp
    obtain ⟨y, hy, ya, ym, -⟩ := key k p hp
    have := g2 k y hk hy
    unfold aheadM at this ⊢
    rw [ya, ym, za, zm]; exact this
theorem right_at {ms : List Mon} {j : Nat} {m : Mon} (h : RightM ms) (hm : ms[j]? = some m) : OneM m := (h.2 j m (List.getElem?_eq_some_iff.1 hm).1 hm).1
theorem one_add {m : Mon} {r : Ride} (h : OneM m) (hr : RightP [r]) (hl : m.rides.length ≤ 1000) (ho : OkAdd m r) : OneM { m with rides := addL m.rides r } := by
  have ht := addL_t h.2.2.2.2 ho
  refine ⟨h.1, addL_srt h.2.1 ht, ?_, fun x hx => ?_, ht⟩
  · have := addL_len m.rides r
    show (addL m.rides r).length ≤ 2048
    omega
  · rcases mem_addL.1 hx with hx | rfl
    · exact h.2.2.2.1 x hx
    · exact hr.2.1 x (by simp)
/-- A ride added to the month at j. -/
noncomputable def addMs (ms : List Mon) (j : Nat) (m : Mon) (r : Ride) : List Mon := ms.set j { m with rides := addL m.rides r }
theorem add_ok {ms : List Mon} {A M : Int} {r : Ride} {j : Nat} {m : Mon} (h : RightM ms) (hr : RightP [r]) (hf : findM ms A M = j) (hm : ms[j]? = some m) (ho : OkAdd m r) : turnE 1 ms A M r = 0 ∧ turnR 1 ms A M r = addMs ms j m r := by
  have hma : monAt ms A M = m := by unfold monAt; rw [hf, Int.toNat_natCast, List.getD_eq_getElem?_getD, hm]; rfl
  obtain ⟨h1, h2⟩ := tn_at (k := 1) (r := r) ⟨h, .inr hr⟩ hf hma (by decide)
  have h0 : oneE 1 m r = 0 := (oneE_iff (right_at h hm).2.2.2.2).2 ho
  refine ⟨h1.trans h0, ?_⟩
  rw [h2]
  unfold rideR addMs
  rw [if_pos h0]
  rcases findR_cases m.rides r.t with ⟨q1, q2⟩ | ⟨k, x, q1, q2, q3, q4, -⟩
  · have hni : r ∉ m.rides := fun q => q2 r q rfl
    rw [q1, if_neg (by omega), addL_out hni, othR_all q2, withM_set hm]
  · rw [q1, if_pos ⟨rfl, by omega⟩]
    have hin : r ∈ m.rides := by
      rcases ho with ho | ⟨ho, -, -⟩
      · exact ho
      · exact absurd q4 (ho x (List.mem_of_getElem? q3))
    rw [addL_in hin, list_set_same hm]
/-- What an error of 0 says. -/
theorem add_of {ms : List Mon} {A M : Int} {r : Ride} (h : turnE 1 ms A M r = 0) : RightM ms ∧ RightP [r] ∧ ∃ (j : Nat) (m : Mon), findM ms A M = j ∧ ms[j]? = some m ∧ OkAdd m r := by
  by_cases h1 : RightM ms ∧ ((1 : Int) = 3 ∨ RightP [r])
  · by_cases h2 : findM ms A M < 0
    · rw [(tn_none h1 h2).1] at h; cases h
    · obtain ⟨j, m, g1, g2, g3⟩ := find_mon h2
      rw [(tn_at h1 g1 g3 (by decide)).1] at h
      refine ⟨h1.1, h1.2.resolve_left (by decide), j, m, g1, g2, (oneE_iff (right_at h1.1 g2).2.2.2.2).1 h⟩
  · rw [(tn_bad h1).1] at h; cases h
/-- The law, in plain words. -/
theorem fits_plain {ms : List Mon} {A M : Int} {r1 r2 : Ride} (hl : ∀ m ∈ ms, m.rides.length ≤ 50) (hne : r1.t ≠ r2.t) (h1 : turnE 1 ms A M r1 = 0) (h2 : turnE 1 ms A M r2 = 0) :
    ∃ (j : Nat) (m : Mon) (X Y Z : List Mon), turnR 1 ms A M r1 = X ∧ turnR 1 ms A M r2 = Y ∧ turnE 1 X A M r2 = 0 ∧ turnR 1 X A M r2 = Z ∧ turnE 1 Y A M r1 = 0 ∧ turnR 1 Y A M r1 = Z ∧ turnE 1 Z A M r1 = 0 ∧ turnR 1 Z A M r1 = Z ∧ RightM Z ∧ findM Z A M = j ∧ Z[j]? = some m ∧ r1 ∈ m.rides ∧ r2 ∈ m.rides ∧ (m.rides.filter fun x => decide (x = r2 ∨ x = r1)).length = 2 ∧ OneM m ∧ m.rides.length ≤ 52 ∧ (∀ (L : List Mon), L = X ∨ L = Y ∨ L = Z → L.length = ms.length ∧ ∀ m ∈ L, m.rides.length ≤ 52 ∧ ∀ x ∈ m.rides, x = r1 ∨ x = r2 ∨ ∃ p ∈ ms, x ∈ p.rides) := by
  obtain ⟨hr, hr1, j, m, hf, hm, o1⟩ := add_of h1
  obtain ⟨-, hr2, j', m', hf', hm', o2⟩ := add_of h2
  have ej : j' = j := by omega
  subst ej
  have em : m' = m := by rw [hm] at hm'; exact (Option.some.inj hm').symm
  subst em
  have hO := right_at hr hm
  have hml : m'.rides.length ≤ 50 := hl m' (List.mem_of_getElem? hm)
  have hjl := (List.getElem?_eq_some_iff.1 hm).1
  have p1 := one_add hO hr1 (by omega) o1
  have p2 := one_add hO hr2 (by omega) o2
  have l1 := addL_len m'.rides r1
  have l2 := addL_len m'.rides r2
  have s1 := ok_second (r1 := r1) (r2 := r2) (by omega) hne o2
  have s2 := ok_second (r1 := r2) (r2 := r1) (by omega) (fun e => hne e.symm) o1
  have R1 : RightM (addMs ms j' m' r1) := right_set hr hm rfl rfl p1
  have R2 : RightM (addMs ms j' m' r2) := right_set hr hm rfl rfl p2
  have F1 : findM (addMs ms j' m' r1) A M = j' := (findM_set ms A M j' m' { m' with rides := addL m'.rides r1 } hm rfl rfl).trans hf
  have F2 : findM (addMs ms j' m' r2) A M = j' := (findM_set ms A M j' m' { m' with rides := addL m'.rides r2 } hm rfl rfl).trans hf
  have G1 : (addMs ms j' m' r1)[j']? = some { m' with rides := addL m'.rides r1 } := List.getElem?_set_self hjl
  have G2 : (addMs ms j' m' r2)[j']? = some { m' with rides := addL m'.rides r2 } := List.getElem?_set_self hjl
  obtain ⟨a1, b1⟩ := add_ok hr hr1 hf hm o1
  obtain ⟨a2, b2⟩ := add_ok hr hr2 hf hm o2
  obtain ⟨a3, b3⟩ := add_ok R1 hr2 F1 G1 s1
  obtain ⟨a4, b4⟩ := add_ok R2 hr1 F2 G2 s2
  have hcomm := addL_comm (m := m') (r1 := r1) (r2 := r2) (by omega) hO.2.2.2.2 hne o1 o2
  have e3 : addMs (addMs ms j' m' r1) j' { m' with rides := addL m'.rides r1 } r2 = ms.set j' { m' with rides := addL (addL m'.rides r1) r2 } := by unfold addMs; rw [List.set_set]
  have e4 : addMs (addMs ms j' m' r2) j' { m' with rides := addL m'.rides r2 } r1 = ms.set j' { m' with rides := addL (addL m'.rides r1) r2 } := by unfold addMs; rw [List.set_set, hcomm]
  rw [e3] at b3
  rw [e4] at b4
  have p3 := one_add p1 hr2 (by show (addL m'.rides r1).length ≤ 1000; omega) s1
  have l3 := addL_len (addL m'.rides r1) r2
  have GZ : (ms.set j' { m' with rides := addL (addL m'.rides r1) r2 })[j']? = some { m' with rides := addL (addL m'.rides r1) r2 } := List.getElem?_set_self hjl
  have FZ : findM (ms.set j' { m' with rides := addL (addL m'.rides r1) r2 }) A M = j' := (findM_set ms A M j' m' { m' with rides := addL (addL m'.rides r1) r2 } hm rfl rfl).trans hf
  have RZ : RightM (ms.set j' { m' with rides := addL (addL m'.rides r1) r2 }) := right_set hr hm rfl rfl p3
  have in1 : r1 ∈ addL (addL m'.rides r1) r2 := mem_addL.2 (.inl (mem_addL.2 (.inr rfl)))
  have in2 : r2 ∈ addL (addL m'.rides r1) r2 := mem_addL.2 (.inr rfl)
  obtain ⟨a5, b5⟩ := add_ok RZ hr1 FZ GZ (.inl in1)
  have e5 : addMs (ms.set j' { m' with rides := addL (addL m'.rides r1) r2 }) j' { m' with rides := addL (addL m'.rides r1) r2 } r1 = ms.set j' { m' with rides := addL (addL m'.rides r1) r2 } := by
    unfold addMs
    simp only [addL_in in1]
    rw [List.set_set]
  rw [e5] at b5
  have small : ∀ (l : List Ride), l.length ≤ 52 → (∀ x ∈ l, x = r1 ∨ x = r2 ∨ x ∈ m'.rides) → ∀ q ∈ ms.set j' { m' with rides := l }, q.rides.length ≤ 52 ∧ ∀ x ∈ q.rides, x = r1 ∨ x = r2 ∨ ∃ p ∈ ms, x ∈ p.rides := by
    intro l hl1 hl2 q hq
    rcases List.mem_or_eq_of_mem_set hq with hq | rfl
    · exact ⟨by have := hl q hq; omega, fun x hx => .inr (.inr ⟨q, hq, hx⟩)⟩
    · exact ⟨hl1, fun x hx => by
        rcases hl2 x hx with h | h | h
        · exact .inl h
        · exact .inr (.inl h)
        · exact .inr (.inr ⟨m', List.mem_of_getElem? hm, h⟩)⟩
  refine ⟨j', _, _, _, _, b1, b2, a3, b3, a4, b4, a5, b5, RZ, FZ, GZ, in1, in2, two_once p3.2.2.2.2 in1 in2 hne, p3, by show (addL (addL m'.rides r1) r2).length ≤ 52; omega, fun L hL => ?_⟩
  rcases hL with rfl | rfl | rfl
  · exact ⟨List.length_set, small _ (by omega) (fun x hx => by rcases mem_addL.1 hx with h | h; exact .inr (.inr h); exact .inl h)⟩
  · exact ⟨List.length_set, small _ (by omega) (fun x hx => by rcases mem_addL.1 hx with h | h; exact .inr (.inr h); exact .inr (.inl h))⟩
  · refine ⟨List.length_set, small _ (by omega) (fun x hx => ?_)⟩
    rcases mem_addL.1 hx with h | h
    · rcases mem_addL.1 h with h | h
      · exact .inr (.inr h)
      · exact .inl h
    · exact .inr (.inl h)
/-- An error leaves nothing. -/
theorem turn_nil {k : Int} {ms : List Mon} {A M : Int} {r : Ride} (h : turnE k ms A M r ≠ 0) : turnR k ms A M r = [] := by unfold turnR; rw [if_neg h]
end Go.Proofs.Ytbdkhgenkekioaa

namespace Go.Proofs.Ytbdkhgenkekioaa
open Go.RowKit Go.V Go.Sort Go.Shelf Go.Proofs Go.Maps Go.Proofs.Ytbdkhgenkekioaa.Wi
open Go.Proofs.Ytbdkhgenkekioaa.Ne (box_alloc box_new box_cell box_below box_lt)

/-- The two boxes of the play, in a world. -/
structure FX (w W : World) (q : AskP) (h : Hdr) (r : Ride) : Prop where
  bl : Below w.heap.size w W
  ask : W.heap[w.heap.size]? = some (.cells #[.int .i64 q.A, .int .i64 q.M, .int .i64 q.T, .int .i64 q.S, .int .i64 q.r.t, .int .i64 q.r.s, .int .i64 q.r.e, .int .i64 q.r.f, .int .i64 q.o.a, .int .i64 q.o.m, .int .i64 q.o.t, .int .i64 q.o.c, .slice h.a h.n h.cap, .bool q.o.z] 29 (0, 0))
  ride : W.heap[w.heap.size + 1]? = some (.cells #[.int .i64 r.t, .int .i64 r.s, .int .i64 r.e, .int .i64 r.f] 24 (0, 0))
section
variable {w W W' : World} {q : AskP} {h : Hdr} {r : Ride}
theorem FX.below (hx : FX w W q h r) (hb : Below W.heap.size W W') : FX w W' q h r := ⟨hx.bl.trans (hb.mono hx.bl.size), box_below hx.ask hb, box_below hx.ride hb⟩
theorem FX.alloc (hx : FX w W q h r) (o : Obj) : FX w (W.alloc o) q h r := hx.below ((Below.refl _ _).alloc (Nat.le_refl _) o)
theorem FX.drewN (hx : FX w W q h r) (n : Nat) : FX w (W.drewN n) q h r := hx.below (Go.Proofs.Ytbdkhgenkekioaa.Ne.below_drewN (Below.refl _ _) n)
theorem FX.new (w : World) (q : AskP) (h : Hdr) (r : Ride) : FX w ((w.alloc (.cells #[.int .i64 q.A, .int .i64 q.M, .int .i64 q.T, .int .i64 q.S, .int .i64 q.r.t, .int .i64 q.r.s, .int .i64 q.r.e, .int .i64 q.r.f, .int .i64 q.o.a, .int .i64 q.o.m, .int .i64 q.o.t, .int .i64 q.o.c, .slice h.a h.n h.cap, .bool q.o.z] 29)).alloc (.cells #[.int .i64 r.t, .int .i64 r.s, .int .i64 r.e, .int .i64 r.f] 24)) q h r := by
  refine ⟨((Below.refl _ _).alloc (Nat.le_refl _) _).alloc (by simp) _, box_alloc (box_new w _), ?_⟩
  have := box_new (w.alloc (.cells #[.int .i64 q.A, .int .i64 q.M, .int .i64 q.T, .int .i64 q.S, .int .i64 q.r.t, .int .i64 q.r.s, .int .i64 q.r.e, .int .i64 q.r.f, .int .i64 q.o.a, .int .i64 q.o.m, .int .i64 q.o.t, .int .i64 q.o.c, .slice h.a h.n h.cap, .bool q.o.z] 29)) (.cells #[.int .i64 r.t, .int .i64 r.s, .int .i64 r.e, .int .i64 r.f] 24)
  rwa [World.size_alloc] at this
theorem FX.cells (hx : FX w W q h r) : W.cell? ⟨w.heap.size, 0, none⟩ = some (.int .i64 q.A) ∧ W.cell? ⟨w.heap.size, 1, none⟩ = some (.int .i64 q.M) ∧ W.cell? ⟨w.heap.size, 4, none⟩ = some (.int .i64 q.r.t) ∧ W.cell? ⟨w.heap.size, 5, none⟩ = some (.int .i64 q.r.s) ∧ W.cell? ⟨w.heap.size, 6, none⟩ = some (.int .i64 q.r.e) ∧ W.cell? ⟨w.heap.size, 7, none⟩ = some (.int .i64 q.r.f) ∧
    W.cell? ⟨w.heap.size + 1, 0, none⟩ = some (.int .i64 r.t) ∧ W.cell? ⟨w.heap.size + 1, 1, none⟩ = some (.int .i64 r.s) ∧ W.cell? ⟨w.heap.size + 1, 2, none⟩ = some (.int .i64 r.e) ∧ W.cell? ⟨w.heap.size + 1, 3, none⟩ = some (.int .i64 r.f) :=
  ⟨(box_cell hx.ask 0).1, (box_cell hx.ask 1).1, (box_cell hx.ask 4).1, (box_cell hx.ask 5).1, (box_cell hx.ask 6).1, (box_cell hx.ask 7).1, (box_cell hx.ride 0).1, (box_cell hx.ride 1).1, (box_cell hx.ride 2).1, (box_cell hx.ride 3).1⟩
theorem FX.lt (hx : FX w W q h r) : w.heap.size + 1 < W.heap.size := box_lt hx.ride
end

theorem flat_le {α : Type} {f : α → List Int} {B : Nat} : ∀ (l : List α), (∀ x ∈ l, (f x).length ≤ B) → (l.flatMap f).length ≤ l.length * B
  | [], _ => by simp
  | x :: l, h => by
    have h1 := flat_le l (fun y hy => h y (by simp [hy]))
    have h2 := h x (by simp)
    rw [List.flatMap_cons, List.length_append, List.length_cons, Nat.add_mul]
    omega
theorem enM_byt {m : Mon} (h : OneM m) : Byt (enM m) := by
  intro x hx
  unfold enM at hx
  simp only [List.mem_append, List.mem_flatMap, List.mem_singleton] at hx
  rcases hx with (⟨k, hk, hx⟩ | ⟨r, hr, hx⟩) | rfl
  · have := heM_bound h k hk
    exact putV_byt _ (by omega) x hx
  · exact enR_byt (h.2.2.2.1 r hr) x hx
  · unfold zB; split <;> omega
theorem enM_len {m : Mon} (h : OneM m) : (enM m).length ≤ 82000 := by
  have h1 : ((heM m).flatMap enN).length ≤ (heM m).length * 10 := flat_le _ (fun k hk => putV_10 _ (by have := heM_bound h k hk; omega))
  have h2 : (m.rides.flatMap enR).length ≤ m.rides.length * 40 := flat_le _ (fun r hr => enR_len (h.2.2.2.1 r hr))
  have h3 := h.2.2.1
  have h4 : (heM m).length = 5 := rfl
  unfold enM
  simp only [List.length_append, List.length_singleton]
  omega
theorem putMs_ok {ms : List Mon} (h : RightM ms) : Byt (putMs ms) ∧ (putMs ms).length ≤ 1000000000 := by
  have ho : ∀ m ∈ ms, OneM m := fun m hm => by
    obtain ⟨i, hi, rfl⟩ := List.getElem_of_mem hm
    exact right_at h (List.getElem?_eq_getElem hi)
  have hl := h.1
  constructor
  · intro x hx
    unfold putMs at hx
    simp only [List.mem_append, List.mem_flatMap] at hx
    rcases hx with hx | ⟨m, hm, hx⟩
    · exact putV_byt _ (by omega) x hx
    · exact enM_byt (ho m hm) x hx
  · have h1 : (ms.flatMap enM).length ≤ ms.length * 82000 := flat_le _ (fun m hm => enM_len (ho m hm))
    have h2 := putV_10 ms.length (by omega)
    unfold putMs
    rw [List.length_append]
    omega
theorem findZ (a : Option Addr) (n c : Nat) (hs : List Hdr) (Z : List Mon) (A M : Int) (j : Nat) (m : Mon) (w : World) (hn : n ≤ 1000000) (hl : ∀ m ∈ Z, m.rides.length ≤ 1000000) (h : MonIn w a n c hs Z) (hf : findM Z A M = j) (hm : Z[j]? = some m) :
    Calls Try.prog 18 #[.slice a n c, .int .i64 A, .int .i64 M] w fun e w' => ∃ q : Hdr, e = .returned (.tuple #[.agg #[.int .i64 m.a, .int .i64 m.m, .int .i64 m.t, .int .i64 m.c, .slice q.a m.rides.length q.cap, .bool m.z], .bool true]) ∧ Sl Ride.cod w' q.a m.rides.length q.cap m.rides ∧ Below w.heap.size w w' := by
  refine (mfind2_any a n c hs Z A M w hn hl h).mono ?_
  rintro e w' ⟨h1, h2⟩
  rcases h1 with ⟨h1, -⟩ | ⟨k, m', ⟨qa, qn, qc⟩, h1, h3, -, rfl, h4⟩
  · omega
  · have : k = j := by omega
    subst this
    obtain rfl : m' = m := by rw [hm] at h3; exact (Option.some.inj h3).symm
    obtain rfl : qn = m'.rides.length := h4.hlen
    exact ⟨⟨qa, m'.rides.length, qc⟩, rfl, h4, h2⟩

set_option maxHeartbeats 8000000 in
set_option maxRecDepth 100000 in
theorem mfits_any (a : Option Addr) (n cap : Nat) (hs : List Hdr) (ms : List Mon) (q : AskP) (h : Hdr) (r : Ride) (w : World) (h0 : MonIn w a n cap hs ms) (hok : ∀ m ∈ ms, ∀ r ∈ m.rides, Ride.ok r) (hro : Ride.ok q.r) (_ : ∀ r ∈ q.o.rides, Ride.ok r) (hr : Sl Ride.cod w h.a h.n h.cap q.o.rides) (hr2 : Ride.ok r) :
    Calls Try.prog 5 #[.slice a n cap, q.val h, r.val] w fun e w' => e = .returned (.bool true) ∧ Below w.heap.size w w' := by
  have mixed : Try.prog.follows .mixedOrders = true := by kernel_rfl
  obtain ⟨ha, hnn, hc⟩ := h
  obtain rfl : hnn = q.o.rides.length := hr.hlen
  unfold AskP.val Ride.val
  have HN := Lib.hid h0.n_eq
  have HX0 := Lib.hid (FX.new w q ⟨ha, q.o.rides.length, hc⟩ r)
  have B0 := Lib.hid HX0.out.bl
  obtain ⟨p1, hp1⟩ : ∃ p, decide (FewM ms) = p := ⟨_, rfl⟩
  have HP := Lib.hid hp1
  clear hp1
  cases p1 with
  | false =>
    go_enter Try.func5, Try.ntmps5
    go_wp2_with (first
      | (go_at_call 7; refine (awake37 _).mono ?_; rintro e w1 ⟨rfl, hb1⟩; have HB1 := Lib.hid (B0.out.trans (hb1.mono B0.out.size)); clear hb1)
      | (go_at_call 8; go_fit (few37_any a n cap hs ms _ (h0.below HB1.out)); rintro e w2 ⟨rfl, hb2⟩; rw [HP.out]; have HB2 := Lib.hid (HB1.out.trans (hb2.mono HB1.out.size)); clear hb2))
    go_ret
    exact ⟨rfl, HB2.out⟩
  | true =>
    have hf1 : FewM ms := of_decide_eq_true HP.out
    have hn : n ≤ 20 := by rw [HN.out]; exact hf1.2
    have HF := Lib.hid hf1
    clear hf1
    by_cases hne : q.r.t = r.t
    · have hqe : (q.r.t == r.t) = true := by simpa using hne
      clear hne
      go_enter Try.func5, Try.ntmps5
      go_wp2_with (first
        | (go_at_call 7; refine (awake37 _).mono ?_; rintro e w1 ⟨rfl, hb1⟩; have HX1 := Lib.hid (HX0.out.below hb1); clear hb1)
        | (go_at_call 8; go_fit (few37_any a n cap hs ms _ (h0.below HX1.out.bl)); rintro e w2 ⟨rfl, hb2⟩; rw [HP.out]; have HX2 := Lib.hid (HX1.out.below hb2); obtain ⟨y0, y1, y4, y5, y6, y7, z0, z1, z2, z3⟩ := HX2.out.cells; have hx2 := HX2.out.lt; clear hb2))
      go_ret
      exact ⟨rfl, HX2.out.bl⟩
    have hqe : (q.r.t == r.t) = false := by simpa using hne
    have HNE := Lib.hid hne
    clear hne
    obtain ⟨e1, he1⟩ : ∃ e, turnE 1 ms q.A q.M q.r = e := ⟨_, rfl⟩
    obtain ⟨e2, he2⟩ : ∃ e, turnE 1 ms q.A q.M r = e := ⟨_, rfl⟩
    obtain ⟨X, hX⟩ : ∃ e, turnR 1 ms q.A q.M q.r = e := ⟨_, rfl⟩
    obtain ⟨Y, hY⟩ : ∃ e, turnR 1 ms q.A q.M r = e := ⟨_, rfl⟩
    have HE : Hid ((turnE 1 ms q.A q.M q.r = e1 ∧ turnR 1 ms q.A q.M q.r = X) ∧ (turnE 1 ms q.A q.M r = e2 ∧ turnR 1 ms q.A q.M r = Y)) := ⟨⟨he1, hX⟩, ⟨he2, hY⟩⟩
    clear he1 he2 hX hY
    go_enter Try.func5, Try.ntmps5
    go_upto_region 7 with (first
      | (go_at_call 7; refine (awake37 _).mono ?_; rintro e w1 ⟨rfl, hb1⟩; have HX1 := Lib.hid (HX0.out.below hb1); clear hb1)
      | (go_at_call 8; go_fit (few37_any a n cap hs ms _ (h0.below HX1.out.bl)); rintro e w2 ⟨rfl, hb2⟩; rw [HP.out]; have HX2 := Lib.hid (HX1.out.below hb2); obtain ⟨y0, y1, y4, y5, y6, y7, z0, z1, z2, z3⟩ := HX2.out.cells; have hx2 := HX2.out.lt; clear hb2)
      | (go_at_call 14; go_fit (madd_any a n cap hs ms q.A q.M q.r w2 (by omega) (fun m hm => by have := HF.out.1 m hm; omega) hok hro (h0.below HX2.out.bl)); rintro e w3 ⟨v3, rfl, hq3, hb3⟩; rw [HE.out.1.2] at hq3; rw [HE.out.1.1]; obtain ⟨a3, c3, hs3, rfl, hin3⟩ := hq3; have HI3 := Lib.hid hin3; have HX3 := Lib.hid (HX2.out.below hb3); clear hb3 hin3 y0 y1 y4 y5 y6 y7 z0 z1 z2 z3 hx2; obtain ⟨y0, y1, y4, y5, y6, y7, z0, z1, z2, z3⟩ := HX3.out.cells; have hx2 := HX3.out.lt)
      | (go_at_call 14; go_fit (madd_any a n cap hs ms q.A q.M r w3 (by omega) (fun m hm => by have := HF.out.1 m hm; omega) hok hr2 (h0.below HX3.out.bl)); rintro e w4 ⟨v4, rfl, hq4, hb4⟩; rw [HE.out.2.2] at hq4; rw [HE.out.2.1]; obtain ⟨a4, c4, hs4, rfl, hin4⟩ := hq4; have HI4 := Lib.hid hin4; have HI3' := Lib.hid (HI3.out.below hb4); have HX4 := Lib.hid (HX3.out.below hb4); clear hb4 hin4 y0 y1 y4 y5 y6 y7 z0 z1 z2 z3 hx2; obtain ⟨y0, y1, y4, y5, y6, y7, z0, z1, z2, z3⟩ := HX4.out.cells; have hx2 := HX4.out.lt))
    by_cases hd1 : e1 = 0
    case neg =>
      have hX : X = [] := by rw [← HE.out.1.2]; exact turn_nil (by rw [HE.out.1.1]; exact hd1)
      subst hX
      by_cases hd2 : e2 = 0
      case neg =>
        have hY : Y = [] := by rw [← HE.out.2.2]; exact turn_nil (by rw [HE.out.2.1]; exact hd2)
        subst hY
        have g1 : (e1 != 0) = true := by simpa using hd1
        have g2 : (e2 != 0) = true := by simpa using hd2
        have g3 : (e1 == 0) = false := by simpa using hd1
        have g4 : (e2 == 0) = false := by simpa using hd2
        clear hd1 hd2
        go_wp2_with fail
        go_ret
        exact ⟨by simp, HX4.out.bl⟩
      subst hd2
      have g1 : (e1 != 0) = true := by simpa using hd1
      have g3 : (e1 == 0) = false := by simpa using hd1
      clear hd1
      go_wp2_with fail
      go_ret
      exact ⟨by simp, HX4.out.bl⟩
    subst hd1
    by_cases hd2 : e2 = 0
    case neg =>
      have hY : Y = [] := by rw [← HE.out.2.2]; exact turn_nil (by rw [HE.out.2.1]; exact hd2)
      subst hY
      have g2 : (e2 != 0) = true := by simpa using hd2
      have g4 : (e2 == 0) = false := by simpa using hd2
      clear hd2
      go_wp2_with fail
      go_ret
      exact ⟨by simp, HX4.out.bl⟩
    subst hd2
    have HPL := Lib.hid (fits_plain HF.out.1 HNE.out HE.out.1.1 HE.out.2.1)
    obtain ⟨j, m, X', Y', Z, hx', hy', c1, c2, c3, c4, c5, c6, hRZ, hFZ, hmZ, hi1, hi2, hcnt, hone, hml, hsm⟩ := HPL.out
    obtain rfl : X' = X := hx'.symm.trans HE.out.1.2
    obtain rfl : Y' = Y := hy'.symm.trans HE.out.2.2
    have HC := Lib.hid (And.intro (And.intro c1 c2) (And.intro (And.intro c3 c4) (And.intro c5 c6)))
    have oks : ∀ L, L = X' ∨ L = Y' ∨ L = Z → L.length ≤ 20 ∧ (∀ m ∈ L, m.rides.length ≤ 52) ∧ ∀ m ∈ L, ∀ x ∈ m.rides, Ride.ok x := fun L hL => by
      obtain ⟨g1, g2⟩ := hsm L hL
      refine ⟨by rw [g1, ← HN.out]; exact hn, fun m hm => (g2 m hm).1, fun m hm x hx => ?_⟩
      rcases (g2 m hm).2 x hx with rfl | rfl | ⟨p, hp, hx⟩
      · exact hro
      · exact hr2
      · exact hok p hp x hx
    have HOX := Lib.hid (oks X' (.inl rfl))
    have HOY := Lib.hid (oks Y' (.inr (.inl rfl)))
    have HOZ := Lib.hid (oks Z (.inr (.inr rfl)))
    have HRZ := Lib.hid hRZ
    have HFZ := Lib.hid hFZ
    have HMZ := Lib.hid hmZ
    have HCNT := Lib.hid hcnt
    have HI1 := Lib.hid hi1
    have HI2 := Lib.hid hi2
    have HONE := Lib.hid hone
    have HML := Lib.hid hml
    clear hRZ hFZ hmZ hi1 hi2 hcnt hone hml hsm oks c1 c2 c3 c4 c5 c6 hx' hy' HPL
    go_upto_region 12 with (first
      | (go_at_call 14; (go_fit (madd_any a3 X'.length c3 hs3 X' q.A q.M r w4 (by have := HOX.out.1; omega) (fun m hm => by have := HOX.out.2.1 m hm; omega) HOX.out.2.2 hr2 HI3'.out)); rintro e w5 ⟨v5, rfl, hq5, hb5⟩; rw [HC.out.1.2] at hq5; rw [HC.out.1.1]; obtain ⟨a5, c5, hs5, rfl, hin5⟩ := hq5; have HI5 := Lib.hid hin5; have HI4' := Lib.hid (HI4.out.below hb5); have HX5 := Lib.hid (HX4.out.below hb5); clear hb5 hin5 y0 y1 y4 y5 y6 y7 z0 z1 z2 z3 hx2; obtain ⟨y0, y1, y4, y5, y6, y7, z0, z1, z2, z3⟩ := HX5.out.cells; have hx2 := HX5.out.lt)
      | (go_at_call 14; (go_fit (madd_any a4 Y'.length c4 hs4 Y' q.A q.M q.r w5 (by have := HOY.out.1; omega) (fun m hm => by have := HOY.out.2.1 m hm; omega) HOY.out.2.2 hro HI4'.out)); rintro e w6 ⟨v6, rfl, hq6, hb6⟩; rw [HC.out.2.1.2] at hq6; rw [HC.out.2.1.1]; obtain ⟨a6, c6, hs6, rfl, hin6⟩ := hq6; have HI6 := Lib.hid hin6; have HI56 := Lib.hid (HI5.out.below hb6); have HX6 := Lib.hid (HX5.out.below hb6); clear hb6 hin6 y0 y1 y4 y5 y6 y7 z0 z1 z2 z3 hx2; obtain ⟨y0, y1, y4, y5, y6, y7, z0, z1, z2, z3⟩ := HX6.out.cells; have hx2 := HX6.out.lt)
      | (go_at_call 14; (go_fit (madd_any a5 Z.length c5 hs5 Z q.A q.M q.r w6 (by have := HOZ.out.1; omega) (fun m hm => by have := HOZ.out.2.1 m hm; omega) HOZ.out.2.2 hro HI56.out)); rintro e w7 ⟨v7, rfl, hq7, hb7⟩; rw [HC.out.2.2.2] at hq7; rw [HC.out.2.2.1]; obtain ⟨a7, c7, hs7, rfl, hin7⟩ := hq7; have HI7 := Lib.hid hin7; have HI57 := Lib.hid (HI56.out.below hb7); have HI67 := Lib.hid (HI6.out.below hb7); have HX7 := Lib.hid (HX6.out.below hb7); clear hb7 hin7 y0 y1 y4 y5 y6 y7 z0 z1 z2 z3 hx2; obtain ⟨y0, y1, y4, y5, y6, y7, z0, z1, z2, z3⟩ := HX7.out.cells; have hx2 := HX7.out.lt))
    go_upto_region 14 with (first
      | (go_at_call 9; (go_fit (mright_any a5 Z.length c5 hs5 Z w7 (by have := HOZ.out.1; omega) (fun m hm => by have := HOZ.out.2.1 m hm; omega) HOZ.out.2.2 HI57.out)); rintro e w8 ⟨rfl, hb8⟩; rw [show decide (RightM Z) = true from decide_eq_true HRZ.out]; have HI58 := Lib.hid (HI57.out.below hb8); have HI68 := Lib.hid (HI67.out.below hb8); have HI78 := Lib.hid (HI7.out.below hb8); have HX8 := Lib.hid (HX7.out.below hb8); clear hb8 y0 y1 y4 y5 y6 y7 z0 z1 z2 z3 hx2)
      | (go_at_call 13; (go_fit (rmsame_eq a5 Z.length c5 hs5 a6 c6 hs6 Z w8 (by have := HOZ.out.1; omega) (fun m hm => by have := HOZ.out.2.1 m hm; omega) HI58.out HI68.out)); rintro e w9 ⟨rfl, hb9⟩; have HI59 := Lib.hid (HI58.out.below hb9); have HI79 := Lib.hid (HI78.out.below hb9); have HX9 := Lib.hid (HX8.out.below hb9); clear hb9)
      | (go_at_call 13; (go_fit (rmsame_eq a7 Z.length c7 hs7 a5 c5 hs5 Z w9 (by have := HOZ.out.1; omega) (fun m hm => by have := HOZ.out.2.1 m hm; omega) HI79.out HI59.out)); rintro e u1 ⟨rfl, hb10⟩; have HJ1 := Lib.hid (HI59.out.below hb10); have HU1 := Lib.hid (HX9.out.below hb10); obtain ⟨y0, y1, y4, y5, y6, y7, z0, z1, z2, z3⟩ := HU1.out.cells; have hx2 := HU1.out.lt; clear hb10))
    have HPO := Lib.hid (putMs_ok HRZ.out)
    have HTP := Lib.hid (take_put Z HRZ.out)
    go_upto_region 17 with (first
      | (go_at_call 21; (go_fit (mput_any a5 Z.length c5 hs5 Z u1 (by have := HOZ.out.1; omega) (fun m hm => by have := HOZ.out.2.1 m hm; omega) HOZ.out.2.2 HJ1.out)); rintro e u2 ⟨hb11, -, he⟩; obtain ⟨vb, rfl, ho⟩ := he HRZ.out; obtain ⟨ab, cb, rfl, hslb, -⟩ := ho.slice; have HSL := Lib.hid hslb; have HJ2 := Lib.hid (HJ1.out.below hb11); have HU2 := Lib.hid (HU1.out.below hb11); clear hb11 he ho hslb)
      | (go_at_call 24; go_loud (refine (mtake_any ab (putMs Z).length cb (putMs Z) u2 HSL.out HPO.out.1 HPO.out.2).mono ?_); rintro e u3 ⟨vt, rfl, hq12, hb12⟩; rw [HTP.out.2] at hq12; rw [HTP.out.1]; obtain ⟨a8, c8, hs8, rfl, hin8⟩ := hq12; have HI8 := Lib.hid hin8; have HJ3 := Lib.hid (HJ2.out.below hb12); have HU3 := Lib.hid (HU2.out.below hb12); clear hb12 hin8 y0 y1 y4 y5 y6 y7 z0 z1 z2 z3 hx2; obtain ⟨y0, y1, y4, y5, y6, y7, z0, z1, z2, z3⟩ := HU3.out.cells; have hx2 := HU3.out.lt)
      | (go_at_call 18; (go_fit (findZ a8 Z.length c8 hs8 Z q.A q.M j m u3 (by have := HOZ.out.1; omega) (fun m hm => by have := HOZ.out.2.1 m hm; omega) HI8.out HFZ.out HMZ.out)); rintro e u4 ⟨⟨qa, qn, qc⟩, rfl, hslq, hb13⟩; have HSQ := Lib.hid hslq; have HJ4 := Lib.hid (HJ3.out.below hb13); have HI84 := Lib.hid (HI8.out.below hb13); have HU4 := Lib.hid (HU3.out.below hb13); clear hb13 hslq y0 y1 y4 y5 y6 y7 z0 z1 z2 z3 hx2))
    have HMB := Lib.hid (box_new u4 (.cells #[.int .i64 m.a, .int .i64 m.m, .int .i64 m.t, .int .i64 m.c, .slice qa m.rides.length qc, .bool m.z] 27))
    have HBN : Hid (Below u4.heap.size u4 (u4.alloc (.cells #[.int .i64 m.a, .int .i64 m.m, .int .i64 m.t, .int .i64 m.c, .slice qa m.rides.length qc, .bool m.z] 27))) := (Below.refl _ _).alloc (Nat.le_refl _) _
    obtain ⟨V, hV⟩ : ∃ V, u4.alloc (.cells #[.int .i64 m.a, .int .i64 m.m, .int .i64 m.t, .int .i64 m.c, .slice qa m.rides.length qc, .bool m.z] 27) = V := ⟨_, rfl⟩
    rw [hV] at HMB HBN ⊢
    have HU5 := Lib.hid (HU4.out.below HBN.out)
    have HJ5 := Lib.hid (HJ4.out.below HBN.out)
    have HI85 := Lib.hid (HI84.out.below HBN.out)
    have HSQ5 := Lib.hid (HSQ.out.below HBN.out)
    obtain ⟨g, hg⟩ : ∃ g, u4.heap.size = g := ⟨_, rfl⟩
    rw [hg] at HMB ⊢
    clear hV hg HBN
    have mb4 : V.cell? ⟨g, 4, none⟩ = some (.slice qa m.rides.length qc) := (box_cell HMB.out 4).1
    have hgl : g < V.heap.size := box_lt HMB.out
    have hl52 : m.rides.length ≤ 52 := HML.out
    go_upto_region 19 with fail
    clear mb4 hgl
    go_loopw [23, 163] (fun vc vi wr => ∃ k : Nat, vc = .int .i64 (((m.rides.take k).filter fun x => decide (x = r ∨ x = q.r)).length : Int) ∧ vi = .int .i64 (k : Int) ∧ k ≤ m.rides.length ∧ Hid (Below V.heap.size V wr)) (fun _ vi _ => m.rides.length - (intOf vi).toNat)
    case atStart => exact ⟨0, by simp, by simp, by omega, Below.refl _ _⟩
    case round =>
      obtain ⟨k, rfl, rfl, hk, hB⟩ := hrel
      have HUr := Lib.hid (HU5.out.below hB.out)
      by_cases hlt : k < m.rides.length
      · have hkk : (k : Int) < (m.rides.length : Int) := by omega
        obtain ⟨cnt, hcn⟩ : ∃ c, ((m.rides.take k).filter fun x => decide (x = r ∨ x = q.r)).length = c := ⟨_, rfl⟩
        have hcle : cnt ≤ 52 := by
          have := List.length_filter_le (fun x => decide (x = r ∨ x = q.r)) (m.rides.take k)
          rw [hcn, List.length_take] at this
          omega
        rw [hcn]
        have HCN := Lib.hid hcn
        clear hcn
        obtain ⟨b, off, rfl, hb, x, hx, hc⟩ := (HSQ5.out.below hB.out).some hlt
        have HXX := Lib.hid hx
        have x0 : wr.cell? ⟨b, off + k * 4, none⟩ = some (.int .i64 x.t) := hc 0 _ rfl
        have x1 : wr.cell? ⟨b, off + k * 4 + 1, none⟩ = some (.int .i64 x.s) := hc 1 _ rfl
        have x2 : wr.cell? ⟨b, off + k * 4 + 2, none⟩ = some (.int .i64 x.e) := hc 2 _ rfl
        have x3 : wr.cell? ⟨b, off + k * 4 + 3, none⟩ = some (.int .i64 x.f) := hc 3 _ rfl
        clear hc hx
        go_upto_region 21 with fail
        clear x0 x1 x2 x3
        have HRB := Lib.hid (box_new wr (.cells #[.int .i64 x.t, .int .i64 x.s, .int .i64 x.e, .int .i64 x.f] 24))
        have HBR : Hid (Below V.heap.size V (wr.alloc (.cells #[.int .i64 x.t, .int .i64 x.s, .int .i64 x.e, .int .i64 x.f] 24))) := hB.out.alloc hB.out.size _
        obtain ⟨W, hW⟩ : ∃ W, wr.alloc (.cells #[.int .i64 x.t, .int .i64 x.s, .int .i64 x.e, .int .i64 x.f] 24) = W := ⟨_, rfl⟩
        obtain ⟨p, hp⟩ : ∃ p, wr.heap.size = p := ⟨_, rfl⟩
        rw [hW, hp] at HRB
        rw [hW] at HBR ⊢
        rw [hp]
        clear hW hp
        have HUW := Lib.hid (HU5.out.below HBR.out)
        have b0 : W.cell? ⟨p, 0, none⟩ = some (.int .i64 x.t) := (box_cell HRB.out 0).1
        have b1 : W.cell? ⟨p, 1, none⟩ = some (.int .i64 x.s) := (box_cell HRB.out 1).1
        have b2 : W.cell? ⟨p, 2, none⟩ = some (.int .i64 x.e) := (box_cell HRB.out 2).1
        have b3 : W.cell? ⟨p, 3, none⟩ = some (.int .i64 x.f) := (box_cell HRB.out 3).1
        obtain ⟨y0, y1, y4, y5, y6, y7, z0, z1, z2, z3⟩ := HUW.out.cells
        have hx2 := HUW.out.lt
        have hpl : p < W.heap.size := box_lt HRB.out
        have hxm : x ∈ m.rides := List.mem_of_getElem? HXX.out
        have HXM := Lib.hid hxm
        clear hxm
        by_cases q1 : x.t = r.t
        · have hxr : x = r := nodup_t HONE.out.2.2.2.2 HXM.out HI2.out q1
          have s1 : x.s = r.s := by rw [hxr]
          have s2 : x.e = r.e := by rw [hxr]
          have s3 : x.f = r.f := by rw [hxr]
          have HNX : Hid (((m.rides.take (k + 1)).filter fun x => decide (x = r ∨ x = q.r)).length = cnt + 1) := by
            show _ = _
            rw [take_at HXX.out, List.filter_append, List.length_append, HCN.out]
            simp [hxr]
          clear hxr
          go_wp2_with fail
          go_roundw
          case rel => exact ⟨k + 1, by rw [HNX.out]; go_num, by go_num, by omega, HBR.out⟩
          case measure => simp [intOf]; omega
        · by_cases q2 : x.t = q.r.t
          · have hxr : x = q.r := nodup_t HONE.out.2.2.2.2 HXM.out HI1.out q2
            have s0 : ¬ q.r.t = r.t := HNE.out
            have s1 : x.s = q.r.s := by rw [hxr]
            have s2 : x.e = q.r.e := by rw [hxr]
            have s3 : x.f = q.r.f := by rw [hxr]
            have HNX : Hid (((m.rides.take (k + 1)).filter fun x => decide (x = r ∨ x = q.r)).length = cnt + 1) := by
              show _ = _
              rw [take_at HXX.out, List.filter_append, List.length_append, HCN.out]
              simp [hxr]
            clear hxr
            go_wp2_with fail
            go_roundw
            case rel => exact ⟨k + 1, by rw [HNX.out]; go_num, by go_num, by omega, HBR.out⟩
            case measure => simp [intOf]; omega
          · have HNX : Hid (((m.rides.take (k + 1)).filter fun x => decide (x = r ∨ x = q.r)).length = cnt) := by
              show _ = _
              have n1 : x ≠ r := fun e => q1 (by rw [e])
              have n2 : x ≠ q.r := fun e => q2 (by rw [e])
              rw [take_at HXX.out, List.filter_append, List.length_append, HCN.out]
              simp [n1, n2]
            go_wp2_with fail
            go_roundw
            case rel => exact ⟨k + 1, by rw [HNX.out], by go_num, by omega, HBR.out⟩
            case measure => simp [intOf]; omega
      · have hke : k = m.rides.length := by omega
        have hkk : ¬ (k : Int) < (m.rides.length : Int) := by omega
        have HCN : ((m.rides.take k).filter fun x => decide (x = r ∨ x = q.r)).length = 2 := by rw [hke, List.take_length]; exact HCNT.out
        rw [HCN]
        clear HCN hke
        have HMr := Lib.hid (box_below HMB.out hB.out)
        have mb4 : wr.cell? ⟨g, 4, none⟩ = some (.slice qa m.rides.length qc) := (box_cell HMr.out 4).1
        have hgl : g < wr.heap.size := box_lt HMr.out
        go_wp2_with (first
          | (go_at_call 13; (go_fit (rmsame_eq a8 Z.length c8 hs8 a5 c5 hs5 Z wr (by have := HOZ.out.1; omega) (fun m hm => by have := HOZ.out.2.1 m hm; omega) (HI85.out.below hB.out) (HJ5.out.below hB.out))); rintro e v1 ⟨rfl, hb14⟩; have HK1 := Lib.hid (HUr.out.below hb14); have HS1 := Lib.hid ((HSQ5.out.below hB.out).below hb14); have HM1 := Lib.hid (box_below HMr.out hb14); clear hb14 mb4 hgl; have mb4 : v1.cell? ⟨g, 4, none⟩ = some (.slice qa m.rides.length qc) := (box_cell HM1.out 4).1; have hgl := box_lt HM1.out)
          | (go_at_call 26; (go_fit (rright_any qa m.rides.length qc m.rides v1 (by omega) HS1.out)); rintro e v2 ⟨rfl, hb15⟩; rw [show decide (RightP m.rides) = true from decide_eq_true HONE.out.2.2]; have HK2 := Lib.hid (HK1.out.below hb15); clear hb15))
        go_ret
        exact ⟨by simp, HK2.out.bl⟩
end Go.Proofs.Ytbdkhgenkekioaa

namespace Go.Proofs.Ytbdkhgenkekioaa
open Go.RowKit Go.V Go.Sort Go.Shelf Go.Proofs Go.Proofs.Ytbdkhgenkekioaa.Ne
set_option maxRecDepth 100000 in
theorem open_ride {H : Type} {enc : TypeId × Value → H} {w : World} {b0 base : Nat} {spare : Nat → Bool} {held : Bool} {v : Value} {d : DataW H} {ps : List MemPlace} (hval : Value.okWide Try.prog w .any base 24 v) (h : DataW.Trod enc Try.prog w b0 spare held 24 v d ps) :
    ∃ r : Ride, v = r.val ∧ Ride.ok r := by
  simp only [Value.okWide, Try.underlying24] at hval
  obtain ⟨cs, rfl, -, -⟩ := hval
  obtain ⟨fuel, hf⟩ := h
  obtain ⟨r, e, hr⟩ := mride_opened _ _ _ hf
  obtain ⟨l⟩ := cs
  have e2 : l = [.int .i64 r.t, .int .i64 r.s, .int .i64 r.e, .int .i64 r.f] := e
  exact ⟨r, by rw [e2], hr⟩
end Go.Proofs.Ytbdkhgenkekioaa

namespace Go.Proofs.Ytbdkhgenkekioaa.lawMonthFits
open Go.ChangeShapes Go.WideShapes Go.ChangeAt Go.RowKit Go.V Go.Proofs.Ytbdkhgenkekioaa.Ne

theorem own : ownKnob Try.prog.godebug = none := by kernel_rfl
theorem laidOut : laidOutB Try.prog = true := by kernel_rfl

set_option maxRecDepth 100000 in
theorem lifted (os : Os) (started : os.Started) (H : Type) (enc : TypeId × Value → H) :
    ReturnsInHanded {} Try.checked os 5 .any (Rows.monthFitsSpec.pre6 enc Try.prog Try.f5 Rows.monthFitsRow.domain false) (Rows.monthFitsSpec.post enc Try.prog Try.f5 false true false false) := by
  refine returnsInHanded_of_change (C := Try.checked) own started (by kernel_rfl) Try.func5
    (ChangeSpec.witness6 (enc := enc) (C := Try.checked) false ⟨#[], #[.slice none 0 0, .agg #[.int .i64 0, .int .i64 0, .int .i64 0, .int .i64 0, .int .i64 0, .int .i64 0, .int .i64 0, .int .i64 0, .int .i64 0, .int .i64 0, .int .i64 0, .int .i64 0, .slice none 0 0, .bool false], .agg #[.int .i64 0, .int .i64 0, .int .i64 0, .int .i64 0]], []⟩ 8 (by kernel_rfl) (by kernel_rfl) (by kernel_rfl) (by kernel_rfl)) ?_
  intro W base args ds gs before hval0 hW hcnd _
  have hval : ∀ (j : Nat) t v, Try.f5.params[j]? = some t → args[j]? = some v → Value.okWide Try.prog W .any base t v := hval0
  have hW' := hW
  obtain ⟨p, q, hA0, hV, rfl, hfz, hnd⟩ := hW
  have hA : DataW.TrodAll enc Try.prog W 0 (fun _ => true) true Try.f5.params.toList args.toList ds p := hA0
  rw [Try.params5] at hA hval
  obtain ⟨v0, vs0, d0, ds0, p0, q0, hargs, rfl, rfl, h0, r0⟩ := trodAll_cons hA
  obtain ⟨v1, vs1, d1, ds1, p1, q1, rfl, rfl, rfl, h1, r1⟩ := trodAll_cons r0
  obtain ⟨v2, vs2, d2, ds2, p2, q2, rfl, rfl, rfl, h2, r2⟩ := trodAll_cons r1
  obtain ⟨rfl, rfl, rfl⟩ := trodAll_nil r2
  obtain rfl : args = #[v0, v1, v2] := by cases args; simp_all
  obtain ⟨rfl, rfl⟩ := trodVars_none hV
  have k0 := h0
  have lt0 : ∀ x ∈ p0, x.block < W.heap.size := by obtain ⟨m, hm⟩ := k0; exact DataW.trod_lt m _ _ _ hm
  have k1 := h1
  have lt1 : ∀ x ∈ p1, x.block < W.heap.size := by obtain ⟨m, hm⟩ := k1; exact DataW.trod_lt m _ _ _ hm
  have k2 := h2
  have lt2 : ∀ x ∈ p2, x.block < W.heap.size := by obtain ⟨m, hm⟩ := k2; exact DataW.trod_lt m _ _ _ hm
  obtain ⟨ma0, mn0, mc0, mh0, mm0, rfl, hmi0, hmo0⟩ := open_months (fun _ => rfl) (hval 0 22 v0 rfl rfl) h0
  obtain ⟨q1, qh1, rfl, qr1, qo1, qs1⟩ := open_ask (fun _ => rfl) (hval 1 29 v1 rfl rfl) h1
  obtain ⟨r2r, rfl, ro2⟩ := open_ride (hval 2 24 v2 rfl rfl) h2
  clear hA0 hval0
  refine (mfits_any ma0 mn0 mc0 mh0 mm0 q1 qh1 r2r W hmi0 hmo0 qr1 qo1 qs1 ro2).mono fun e W' ⟨he, bel⟩ => ?_
  subst he
  exact ⟨_, rfl, _, _, _, [], _, [], hW', trodAll_mk1 (shut_bool Try.underlying4 _), (trodAll_cons_mk (Below.trod laidOut (by kernel_rfl) (of_decide_eq_true (by kernel_rfl)) k0 bel lt0) (trodAll_cons_mk (Below.trod laidOut (by kernel_rfl) (of_decide_eq_true (by kernel_rfl)) k1 bel lt1) (trodAll_cons_mk (Below.trod laidOut (by kernel_rfl) (of_decide_eq_true (by kernel_rfl)) k2 bel lt2) trodAll_mk0))), rfl, bel.frame _, fun h => by cases h⟩

theorem over : Rows.monthFitsRow.holds Try.pinned (OpenSpec.ofChange Rows.monthFitsSpec) :=
  OpenClaim.holds_of_wide 5 Try.f5 rfl rfl rfl rfl rfl rfl rfl ⟨rfl, rfl, rfl, rfl, rfl⟩ rfl rfl rfl rfl rfl (by kernel_rfl) Try.func5 (by kernel_rfl)
    (of_decide_eq_true (by kernel_rfl)) (by unfold Func.isWrapper; first | (rw [if_pos (by decide +kernel)]; kernel_rfl) | (rw [if_neg (by decide +kernel)]; exact ⟨rfl, rfl⟩))
    (fun os started H enc _ => lifted os started H enc)

theorem proved : Rows.MonthFitsSaid := over
#print axioms proved
end Go.Proofs.Ytbdkhgenkekioaa.lawMonthFits
