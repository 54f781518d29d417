/- Months: the chapter's example, walked. -/
import Derived.Test.YtbdkhgenkekioaaMoS
import Derived.Test.YtbdkhgenkekioaaMoG
namespace Go.Proofs.Ytbdkhgenkekioaa
open Go.RowKit Go.V Go.Sort Go.Shelf Go.Proofs Go.Maps
open Go.Proofs.Ytbdkhgenkekioaa.Ne (box_alloc box_new box_cell box_below box_lt box2_cells)

theorem slr_nil (w : World) : Sl Ride.cod w none 0 0 ([] : List Ride) := ⟨rfl, Nat.le_refl _, by unfold maxLen; omega, fun _ => ⟨rfl, rfl⟩, fun d hd => nomatch hd⟩
def mEx : Mon := ⟨1, 2, 1, 0, [], false⟩
def rEx : Ride := ⟨3, 250, 260, 4⟩
theorem rEx_ok : Ride.ok rEx := by unfold Ride.ok; decide
theorem right_nil : RightM [] := ⟨by decide, fun i m h => by simp at h⟩
theorem oneEx : OneM mEx := by decide
theorem begEx : begRE [] mEx = 0 ∧ begR [] mEx = [mEx] := by
  obtain ⟨h1, h2⟩ := begE_new (ms := []) (m := mEx) right_nil oneEx (by decide) (by decide)
  exact ⟨h1, by rw [h2]; rfl⟩
theorem addEx : turnE 1 [mEx] 1 2 rEx = 0 ∧ turnR 1 [mEx] 1 2 rEx = [{ mEx with rides := [rEx] }] := by
  have hf : findM [mEx] 1 2 = ((0 : Nat) : Int) := by decide
  obtain ⟨h1, h2⟩ := tn_at (k := 1) (ms := [mEx]) (A := 1) (M := 2) (r := rEx) (j := 0) (m := mEx) ⟨(right_one mEx).2 oneEx, .inr (by decide)⟩ hf (by unfold monAt; rw [hf]; rfl) (by decide)
  rw [h1, h2]
  exact ⟨by decide, by unfold rideR; decide⟩
theorem findEx (a : Option Addr) (c : Nat) (hs : List Hdr) (w : World) (h : MonIn w a 1 c hs [{ mEx with rides := [rEx] }]) :
    Calls Try.prog 18 #[.slice a 1 c, .int .i64 1, .int .i64 2] w fun e w' => ∃ q : Hdr, e = .returned (.tuple #[.agg #[.int .i64 1, .int .i64 2, .int .i64 1, .int .i64 0, .slice q.a 1 q.cap, .bool false], .bool true]) ∧ Sl Ride.cod w' q.a 1 q.cap [rEx] ∧ Below w.heap.size w w' := by
  refine (mfind2_any a 1 c hs [{ mEx with rides := [rEx] }] 1 2 w (by omega) (fun m hm => by simp at hm; subst hm; decide) h).mono ?_
  rintro e w' ⟨h1, h2⟩
  have hf : findM [{ mEx with rides := [rEx] }] 1 2 = ((0 : Nat) : Int) := by decide
  rcases h1 with ⟨h1, -⟩ | ⟨k, m, ⟨qa, qn, qc⟩, h1, h3, -, rfl, h4⟩
  · rw [hf] at h1; omega
  · rw [hf] at h1
    have : k = 0 := by omega
    subst this
    simp at h3; subst h3
    obtain rfl : qn = 1 := h4.hlen
    exact ⟨⟨qa, 1, qc⟩, rfl, h4, h2⟩
set_option maxHeartbeats 4000000 in
set_option maxRecDepth 100000 in
theorem awake37 (w : World) : Calls Try.prog 7 #[] w fun e w' => e = .returned (.bool true) ∧ Below w.heap.size w w' := by
  go_enter Try.func7, Try.ntmps7
  go_upto_region 5 with (first
    | (go_at_call 20; refine (mof_any 250 100 _).mono ?_; rintro e w1 ⟨rfl, rfl⟩; rw [show ofV 250 100 = 2 by decide, show ofE 250 100 = 0 by decide])
    | (go_at_call 11; go_loud (go_fit (mbegin_any none 0 0 [] [] mEx ⟨none, 0, 0⟩ _ (by omega) (fun m hm => by simp at hm) (fun m hm => by simp at hm) (by decide) (fun r hr => by simp [mEx] at hr) (MonIn.nil _) (slr_nil _)); rintro e w2 ⟨a2, c2, hs2, rfl, hin2, hb2⟩; rw [begEx.2] at hin2; rw [begEx.1, begEx.2]; have HIN2 : Hid (MonIn w2 a2 1 c2 hs2 [mEx]) := hin2; have HB2 := Lib.hid hb2; clear hin2 hb2))
    | (go_at_call 14; go_loud (go_fit (madd_any a2 1 c2 hs2 [mEx] 1 2 rEx w2 (by omega) (fun m hm => by simp at hm; subst hm; decide) (fun m hm => by simp at hm; subst hm; intro r hr; simp [mEx] at hr) rEx_ok HIN2.out); rintro e w3 ⟨v3, rfl, hq3, hb3⟩; rw [addEx.2] at hq3; rw [addEx.1]; obtain ⟨a3, c3, hs3, rfl, hin3⟩ := hq3; have HIN3 : Hid (MonIn w3 a3 1 c3 hs3 [{ mEx with rides := [rEx] }]) := hin3; have HB3 := Lib.hid (HB2.out.trans (hb3.mono HB2.out.size)); clear hin3 hb3))
    | (go_at_call 18; go_fit (findEx a3 c3 hs3 w3 HIN3.out); rintro e w4 ⟨q4, rfl, hq4, hb4⟩; have HQ4 := Lib.hid hq4; have HB4 := Lib.hid (HB3.out.trans (hb4.mono HB3.out.size)); clear hq4 hb4))
  go_wp2_with fail
  go_ret
  exact ⟨rfl, HB4.out.alloc HB4.out.size _⟩
end Go.Proofs.Ytbdkhgenkekioaa
