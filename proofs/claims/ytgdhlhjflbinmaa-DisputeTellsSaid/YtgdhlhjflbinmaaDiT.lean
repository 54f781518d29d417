/- Disputes: the chapter's example, and which cases a play goes through with. -/
import Derived.Test.YtgdhlhjflbinmaaDiS
import Derived.Deep.DeepFit
namespace Go.Proofs.Ytgdhlhjflbinmaa
open Go.RowKit Go.V Go.Sort Go.Shelf Go.Proofs Go.Maps

theorem box7_cells {w : World} {g : Nat} {e : TypeId} {u0 u1 u2 u3 u4 u5 u6 : Value} (h : w.heap[g]? = some (.cells #[u0, u1, u2, u3, u4, u5, u6] e (0, 0))) : w.cell? ⟨g, 0, none⟩ = some u0 ∧ w.cell? ⟨g, 1, none⟩ = some u1 ∧ w.cell? ⟨g, 2, none⟩ = some u2 ∧ w.cell? ⟨g, 3, none⟩ = some u3 ∧ w.cell? ⟨g, 4, none⟩ = some u4 ∧ w.cell? ⟨g, 5, none⟩ = some u5 ∧ w.cell? ⟨g, 6, none⟩ = some u6 :=
  ⟨(box_cell h 0).1, (box_cell h 1).1, (box_cell h 2).1, (box_cell h 3).1, (box_cell h 4).1, (box_cell h 5).1, (box_cell h 6).1⟩
def caseBox (c : Int) (ha hb : Hdr) (x : Ride) : Array Value := #[.int .i64 c, .slice ha.a ha.n ha.cap, .slice hb.a hb.n hb.cap, .int .i64 x.t, .int .i64 x.s, .int .i64 x.e, .int .i64 x.f]

/-- Where the law's two arguments lie, in a later world. -/
structure Ctx (w W : World) (t : Tar) (hb hs hr : Hdr) (c : Int) (ha hb' : Hdr) (x : Ride) : Prop where
  bel : Below w.heap.size w W
  tar : TarBox 26 W w.heap.size t hb hs hr
  case : W.heap[w.heap.size + 1]? = some (.cells (caseBox c ha hb' x) 31 (0, 0))
section
variable {w W : World} {t : Tar} {hb hs hr : Hdr} {c : Int} {ha hb' : Hdr} {x : Ride}
theorem Ctx.start (w : World) : Ctx w ((w.alloc (t.box hb hs hr)).alloc (.cells (caseBox c ha hb' x) 31)) t hb hs hr c ha hb' x := by
  refine ⟨((Below.refl _ _).alloc (Nat.le_refl _) _).alloc (by simp) _, box_alloc (box_new _ _), ?_⟩
  have := box_new (w.alloc (t.box hb hs hr)) (.cells (caseBox c ha hb' x) 31)
  rwa [World.size_alloc] at this
theorem Ctx.next (h : Ctx w W t hb hs hr c ha hb' x) {W' : World} (hw : Below W.heap.size W W') : Ctx w W' t hb hs hr c ha hb' x := ⟨h.bel.trans (hw.mono h.bel.size), h.tar.below hw, box_below h.case hw⟩
theorem Ctx.alloc (h : Ctx w W t hb hs hr c ha hb' x) (o : Obj) : Ctx w (W.alloc o) t hb hs hr c ha hb' x := h.next ((Below.refl _ _).alloc (Nat.le_refl _) _)
theorem Ctx.cells (h : Ctx w W t hb hs hr c ha hb' x) : ((w.heap.size < W.heap.size ∧ W.cell? ⟨w.heap.size, 0, none⟩ = some (.int .i64 t.ver) ∧ W.cell? ⟨w.heap.size, 1, none⟩ = some (.slice hb.a hb.n hb.cap) ∧ W.cell? ⟨w.heap.size, 2, none⟩ = some (.int .i64 t.over) ∧ W.cell? ⟨w.heap.size, 3, none⟩ = some (.int .i64 t.full) ∧ W.cell? ⟨w.heap.size, 4, none⟩ = some (.slice hs.a hs.n hs.cap) ∧ W.cell? ⟨w.heap.size, 5, none⟩ = some (.int .i64 t.unit) ∧ W.cell? ⟨w.heap.size, 6, none⟩ = some (.int .i64 t.window) ∧ W.cell? ⟨w.heap.size, 7, none⟩ = some (.int .i64 t.chain) ∧ W.cell? ⟨w.heap.size, 8, none⟩ = some (.slice hr.a hr.n hr.cap)) ∧
    (w.heap.size + 1 < W.heap.size ∧ W.cell? ⟨w.heap.size + 1, 0, none⟩ = some (.int .i64 c) ∧ W.cell? ⟨w.heap.size + 1, 1, none⟩ = some (.slice ha.a ha.n ha.cap) ∧ W.cell? ⟨w.heap.size + 1, 2, none⟩ = some (.slice hb'.a hb'.n hb'.cap) ∧ W.cell? ⟨w.heap.size + 1, 3, none⟩ = some (.int .i64 x.t) ∧ W.cell? ⟨w.heap.size + 1, 4, none⟩ = some (.int .i64 x.s) ∧ W.cell? ⟨w.heap.size + 1, 5, none⟩ = some (.int .i64 x.e) ∧ W.cell? ⟨w.heap.size + 1, 6, none⟩ = some (.int .i64 x.f))) :=
  ⟨h.tar.cells, box_lt h.case, box7_cells h.case⟩
end

set_option maxHeartbeats 2000000 in
theorem few33_any (t : Tar) (hb hs hr : Hdr) (c : Int) (ha hb' : Hdr) (x : Ride) (w : World) (h : hb.n ≤ 9223372036854775807 ∧ hs.n ≤ 9223372036854775807 ∧ hr.n ≤ 9223372036854775807) : Calls Try.prog 5 #[t.val hb hs hr, .agg (caseBox c ha hb' x)] w fun e w' => e = .returned (.bool ((decide (hb.n ≤ 100) && decide (hs.n ≤ 50) && decide (hr.n ≤ 50)) && decide (ha.n ≤ 60) && decide (hb'.n ≤ 60))) ∧ Below w.heap.size w w' := by
  obtain ⟨fb, hfb⟩ : ∃ fb, (decide (hb.n ≤ 100) && decide (hs.n ≤ 50) && decide (hr.n ≤ 50)) = fb := ⟨_, rfl⟩
  have HFB := Lib.hid hfb
  have C0 : Hid (Ctx w _ t hb hs hr c ha hb' x) := Ctx.start w
  rw [hfb]
  clear hfb
  unfold caseBox Tar.box at C0
  unfold Tar.val caseBox
  go_enter Try.func5, Try.ntmps5
  cases fb with
  | false =>
    go_wp2_with (go_at_call 18; refine (few_any t hb hs hr _ h).mono ?_; rintro e w2 ⟨rfl, hb2⟩; rw [HFB.out]; have C2 := Lib.hid (C0.out.next hb2); clear hb2)
    go_ret
    exact ⟨rfl, C2.out.bel⟩
  | true =>
    by_cases c1 : ha.n ≤ 60
    · by_cases c2 : hb'.n ≤ 60
      · go_wp2_with (go_at_call 18; refine (few_any t hb hs hr _ h).mono ?_; rintro e w2 ⟨rfl, hb2⟩; rw [HFB.out]; have C2 := Lib.hid (C0.out.next hb2); obtain ⟨-, kk, q0, q1, q2, -⟩ := C2.out.cells; clear hb2)
        go_ret
        exact ⟨ret_bool (by simp [c1, c2]; omega), C2.out.bel⟩
      · go_wp2_with (go_at_call 18; refine (few_any t hb hs hr _ h).mono ?_; rintro e w2 ⟨rfl, hb2⟩; rw [HFB.out]; have C2 := Lib.hid (C0.out.next hb2); obtain ⟨-, kk, q0, q1, q2, -⟩ := C2.out.cells; clear hb2)
        go_ret
        exact ⟨ret_bool (by simp [c1, c2]; omega), C2.out.bel⟩
    · go_wp2_with (go_at_call 18; refine (few_any t hb hs hr _ h).mono ?_; rintro e w2 ⟨rfl, hb2⟩; rw [HFB.out]; have C2 := Lib.hid (C0.out.next hb2); obtain ⟨-, kk, q0, q1, q2, -⟩ := C2.out.cells; clear hb2)
      go_ret
      exact ⟨ret_bool (by simp), C2.out.bel⟩

def r50 : Ride := ⟨1, 0, 5, 50⟩
def r150 : Ride := ⟨1, 0, 5, 150⟩
theorem exC : delE plainT 0 [r50] r50 = 0 ∧ delV plainT 0 [r50] r50 = 0 ∧ delE plainT 0 [r50] r150 = 0 ∧ delV plainT 0 [r50] r150 = 100 := by decide

set_option maxHeartbeats 4000000 in
theorem awake33_any (w : World) : Calls Try.prog 4 #[] w fun e w' => e = .returned (.bool true) ∧ Below w.heap.size w w' := by
  have ok50 : ∀ r ∈ [r50], Ride.ok r := by
    intro r hr
    simp only [List.mem_singleton] at hr
    subst hr
    exact ⟨by decide, by decide, by decide, by decide⟩
  have ok50' : Ride.ok r50 := ok50 r50 (by simp)
  have ok150 : Ride.ok r150 := ⟨by decide, by decide, by decide, by decide⟩
  have S0 : Hid (Sl Ride.cod (w.alloc (.cells #[.int .i64 1, .int .i64 0, .int .i64 5, .int .i64 50] 29)) (some ⟨w.heap.size, 0, none⟩) 1 1 [r50]) := sl_new (c := Ride.cod) w #[.int .i64 1, .int .i64 0, .int .i64 5, .int .i64 50] 29 [r50] 1 rfl (by unfold maxLen; omega) rfl
  have B0 : Hid (Below w.heap.size w (w.alloc (.cells #[.int .i64 1, .int .i64 0, .int .i64 5, .int .i64 50] 29))) := (Below.refl _ _).alloc (Nat.le_refl _) _
  have X0 : Hid ((w.alloc (.cells #[.int .i64 1, .int .i64 0, .int .i64 5, .int .i64 50] 29)).heap[w.heap.size]? = some (.cells #[.int .i64 1, .int .i64 0, .int .i64 5, .int .i64 50] 29 (0, 0))) := box_new _ _
  have hz : w.heap.size < (w.alloc (.cells #[.int .i64 1, .int .i64 0, .int .i64 5, .int .i64 50] 29)).heap.size := by simp
  go_enter Try.func4, Try.ntmps4
  go_upto_region 2 with fail
  obtain ⟨W, hW⟩ : ∃ W, w.alloc (.cells #[.int .i64 1, .int .i64 0, .int .i64 5, .int .i64 50] 29) = W := ⟨_, rfl⟩
  rw [hW] at S0 B0 X0 hz ⊢
  clear hW
  obtain ⟨u0, u1, u2, u3⟩ := box4_cells X0.out
  go_cut [2, 3] (fun u v wx => u = .int .i64 0 ∧ v = .int .i64 0 ∧ Hid (Below W.heap.size W wx))
  case first =>
    go_region_law (first
      | (go_simp; go_at_call 17; refine (plain_any _).mono ?_; rintro e w1 ⟨hb, hs, hr, rfl, ht, n1, n2, n3, hb1⟩; have HT1 := Lib.hid ht; have HB1 : Hid (Below W.heap.size W w1) := (by first | exact hb1 | exact (Below.drew (Below.refl _ _)).trans hb1 | exact (Below.drew (Below.drew (Below.refl _ _))).trans hb1); have N := Lib.hid (show hb.n ≤ 1000000 ∧ hs.n ≤ 1000000 ∧ hr.n ≤ 1000000 by omega); obtain ⟨u0, u1, u2, u3⟩ := box4_cells (box_below X0.out HB1.out); clear ht hb1 n1 n2 n3)
      | (go_simp; go_at_call 13; refine (delta_any plainT hb hs hr 0 (some ⟨w.heap.size, 0, none⟩) 1 1 [r50] r50 _ N.out (by omega) ok50 ok50' (by first | exact HT1.out | exact HT1.out.below (Below.drew (Below.refl _ _))) (S0.out.below (by first | exact HB1.out | exact (Below.drew HB1.out)))).mono ?_; rintro e w2 ⟨rfl, hb2⟩; rw [exC.1, exC.2.1]; have HB2 : Hid (Below W.heap.size W w2) := HB1.out.trans ((by first | exact hb2 | exact (Below.drew (Below.refl _ _)).trans hb2 : Below w1.heap.size w1 w2).mono HB1.out.size); clear hb2))
    all_goals
      go_wp2_with fail
      go_meet
      exact ⟨rfl, rfl, HB2.out⟩
  obtain ⟨rfl, rfl, hB⟩ := hcut
  have hsb := hB.out.size
  have HS := Lib.hid (S0.out.below hB.out)
  have HBw := Lib.hid (B0.out.trans (hB.out.mono B0.out.size))
  go_wp2_with (first
    | (go_at_call 17; refine (plain_any _).mono ?_; rintro e w3 ⟨hb', hs', hr', rfl, ht, n1, n2, n3, hb3⟩; have HT3 := Lib.hid ht; have HB3 : Hid (Below w.heap.size w w3) := HBw.out.trans (hb3.mono HBw.out.size); have HS3 := Lib.hid (HS.out.below hb3); have N3 := Lib.hid (show hb'.n ≤ 1000000 ∧ hs'.n ≤ 1000000 ∧ hr'.n ≤ 1000000 by omega); clear ht hb3 n1 n2 n3)
    | (go_at_call 13; refine (delta_any plainT hb' hs' hr' 0 (some ⟨w.heap.size, 0, none⟩) 1 1 [r50] r150 _ N3.out (by omega) ok50 ok150 HT3.out HS3.out).mono ?_; rintro e w4 ⟨rfl, hb4⟩; rw [exC.2.2.1, exC.2.2.2]; have HB4 : Hid (Below w.heap.size w w4) := HB3.out.trans (hb4.mono HB3.out.size); clear hb4))
  go_ret
  exact ⟨rfl, HB4.out⟩
end Go.Proofs.Ytgdhlhjflbinmaa
