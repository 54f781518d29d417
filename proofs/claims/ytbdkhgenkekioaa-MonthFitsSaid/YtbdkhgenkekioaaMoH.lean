/- Months: cloned; an account's month: walked. -/
import Derived.Test.YtbdkhgenkekioaaMoF
import Derived.Test.YtbdkhgenkekioaaBy
namespace Go.Proofs.Ytbdkhgenkekioaa
open Go.RowKit Go.V Go.Sort Go.Shelf Go.Proofs Go.Maps
open Go.Proofs.Ytbdkhgenkekioaa.Ne (box_alloc box_new box_cell box_below box_lt box2_cells)

theorem infoMonth : (Try.prog.info? 27).map (fun i => (i.zero, i.size, i.bytes)) = some (some (.agg #[.int .i64 0, .int .i64 0, .int .i64 0, .int .i64 0, .slice none 0 0, .bool false]), 6, 64) := by kernel_rfl
theorem eltMonth : Elt Try.prog 22 27 MH.cod 64 := Elt.of Try.underlying22 infoMonth rfl (by decide)
theorem mown_below {α : Type} {c : Cod α} {T : TypeId} {base : Nat} {w w1 : World} {v : Value} {xs : List α} (h : V.Own T c base w v xs) (hg : w.grownBy w1 v.ownBlock) (hb : base ≤ w.heap.size) : Below base w w1 :=
  ⟨hg.os, hg.tape, hg.output, hg.size, fun k hk => hg.block k (by omega) (fun q => by
    have := (World.ownsRow.lt h k q.symm).1
    omega)⟩
theorem box6_free {w : World} {g : Nat} {e : TypeId} {u0 u1 u2 u3 u4 u5 : Value} (h : w.heap[g]? = some (.cells #[u0, u1, u2, u3, u4, u5] e (0, 0))) : w.frozen? ⟨g, 0, none⟩ = false ∧ w.frozen? ⟨g, 1, none⟩ = false ∧ w.frozen? ⟨g, 2, none⟩ = false ∧ w.frozen? ⟨g, 3, none⟩ = false ∧ w.frozen? ⟨g, 4, none⟩ = false ∧ w.frozen? ⟨g, 5, none⟩ = false :=
  ⟨(box_cell h 0).2, (box_cell h 1).2, (box_cell h 2).2, (box_cell h 3).2, (box_cell h 4).2, (box_cell h 5).2⟩
theorem box6_set {w : World} {g : Nat} {e : TypeId} {u0 u1 u2 u3 u4 u5 : Value} (h : w.heap[g]? = some (.cells #[u0, u1, u2, u3, u4, u5] e (0, 0))) (v0 v1 v2 v3 v4 v5 : Value) : ((((((w.setCell ⟨g, 0, none⟩ v0).setCell ⟨g, 1, none⟩ v1).setCell ⟨g, 2, none⟩ v2).setCell ⟨g, 3, none⟩ v3).setCell ⟨g, 4, none⟩ v4).setCell ⟨g, 5, none⟩ v5).heap[g]? = some (.cells #[v0, v1, v2, v3, v4, v5] e (0, 0)) := by
  have h1 : (w.setCell ⟨g, 0, none⟩ v0).heap[g]? = some (.cells #[v0, u1, u2, u3, u4, u5] e (0, 0)) := heap_setCell_same w g 0 _ e v0 h
  have h2 : ((w.setCell ⟨g, 0, none⟩ v0).setCell ⟨g, 1, none⟩ v1).heap[g]? = some (.cells #[v0, v1, u2, u3, u4, u5] e (0, 0)) := heap_setCell_same _ g 1 _ e v1 h1
  have h3 : (((w.setCell ⟨g, 0, none⟩ v0).setCell ⟨g, 1, none⟩ v1).setCell ⟨g, 2, none⟩ v2).heap[g]? = some (.cells #[v0, v1, v2, u3, u4, u5] e (0, 0)) := heap_setCell_same _ g 2 _ e v2 h2
  have h4 : ((((w.setCell ⟨g, 0, none⟩ v0).setCell ⟨g, 1, none⟩ v1).setCell ⟨g, 2, none⟩ v2).setCell ⟨g, 3, none⟩ v3).heap[g]? = some (.cells #[v0, v1, v2, v3, u4, u5] e (0, 0)) := heap_setCell_same _ g 3 _ e v3 h3
  have h5 : (((((w.setCell ⟨g, 0, none⟩ v0).setCell ⟨g, 1, none⟩ v1).setCell ⟨g, 2, none⟩ v2).setCell ⟨g, 3, none⟩ v3).setCell ⟨g, 4, none⟩ v4).heap[g]? = some (.cells #[v0, v1, v2, v3, v4, u5] e (0, 0)) := heap_setCell_same _ g 4 _ e v4 h4
  exact heap_setCell_same _ g 5 _ e v5 h5
theorem below_set6 {w wr : World} {B g : Nat} (hb : Below B w wr) (hg : B ≤ g) (v0 v1 v2 v3 v4 v5 : Value) : Below B w ((((((wr.setCell ⟨g, 0, none⟩ v0).setCell ⟨g, 1, none⟩ v1).setCell ⟨g, 2, none⟩ v2).setCell ⟨g, 3, none⟩ v3).setCell ⟨g, 4, none⟩ v4).setCell ⟨g, 5, none⟩ v5) :=
  (((((hb.setCell (p := ⟨g, 0, none⟩) hg v0).setCell (p := ⟨g, 1, none⟩) hg v1).setCell (p := ⟨g, 2, none⟩) hg v2).setCell (p := ⟨g, 3, none⟩) hg v3).setCell (p := ⟨g, 4, none⟩) hg v4).setCell (p := ⟨g, 5, none⟩) hg v5
set_option maxHeartbeats 1000000 in
theorem mclone_any (a : Option Addr) (n cap : Nat) (xs : List MH) (w : World) (hn : n ≤ 1000000000) (h : Sl MH.cod w a n cap xs) :
    Calls Try.prog 42 #[.slice a n cap] w fun e w' => ∃ v, e = .returned v ∧ V.Own 27 MH.cod w.heap.size w' v xs ∧ Below w.heap.size w w' := by
  cases a with
  | none =>
    obtain ⟨rfl, rfl⟩ := h.hnil rfl
    have hx : xs = [] := by have := h.hlen; exact List.eq_nil_of_length_eq_zero this.symm
    subst hx
    have hq := fun w a n c => Lib.run_eql_slice_nil (P := Try.prog) w 22 27 a n c 0 0 Try.underlying22
    go_enter Try.func42, Try.ntmps42
    go_wp2
    go_ret
    exact ⟨_, rfl, World.ownsRow_nil _ _ _ _, Below.refl _ _⟩
  | some d =>
    have HS := Lib.hid h
    have HM1 : Hid (([] : List MH).length + n ≤ maxLen) := by show _ ≤ _; unfold maxLen; simp; omega
    have HM2 : Hid ((([] : List MH).length + n) * 64 ≤ 140737488355328) := by show _ ≤ _; simp; omega
    clear h
    have hq := fun w a n c => Lib.run_eql_slice_nil (P := Try.prog) w 22 27 a n c 0 0 Try.underlying22
    go_enter Try.func42, Try.ntmps42
    go_wp2_with (at_builtin; go_loud (refine wpList_app eltMonth rfl (.tmp 5) (.tmp 6) rfl (base := w.heap.size) _ [] rfl (own_new (c := MH.cod) w #[] 27 w.heap.size [] 0 rfl (Nat.le_refl _) (by unfold maxLen; omega) rfl) _ n cap xs rfl (HS.out.below ((Below.refl _ _).alloc (Nat.le_refl _) _)) HM1.out HM2.out (by simp) ?_); intro v1 w1 ho hg; have HO1 := Lib.hid ho; have HG1 := Lib.hid hg; clear ho hg)
    go_ret
    exact ⟨_, rfl, HO1.out, ((Below.refl _ _).alloc (Nat.le_refl _) _).trans (mown_below (own_new (c := MH.cod) w #[] 27 w.heap.size [] 0 rfl (Nat.le_refl _) (by unfold maxLen; omega) rfl) HG1.out (by simp))⟩

set_option maxHeartbeats 4000000 in
set_option maxRecDepth 100000 in
theorem mfind2_any (a : Option Addr) (n cap : Nat) (hs : List Hdr) (ms : List Mon) (A M : Int) (w : World) (hn : n ≤ 1000000) (hl : ∀ m ∈ ms, m.rides.length ≤ 1000000) (h : MonIn w a n cap hs ms) :
    Calls Try.prog 18 #[.slice a n cap, .int .i64 A, .int .i64 M] w fun e w' => ((findM ms A M < 0 ∧ e = .returned (.tuple #[.agg #[.int .i64 0, .int .i64 0, .int .i64 0, .int .i64 0, .slice none 0 0, .bool false], .bool false])) ∨ ∃ (k : Nat) (m : Mon) (q : Hdr), findM ms A M = k ∧ ms[k]? = some m ∧ isM A M m ∧ e = .returned (.tuple #[.agg (m.box q), .bool true]) ∧ Sl Ride.cod w' q.a q.n q.cap m.rides) ∧ Below w.heap.size w w' := by
  obtain ⟨F, hF⟩ : ∃ F, findM ms A M = F := ⟨_, rfl⟩
  have HF := Lib.hid hF
  have X0 : Hid ((w.alloc (.cells #[.int .i64 0, .int .i64 0, .int .i64 0, .int .i64 0, .slice none 0 0, .bool false] 27)).heap[w.heap.size]? = some (.cells #[.int .i64 0, .int .i64 0, .int .i64 0, .int .i64 0, .slice none 0 0, .bool false] 27 (0, 0))) := box_new w _
  have B0 : Hid (Below w.heap.size w (w.alloc (.cells #[.int .i64 0, .int .i64 0, .int .i64 0, .int .i64 0, .slice none 0 0, .bool false] 27))) := (Below.refl _ _).alloc (Nat.le_refl _) _
  by_cases hneg : F < 0
  · clear hF
    go_enter Try.func18, Try.ntmps18
    go_wp2_with (go_at_call 41; refine (mplace_any a n cap hs ms A M _ hn (h.below B0.out)).mono ?_; rintro e w1 ⟨rfl, hb1⟩; rw [HF.out]; have HB1 := Lib.hid (B0.out.trans (hb1.mono B0.out.size)); have X1 := Lib.hid (box_below X0.out hb1); obtain ⟨y0, y1, y2, y3, y4, y5⟩ := box6_cells X1.out; have hz := box_lt X1.out; obtain ⟨t0, t1, t2, t3, t4, t5⟩ := box6_free X1.out; clear hb1)
    exact bodyPost_ret (Wi.results_row_tmp rfl _ _ w.heap.size _ _ _ _ rfl (box6_set X1.out _ _ _ _ _ _) Try.underlying27 rfl (by kernel_rfl)) rfl ⟨.inl ⟨by rw [HF.out]; exact hneg, rfl⟩, below_set6 HB1.out (Nat.le_refl _) _ _ _ _ _ _⟩
  · obtain ⟨k, m, hk1, hk2, hk3, hk4⟩ : ∃ (k : Nat) (m : Mon), F = k ∧ k < ms.length ∧ ms[k]? = some m ∧ isM A M m := by
      rcases findM_cases ms A M with ⟨h1, -⟩ | ⟨k, r, h1, h2, h3, h4, -⟩
      · omega
      · exact ⟨k, r, by omega, h2, h3, h4⟩
    subst hk1
    have hkn : k < n := by rw [h.n_eq]; exact hk2
    have HK3 := Lib.hid hk3
    have HK4 := Lib.hid hk4
    have HL := Lib.hid (hl m (List.mem_of_getElem? hk3))
    clear hF hk2 hk3 hk4
    go_enter Try.func18, Try.ntmps18
    go_upto_region 4 with (go_at_call 41; refine (mplace_any a n cap hs ms A M _ hn (h.below B0.out)).mono ?_; rintro e w1 ⟨rfl, hb1⟩; rw [HF.out]; have HB1 := Lib.hid (B0.out.trans (hb1.mono B0.out.size)); have X1 := Lib.hid (box_below X0.out hb1); clear hb1)
    obtain ⟨b, off, at_, ct, m', rfl, hbb, hm, -, ⟨c0, c1, c2, c3, c4, c5⟩, hrd⟩ := (h.below HB1.out).at hkn
    have := hm.symm.trans HK3.out
    cases this
    have HRD := Lib.hid hrd
    have b1 : (k : Int) < (n : Int) := by omega
    have hs1 := HB1.out.size
    have hz := box_lt X1.out
    have hml : m.rides.length ≤ 1099511627776 := by have := HL.out; omega
    clear hm hrd
    go_upto_region 5 with fail
    have X9 : Hid ((w1.alloc (.cells #[.int .i64 m.a, .int .i64 m.m, .int .i64 m.t, .int .i64 m.c, .slice at_ m.rides.length ct, .bool m.z] 27)).heap[w1.heap.size]? = some (.cells #[.int .i64 m.a, .int .i64 m.m, .int .i64 m.t, .int .i64 m.c, .slice at_ m.rides.length ct, .bool m.z] 27 (0, 0))) := box_new w1 _
    have B9 : Hid (Below w1.heap.size w1 (w1.alloc (.cells #[.int .i64 m.a, .int .i64 m.m, .int .i64 m.t, .int .i64 m.c, .slice at_ m.rides.length ct, .bool m.z] 27))) := (Below.refl _ _).alloc (Nat.le_refl _) _
    have hz9 : w1.heap.size < (w1.alloc (.cells #[.int .i64 m.a, .int .i64 m.m, .int .i64 m.t, .int .i64 m.c, .slice at_ m.rides.length ct, .bool m.z] 27)).heap.size := by simp
    obtain ⟨W, hW⟩ : ∃ W, w1.alloc (.cells #[.int .i64 m.a, .int .i64 m.m, .int .i64 m.t, .int .i64 m.c, .slice at_ m.rides.length ct, .bool m.z] 27) = W := ⟨_, rfl⟩
    rw [hW] at X9 B9 hz9 ⊢
    clear hW c0 c1 c2 c3 c4 c5
    have XW := Lib.hid (box_below X1.out B9.out)
    have HBW : Hid (Below w.heap.size w W) := HB1.out.trans (B9.out.mono hs1)
    obtain ⟨y0, y1, y2, y3, y4, y5⟩ := box6_cells X9.out
    go_upto_region 6 with (go_at_call 43; refine (clone_any at_ m.rides.length ct m.rides _ hml (HRD.out.below B9.out)).mono ?_; rintro e w2 ⟨v, rfl, ho, hb2, -⟩; obtain ⟨a2, c2, rfl, s2, -⟩ := ownR_sl ho; have HO : Hid (V.Own 24 Ride.cod W.heap.size w2 (.slice a2 m.rides.length c2) m.rides) := ho; have HB2 := Lib.hid hb2; have X92 := Lib.hid (box_below X9.out hb2); obtain ⟨t0, t1, t2, t3, t4, t5⟩ := box6_free X92.out; have hz92 := box_lt X92.out; clear ho hb2 s2 y0 y1 y2 y3 y4 y5; obtain ⟨-, -, -, -, x4, -⟩ := box6_cells X92.out)
    have hz10 := HB2.out.size
    have XR : Hid ((w2.setCell ⟨w1.heap.size, 4, none⟩ (.slice a2 m.rides.length c2)).heap[w.heap.size]? = some (.cells #[.int .i64 0, .int .i64 0, .int .i64 0, .int .i64 0, .slice none 0 0, .bool false] 27 (0, 0))) := (heap_setCell_other w2 ⟨w1.heap.size, 4, none⟩ w.heap.size _ (by simp; omega)).trans (box_below XW.out HB2.out)
    have XN : Hid ((w2.setCell ⟨w1.heap.size, 4, none⟩ (.slice a2 m.rides.length c2)).heap[w1.heap.size]? = some (.cells #[.int .i64 m.a, .int .i64 m.m, .int .i64 m.t, .int .i64 m.c, .slice a2 m.rides.length c2, .bool m.z] 27 (0, 0))) := heap_setCell_same w2 w1.heap.size 4 _ _ _ X92.out
    have HBZ : Hid (Below w.heap.size w (w2.setCell ⟨w1.heap.size, 4, none⟩ (.slice a2 m.rides.length c2))) := (HBW.out.trans (HB2.out.mono HBW.out.size)).setCell (p := ⟨w1.heap.size, 4, none⟩) hs1 _
    have HOZ : Hid (V.Own 24 Ride.cod W.heap.size (w2.setCell ⟨w1.heap.size, 4, none⟩ (.slice a2 m.rides.length c2)) (.slice a2 m.rides.length c2) m.rides) := HO.out.kept (Wi.set_grown _ w1.heap.size 4 _) (Wi.own_lt_ne HO.out hz9)
    obtain ⟨Z, hZ⟩ : ∃ Z, w2.setCell ⟨w1.heap.size, 4, none⟩ (.slice a2 m.rides.length c2) = Z := ⟨_, rfl⟩
    rw [hZ] at XR XN HBZ HOZ ⊢
    clear hZ t0 t1 t2 t3 t4 t5 x4
    obtain ⟨y0, y1, y2, y3, y4, y5⟩ := box6_cells XN.out
    obtain ⟨t0, t1, t2, t3, t4, t5⟩ := box6_free XR.out
    obtain ⟨v0, v1, v2, v3, v4, v5⟩ := box6_cells XR.out
    have hzz := box_lt XR.out
    have hzn := box_lt XN.out
    go_wp2_with fail
    have hq : w.heap.size < W.heap.size := by omega
    have own6 : ∀ (u0 u1 u2 u3 u4 u5 : Value), V.Own 24 Ride.cod W.heap.size ((((((Z.setCell ⟨w.heap.size, 0, none⟩ u0).setCell ⟨w.heap.size, 1, none⟩ u1).setCell ⟨w.heap.size, 2, none⟩ u2).setCell ⟨w.heap.size, 3, none⟩ u3).setCell ⟨w.heap.size, 4, none⟩ u4).setCell ⟨w.heap.size, 5, none⟩ u5) (.slice a2 m.rides.length c2) m.rides := fun u0 u1 u2 u3 u4 u5 =>
      (((((HOZ.out.kept (Wi.set_grown _ _ 0 u0) (Wi.own_lt_ne HOZ.out hq)).kept (Wi.set_grown _ _ 1 u1) (Wi.own_lt_ne HOZ.out hq)).kept (Wi.set_grown _ _ 2 u2) (Wi.own_lt_ne HOZ.out hq)).kept (Wi.set_grown _ _ 3 u3) (Wi.own_lt_ne HOZ.out hq)).kept (Wi.set_grown _ _ 4 u4) (Wi.own_lt_ne HOZ.out hq)).kept (Wi.set_grown _ _ 5 u5) (Wi.own_lt_ne HOZ.out hq)
    exact bodyPost_ret (Wi.results_row_tmp rfl _ _ w.heap.size _ _ _ _ rfl (box6_set XR.out _ _ _ _ _ _) Try.underlying27 rfl (by kernel_rfl)) rfl ⟨.inr ⟨k, m, ⟨a2, m.rides.length, c2⟩, HF.out, HK3.out, HK4.out, rfl, Wi.own_sl (own6 _ _ _ _ _ _)⟩, below_set6 HBZ.out (Nat.le_refl _) _ _ _ _ _ _⟩
end Go.Proofs.Ytbdkhgenkekioaa
