/- Months: other rides in one of them, by the document, walked. -/
import Derived.Test.YtbdkhgenkekioaaMoH
import Derived.BigQuiet
import Derived.Deep.QuietTactic
namespace Go.Proofs.Ytbdkhgenkekioaa
open Go.RowKit Go.V Go.Sort Go.Shelf Go.Proofs Go.Maps
open Go.Proofs.Ytbdkhgenkekioaa.Ne (box_alloc box_new box_cell box_below box_lt box2_cells)

/-- Months in a row that the call made itself. -/
structure MonOwn (base : Nat) (w : World) (v : Value) (hs : List Hdr) (ms : List Mon) : Prop where
  own : V.Own 27 MH.cod base w v (List.zipWith Mon.hd ms hs)
  len : hs.length = ms.length
  each : ∀ (i : Nat) (h : Hdr) (m : Mon), hs[i]? = some h → ms[i]? = some m → Sl Ride.cod w h.a h.n h.cap m.rides
theorem MonOwn.monIn {base : Nat} {w : World} {v : Value} {hs : List Hdr} {ms : List Mon} (h : MonOwn base w v hs ms) : ∃ a cap, v = .slice a ms.length cap ∧ MonIn w a ms.length cap hs ms := by
  obtain ⟨a, cap, e, hsl, -⟩ := h.own.slice
  have hl : (List.zipWith Mon.hd ms hs).length = ms.length := by rw [List.length_zipWith, h.len, Nat.min_self]
  rw [hl] at e hsl
  exact ⟨a, cap, e, hsl, h.len, h.each⟩
def withM (ms : List Mon) (at_ : Int) (xs : List Ride) : List Mon := ms.mapIdx fun i m => if (i : Int) = at_ then { m with rides := isort ltR xs } else m
theorem withM_len (ms : List Mon) (at_ : Int) (xs : List Ride) : (withM ms at_ xs).length = ms.length := by simp [withM]
theorem withM_at (ms : List Mon) (at_ : Int) (xs : List Ride) {k : Nat} {m : Mon} (h : ms[k]? = some m) : (withM ms at_ xs)[k]? = some (if (k : Int) = at_ then { m with rides := isort ltR xs } else m) := by
  simp [withM, h]
/-- Each month's rides: as they came in, or the call's own. -/
def EachW (w wr : World) (hk : List Hdr) (ys : List Mon) : Prop := ∀ (i : Nat) (h : Hdr) (m : Mon), hk[i]? = some h → ys[i]? = some m → Sl Ride.cod w h.a h.n h.cap m.rides ∨ V.Own 24 Ride.cod w.heap.size wr (.slice h.a h.n h.cap) m.rides
theorem EachW.to {w wr wr' : World} {hk : List Hdr} {ys : List Mon} (h : EachW w wr hk ys) (ht : ∀ v zs, V.Own 24 Ride.cod w.heap.size wr v zs → V.Own 24 Ride.cod w.heap.size wr' v zs) : EachW w wr' hk ys := fun i g m h1 h2 => by
  rcases h i g m h1 h2 with h3 | h3
  · exact .inl h3
  · exact .inr (ht _ _ h3)
theorem EachW.step {w wr : World} {hk : List Hdr} {ys : List Mon} {k : Nat} (he : EachW w wr hk ys) (hl : hk.length = k) {h : Hdr} {m : Mon} (hm : ys[k]? = some m) (hs : Sl Ride.cod w h.a h.n h.cap m.rides ∨ V.Own 24 Ride.cod w.heap.size wr (.slice h.a h.n h.cap) m.rides) : EachW w wr (hk ++ [h]) ys := by
  intro i g x h1 h2
  by_cases hi : i < hk.length
  · rw [List.getElem?_append_left hi] at h1
    exact he i g x h1 h2
  · rw [List.getElem?_append_right (by omega)] at h1
    have : i = k := by
      have := (List.getElem?_eq_some_iff.1 h1).1
      simp at this; omega
    subst this
    rw [hl, Nat.sub_self] at h1
    simp at h1; subst h1
    have := h2.symm.trans hm
    cases this
    exact hs
theorem EachW.sl {w wr : World} {hk : List Hdr} {ys : List Mon} (h : EachW w wr hk ys) (hb : Below w.heap.size w wr) : ∀ (i : Nat) (g : Hdr) (m : Mon), hk[i]? = some g → ys[i]? = some m → Sl Ride.cod wr g.a g.n g.cap m.rides := fun i g m h1 h2 => by
  rcases h i g m h1 h2 with h3 | h3
  · exact h3.below hb
  · exact Wi.own_sl h3
theorem step_zip {hk : List Hdr} {ms : List Mon} {k : Nat} (hl : hk.length = k) {h : Hdr} {m : Mon} (hm : ms[k]? = some m) : List.zipWith Mon.hd (ms.take (k + 1)) (hk ++ [h]) = List.zipWith Mon.hd (ms.take k) hk ++ [m.hd h] := by
  have hlt := (List.getElem?_eq_some_iff.1 hm).1
  rw [take_at hm, List.zipWith_append (by rw [List.length_take, hl]; omega)]
  rfl

set_option maxHeartbeats 8000000 in
set_option maxRecDepth 100000 in
theorem rwith_any (a : Option Addr) (n cap : Nat) (hs : List Hdr) (ms : List Mon) (A : Int) (a' : Option Addr) (n' c' : Nat) (xs : List Ride) (w : World) (hn : n ≤ 100000) (hn' : n' ≤ 1000000) (h : MonIn w a n cap hs ms) (hr : Sl Ride.cod w a' n' c' xs) :
    Calls Try.prog 53 #[.slice a n cap, .int .i64 A, .slice a' n' c'] w fun e w' => ∃ v hs', e = .returned v ∧ MonOwn w.heap.size w' v hs' (withM ms A xs) ∧ EachW w w' hs' (withM ms A xs) ∧ Below w.heap.size w w' := by
  have HN := Lib.hid h.n_eq
  obtain ⟨ys, hys⟩ : ∃ ys, withM ms A xs = ys := ⟨_, rfl⟩
  have hyl : ys.length = n := by rw [← hys, withM_len, HN.out]
  have HY := Lib.hid hys
  have HYL := Lib.hid hyl
  rw [hys]
  clear hys hyl
  go_enter Try.func53, Try.ntmps53
  go_wp2_with fail
  go_loopw [7, 8] (fun o i wr => ∃ (k : Nat) (hk : List Hdr), i = .int .i64 k ∧ k ≤ n ∧ Hid (hk.length = k) ∧ Hid (V.Own 27 MH.cod w.heap.size wr o (List.zipWith Mon.hd (ys.take k) hk)) ∧ Hid (EachW w wr hk ys) ∧ Hid (Below w.heap.size w wr)) (fun _ i _ => n - (intOf i).toNat)
  case atStart => exact ⟨0, [], rfl, by omega, rfl, by show V.Own _ _ _ _ _ _; simp; exact V.Own.nil, fun i h m h1 => by simp at h1, Below.refl _ _⟩
  case round =>
    obtain ⟨k, hk, rfl, hkn, hkl, hO, hE, hB⟩ := hrel
    have hbs := hB.out.size
    by_cases hlt : k < n
    · obtain ⟨b, off, at_, ct, m, rfl, hbb, hm, hh, ⟨c0, c1, c2, c3, c4, c5⟩, -⟩ := (h.below hB.out).at hlt
      have hrd := h.each k _ m hh hm
      have HRD := Lib.hid hrd
      have hyk := withM_at ms A xs hm
      rw [HY.out] at hyk
      have HYK := Lib.hid hyk
      have b1 : (k : Int) < (n : Int) := by omega
      have HLEN : Hid ((List.zipWith Mon.hd (ys.take k) hk).length = k) := by
        show _ = _
        rw [List.length_zipWith, List.length_take, hkl.out, HYL.out]; omega
      have HM1 : Hid ((List.zipWith Mon.hd (ys.take k) hk).length + 1 ≤ maxLen ∧ ((List.zipWith Mon.hd (ys.take k) hk).length + 1) * 64 ≤ 140737488355328) := by
        have := HLEN.out
        constructor
        · unfold maxLen; omega
        · omega
      clear hm hrd hyk
      go_upto_region 6 with fail
      have X0 : Hid ((wr.alloc (.cells #[.int .i64 m.a, .int .i64 m.m, .int .i64 m.t, .int .i64 m.c, .slice at_ m.rides.length ct, .bool m.z] 27)).heap[wr.heap.size]? = some (.cells #[.int .i64 m.a, .int .i64 m.m, .int .i64 m.t, .int .i64 m.c, .slice at_ m.rides.length ct, .bool m.z] 27 (0, 0))) := box_new wr _
      have B0 : Hid (Below wr.heap.size wr (wr.alloc (.cells #[.int .i64 m.a, .int .i64 m.m, .int .i64 m.t, .int .i64 m.c, .slice at_ m.rides.length ct, .bool m.z] 27))) := (Below.refl _ _).alloc (Nat.le_refl _) _
      have hz : wr.heap.size < (wr.alloc (.cells #[.int .i64 m.a, .int .i64 m.m, .int .i64 m.t, .int .i64 m.c, .slice at_ m.rides.length ct, .bool m.z] 27)).heap.size := by simp
      obtain ⟨W, hW⟩ : ∃ W, wr.alloc (.cells #[.int .i64 m.a, .int .i64 m.m, .int .i64 m.t, .int .i64 m.c, .slice at_ m.rides.length ct, .bool m.z] 27) = W := ⟨_, rfl⟩
      rw [hW] at X0 B0 hz ⊢
      clear hW c0 c1 c2 c3 c4 c5
      have HBW : Hid (Below w.heap.size w W) := hB.out.trans (B0.out.mono hbs)
      have hsW := HBW.out.size
      by_cases hka : (k : Int) = A
      · subst hka
        have hy : ys[k]? = some ({ m with rides := isort ltR xs } : Mon) := by have := HYK.out; rwa [if_pos rfl] at this
        have HYM := Lib.hid hy
        have HOW := Lib.hid (hO.out.below B0.out)
        obtain ⟨y0, y1, y2, y3, y4, y5⟩ := box6_cells X0.out
        clear hy
        go_upto_region 8 with (go_at_call 97; refine (rsort_any a' n' c' xs _ hn' (hr.below HBW.out)).mono ?_; rintro e w3 ⟨v, rfl, ho, hb3⟩; obtain ⟨a3, c3, rfl, -, -⟩ := V.Own.slice ho; have HS3 : Hid (V.Own 24 Ride.cod W.heap.size w3 (.slice a3 (isort ltR xs).length c3) (isort ltR xs)) := ho; have HB3 := Lib.hid hb3; have X3 := Lib.hid (box_below X0.out hb3); have HOW3 := Lib.hid (HOW.out.below hb3); obtain ⟨t0, t1, t2, t3, t4, t5⟩ := box6_free X3.out; have hz3 := box_lt X3.out; clear y0 y1 y2 y3 y4 y5; obtain ⟨-, -, -, -, x4, -⟩ := box6_cells X3.out; clear ho hb3)
        have hs3 := HB3.out.size
        have XN : Hid ((w3.setCell ⟨wr.heap.size, 4, none⟩ (.slice a3 (isort ltR xs).length c3)).heap[wr.heap.size]? = some (.cells #[.int .i64 m.a, .int .i64 m.m, .int .i64 m.t, .int .i64 m.c, .slice a3 (isort ltR xs).length c3, .bool m.z] 27 (0, 0))) := heap_setCell_same w3 wr.heap.size 4 _ _ _ X3.out
        have HBZ : Hid (Below w.heap.size w (w3.setCell ⟨wr.heap.size, 4, none⟩ (.slice a3 (isort ltR xs).length c3))) := (HBW.out.trans (HB3.out.mono hsW)).setCell (p := ⟨wr.heap.size, 4, none⟩) hbs _
        have HTR : Hid (∀ v zs, V.Own 24 Ride.cod w.heap.size wr v zs → V.Own 24 Ride.cod w.heap.size (w3.setCell ⟨wr.heap.size, 4, none⟩ (.slice a3 (isort ltR xs).length c3)) v zs) := fun v zs hv => ((hv.below B0.out).below HB3.out).kept (Wi.set_grown _ wr.heap.size 4 _) (by
          cases hb : v.ownBlock with
          | none => exact .inl rfl
          | some g => exact .inr (fun q => by have := (World.ownsRow.lt hv g hb).2; cases q; omega))
        have HSZ : Hid (V.Own 24 Ride.cod w.heap.size (w3.setCell ⟨wr.heap.size, 4, none⟩ (.slice a3 (isort ltR xs).length c3)) (.slice a3 (isort ltR xs).length c3) (isort ltR xs)) := (HS3.out.kept (Wi.set_grown _ wr.heap.size 4 _) (Wi.own_lt_ne HS3.out hz)).lower hsW
        have HOZ : Hid (V.Own 27 MH.cod w.heap.size (w3.setCell ⟨wr.heap.size, 4, none⟩ (.slice a3 (isort ltR xs).length c3)) u7 (List.zipWith Mon.hd (ys.take k) hk)) := HOW3.out.kept (Wi.set_grown _ wr.heap.size 4 _) (by
          cases hb : u7.ownBlock with
          | none => exact .inl rfl
          | some g => exact .inr (fun q => by have := (World.ownsRow.lt hO.out g hb).2; cases q; omega))
        obtain ⟨Z, hZ⟩ : ∃ Z, w3.setCell ⟨wr.heap.size, 4, none⟩ (.slice a3 (isort ltR xs).length c3) = Z := ⟨_, rfl⟩
        rw [hZ] at XN HBZ HTR HSZ HOZ ⊢
        clear hZ t0 t1 t2 t3 t4 t5 x4
        have hsZ := HBZ.out.size
        obtain ⟨y0, y1, y2, y3, y4, y5⟩ := box6_cells XN.out
        have hzn := box_lt XN.out
        go_wp2_with (at_builtin; go_loud (refine wpList_app eltMonth rfl (.tmp 26) (.tmp 28) rfl (base := w.heap.size) _ (List.zipWith Mon.hd (ys.take k) hk) rfl (HOZ.out.alloc _) _ 1 1 [(({ m with rides := isort ltR xs } : Mon).hd ⟨a3, (isort ltR xs).length, c3⟩)] rfl (sl_new (c := MH.cod) _ #[.int .i64 m.a, .int .i64 m.m, .int .i64 m.t, .int .i64 m.c, .slice a3 (isort ltR xs).length c3, .bool m.z] 27 [(({ m with rides := isort ltR xs } : Mon).hd ⟨a3, (isort ltR xs).length, c3⟩)] 1 rfl (by unfold maxLen; omega) rfl) HM1.out.1 HM1.out.2 (by simp; omega) ?_); intro v5 w5 hown5 hg5; have HO5 := Lib.hid hown5; have HB5 : Hid (Below w.heap.size w w5) := (HBZ.out.alloc hsZ _).grown hg5 (by simp; omega) (fun i hi => (World.ownsRow.lt HOZ.out i hi).1); have HG5 := Lib.hid hg5; clear hown5 hg5)
        go_roundw
        case rel =>
          refine ⟨k + 1, hk ++ [⟨a3, (isort ltR xs).length, c3⟩], by go_num, by omega, by show _ = _; rw [List.length_append, hkl.out]; rfl, by show V.Own _ _ _ _ _ _; rw [step_zip hkl.out HYM.out]; exact HO5.out, ?_, HB5.out⟩
          have hkeep : ∀ v zs, V.Own 24 Ride.cod w.heap.size Z v zs → V.Own 24 Ride.cod w.heap.size w5 v zs := fun v zs hv => by
            have h1 := hv.alloc (.cells #[.int .i64 m.a, .int .i64 m.m, .int .i64 m.t, .int .i64 m.c, .slice a3 (isort ltR xs).length c3, .bool m.z] 27)
            exact h1.kept HG5.out (Wi.own_apart h1 (HOZ.out.alloc _) (by decide))
          exact EachW.step (hE.out.to fun v zs hv => hkeep v zs (HTR.out v zs hv)) hkl.out HYM.out (.inr (hkeep _ _ HSZ.out))
        case measure => simp [intOf]; omega
      · have z1 : ((k : Int) == A) = false := by simpa using hka
        have hy : ys[k]? = some m := by have := HYK.out; rwa [if_neg hka] at this
        have HYM := Lib.hid hy
        have HOW := Lib.hid (hO.out.below B0.out)
        obtain ⟨y0, y1, y2, y3, y4, y5⟩ := box6_cells X0.out
        clear hy hka
        go_wp2_with (at_builtin; go_loud (refine wpList_app eltMonth rfl (.tmp 26) (.tmp 28) rfl (base := w.heap.size) _ (List.zipWith Mon.hd (ys.take k) hk) rfl (HOW.out.alloc _) _ 1 1 [m.hd ⟨at_, m.rides.length, ct⟩] rfl (sl_new (c := MH.cod) _ #[.int .i64 m.a, .int .i64 m.m, .int .i64 m.t, .int .i64 m.c, .slice at_ m.rides.length ct, .bool m.z] 27 [m.hd ⟨at_, m.rides.length, ct⟩] 1 rfl (by unfold maxLen; omega) rfl) HM1.out.1 HM1.out.2 (by simp; omega) ?_); intro v5 w5 hown5 hg5; have HO5 := Lib.hid hown5; have HB5 : Hid (Below w.heap.size w w5) := (HBW.out.alloc hsW _).grown hg5 (by simp; omega) (fun i hi => (World.ownsRow.lt HOW.out i hi).1); have HG5 := Lib.hid hg5; clear hown5 hg5)
        go_roundw
        case rel =>
          refine ⟨k + 1, hk ++ [⟨at_, m.rides.length, ct⟩], by go_num, by omega, by show _ = _; rw [List.length_append, hkl.out]; rfl, by show V.Own _ _ _ _ _ _; rw [step_zip hkl.out HYM.out]; exact HO5.out, ?_, HB5.out⟩
          refine EachW.step (hE.out.to fun v zs hv => ?_) hkl.out HYM.out (.inl HRD.out)
          have h1 := (hv.below B0.out).alloc (.cells #[.int .i64 m.a, .int .i64 m.m, .int .i64 m.t, .int .i64 m.c, .slice at_ m.rides.length ct, .bool m.z] 27)
          exact h1.kept HG5.out (Wi.own_apart h1 (HOW.out.alloc _) (by decide))
        case measure => simp [intOf]; omega
    · have hk' : k = n := by omega
      subst hk'
      go_wp2_with fail
      go_ret
      have e : ys.take k = ys := List.take_of_length_le (by rw [HYL.out]; exact Nat.le_refl _)
      refine ⟨_, hk, rfl, ⟨by have := hO.out; rwa [e] at this, by rw [hkl.out, HYL.out], hE.out.sl hB.out⟩, hE.out, hB.out⟩
end Go.Proofs.Ytbdkhgenkekioaa
