/- slices.Insert of one thing, at rows of things of 6 cells, walked. -/
import Derived.Test.YtbdkhgenkekioaaMoH
import Derived.Test.YtbdkhgenkekioaaInK
namespace Go.Proofs.Ytbdkhgenkekioaa.In
open Go.RowKit Go.V Go.Sort Go.Shelf Go.Proofs Go.Maps
open Go.Proofs.Ytbdkhgenkekioaa.Ne (box_alloc box_new box_cell box_below box_lt)

def monZero : Value := .agg #[.int .i64 0, .int .i64 0, .int .i64 0, .int .i64 0, .slice none 0 0, .bool false]
theorem sizeMonth : (Try.prog.info? 27).map (·.size) = some 6 := by kernel_rfl

set_option maxHeartbeats 4000000 in
set_option maxRecDepth 100000 in
theorem insEndMonth (v : Value) (n : Nat) (xs : List MH) (x : MH) (vb B : Nat) (w : World) (hn : n ≤ 100000) (hl : n = xs.length) (ho : V.Own 27 MH.cod B w v xs) (hB : B ≤ w.heap.size) (hv : w.heap[vb]? = some (.cells (MH.cod.enc x).toArray 27 (0, 0))) :
    Calls Try.prog 44 #[v, .int .i64 n, .slice (some ⟨vb, 0, none⟩) 1 1] w fun e w' => ∃ v', e = .returned v' ∧ V.Own 27 MH.cod B w' v' (xs ++ [x]) ∧ Below B w w' := by
  subst hl
  obtain ⟨a, cap, rfl, hs, -⟩ := ho.slice
  have HO := Lib.hid ho
  have HX : Hid (Sl MH.cod w (some ⟨vb, 0, none⟩) 1 1 [x]) := ⟨rfl, Nat.le_refl _, by unfold maxLen; omega, (fun h => nomatch h), fun d hd _ => by
    simp at hd; subst hd
    exact ⟨rfl, box_lt hv, fun j u hu => by rw [Nat.zero_add, (box_cell hv j).1]; simpa using hu⟩⟩
  have HM1 : Hid (xs.length + 1 ≤ maxLen) := by show _ ≤ _; unfold maxLen; omega
  have HM2 : Hid ((xs.length + 1) * 64 ≤ 140737488355328) := by show _ ≤ _; omega
  have hcc := hs.hcap
  have hmx := hs.hmax
  obtain ⟨n, hxn⟩ : ∃ n, xs.length = n := ⟨_, rfl⟩
  have hcm : cap ≤ 9223372036854775807 := by unfold maxLen at hmx; omega
  have hnil := hs.hnil
  rw [hxn] at hcc hnil ⊢
  have HE : Hid (V.Own 27 MH.cod B w (.slice a n cap) xs) := by have := HO.out; rw [hxn] at this; exact this
  rw [hxn] at hn
  clear ho hs hmx hv HO hxn
  cases a with
  | none =>
    obtain ⟨rfl, rfl⟩ := hnil rfl
    clear hnil
    go_enter Try.func44, Try.ntmps44
    go_wp2_with (at_builtin; go_loud (refine wpList_app eltMonth rfl (.tmp 23) (.tmp 24) rfl (base := B) _ xs rfl HE.out _ 1 1 [x] rfl HX.out HM1.out HM2.out hB ?_); intro v1 w1 ho1 hg1; have HO1 := Lib.hid ho1; have HG1 := Lib.hid hg1; clear ho1 hg1)
    go_ret
    exact ⟨_, rfl, HO1.out, mown_below HE.out HG1.out hB⟩
  | some d =>
    clear hnil
    go_enter Try.func44, Try.ntmps44
    go_wp2_with (at_builtin; go_loud (refine wpList_app eltMonth rfl (.tmp 23) (.tmp 24) rfl (base := B) _ xs rfl HE.out _ 1 1 [x] rfl HX.out HM1.out HM2.out hB ?_); intro v1 w1 ho1 hg1; have HO1 := Lib.hid ho1; have HG1 := Lib.hid hg1; clear ho1 hg1)
    all_goals (go_ret; exact ⟨_, rfl, HO1.out, mown_below HE.out HG1.out hB⟩)

theorem own_rowMonth {B g n cap : Nat} {w : World} {xs : List MH} (ho : V.Own 27 MH.cod B w (.slice (some ⟨g, 0, none⟩) n cap) xs) : ∃ R : List Value, n = xs.length ∧ B ≤ g ∧ n ≤ cap ∧ cap ≤ maxLen ∧ w.heap[g]? = some (.cells (xs.flatMap MH.cod.enc ++ R).toArray 27 (0, 0)) ∧ R.length = (cap - n) * 6 := by
  obtain ⟨h1, h2⟩ := ho
  rcases h2 with ⟨h2, -⟩ | ⟨g', cap', cur, e, hb, hg, hn, hm, hsz, ht⟩
  · cases h2
  · cases e
    refine ⟨cur.toList.drop (xs.length * 6), rfl, hb, hn, hm, ?_, ?_⟩
    · rw [← ht]
      have : MH.cod.k = 6 := rfl
      rw [this, List.take_append_drop]
      exact hg
    · rw [List.length_drop, Array.length_toList, hsz]
      have : MH.cod.k = 6 := rfl
      rw [this, Nat.sub_mul]
theorem flat_takeMonth (xs : List MH) (i : Nat) : xs.flatMap MH.cod.enc = (xs.take i).flatMap MH.cod.enc ++ (xs.drop i).flatMap MH.cod.enc := by rw [← List.flatMap_append, List.take_append_drop]
theorem flat_oneMonth (xs : List MH) : ∀ v ∈ xs.flatMap MH.cod.enc, v.oneCell' = true := fun v hv => by
  obtain ⟨y, -, hy⟩ := List.mem_flatMap.1 hv
  exact MH.cod.one y v hy

set_option maxHeartbeats 4000000 in
set_option maxRecDepth 100000 in
theorem insRoomMonth (g n cap i : Nat) (xs : List MH) (x : MH) (vb B : Nat) (w : World) (hn : n ≤ 100000) (ho : V.Own 27 MH.cod B w (.slice (some ⟨g, 0, none⟩) n cap) xs) (hi : i < n) (hc : n < cap) (hB : B ≤ w.heap.size) (hvg : vb ≠ g) (hv : w.heap[vb]? = some (.cells (MH.cod.enc x).toArray 27 (0, 0))) :
    Calls Try.prog 44 #[.slice (some ⟨g, 0, none⟩) n cap, .int .i64 i, .slice (some ⟨vb, 0, none⟩) 1 1] w fun e w' => ∃ v', e = .returned v' ∧ V.Own 27 MH.cod B w' v' (xs.take i ++ x :: xs.drop i) ∧ Below B w w' := by
  obtain ⟨R, hl, hBg, -, hmx, hg, hR⟩ := own_rowMonth ho
  obtain ⟨cur, hcur⟩ : ∃ cur, xs.flatMap MH.cod.enc ++ R = cur := ⟨_, rfl⟩
  rw [hcur] at hg
  have kk : MH.cod.k = 6 := rfl
  have lx : (xs.flatMap MH.cod.enc).length = n * 6 := by rw [flat_len, kk, hl]
  have lA : ((xs.take i).flatMap MH.cod.enc).length = i * 6 := by rw [flat_len, kk, List.length_take, Nat.min_eq_left (by omega)]
  have lD : ((xs.drop i).flatMap MH.cod.enc).length = (n - i) * 6 := by rw [flat_len, kk, List.length_drop, hl]
  have lX : (MH.cod.enc x).length = 6 := MH.cod.len x
  have lc : cur.length = cap * 6 := by rw [← hcur, List.length_append, lx, hR, Nat.sub_mul]; omega
  have hcurA : cur = (xs.take i).flatMap MH.cod.enc ++ (xs.drop i).flatMap MH.cod.enc ++ R := by rw [← hcur, ← flat_takeMonth]
  obtain ⟨D, hD⟩ : ∃ D, (xs.drop i).flatMap MH.cod.enc = D := ⟨_, rfl⟩
  have h1D : ∀ v ∈ D, v.oneCell' = true := by rw [← hD]; exact flat_oneMonth _
  rw [hD] at lD hcurA
  have hcp1 : ∀ ty dc sc, (Builtin.copy_ #[22, 22] ty #[.slice (some ⟨g, (i + 1) * 6, none⟩) (n - i) dc, .slice (some ⟨g, i * 6, none⟩) (n + 1 - i) sc]).run Try.prog w.drew = .ok (.int .i64 (n - i : Nat)) (w.drew.setRow g (spl cur ((i + 1) * 6) D).toArray) := fun ty dc sc =>
    copy_runK w.drew _ ty _ g _ _ dc ⟨g, i * 6, none⟩ _ sc cur 27 D (n - i) 6 Try.underlying22 sizeMonth hg (by simp only [Nat.min_def]; split <;> omega) lD
      (fun j v hj => by
        rw [add_addr]
        show w.cell? _ = _
        rw [row_cell hg, hcurA, List.append_assoc, List.getElem?_append_right (by rw [lA]; omega), lA, Nat.add_sub_cancel_left, List.getElem?_append_left (List.getElem?_eq_some_iff.1 hj).1]
        exact hj) (by rw [lc]; omega) h1D
  have hg1 := spl_heap ((i + 1) * 6) D (w := w.drew) hg
  have hG1 : w.grownBy (w.drew.setRow g (spl cur ((i + 1) * 6) D).toArray) (some g) := by
    obtain ⟨a1, a2, a3, a4, a5⟩ := setRow_grown (w := w.drew) (cs := (spl cur ((i + 1) * 6) D).toArray) hg
    exact ⟨a1, a2, a3, a4, a5⟩
  obtain ⟨W1, hW1⟩ : ∃ W1, w.drew.setRow g (spl cur ((i + 1) * 6) D).toArray = W1 := ⟨_, rfl⟩
  simp only [hW1] at hcp1 hg1 hG1
  have hv1 : W1.heap[vb]? = some (.cells (MH.cod.enc x).toArray 27 (0, 0)) := by rw [hG1.block vb (box_lt hv) (fun q => hvg (Option.some.inj q))]; exact hv
  have hl1 : (spl cur ((i + 1) * 6) D).length = cap * 6 := by rw [spl_len (by rw [lc, lD]; omega), lc]
  have hcp2 : ∀ ty dc, (Builtin.copy_ #[22, 22] ty #[.slice (some ⟨g, i * 6, none⟩) (n + 1 - i) dc, .slice (some ⟨vb, 0, none⟩) 1 1]).run Try.prog W1 = .ok (.int .i64 (1 : Nat)) (W1.setRow g (spl (spl cur ((i + 1) * 6) D) (i * 6) (MH.cod.enc x)).toArray) := fun ty dc =>
    copy_runK W1 _ ty _ g _ _ dc ⟨vb, 0, none⟩ 1 1 _ 27 (MH.cod.enc x) 1 6 Try.underlying22 sizeMonth hg1 (by simp only [Nat.min_def]; split <;> omega) lX
      (fun j v hj => by rw [add_addr, row_cell hv1, Nat.zero_add]; exact hj) (by rw [hl1]; omega) (MH.cod.one x)
  have hg2 := spl_heap (i * 6) (MH.cod.enc x) hg1
  have hG2 := setRow_grown (cs := (spl (spl cur ((i + 1) * 6) D) (i * 6) (MH.cod.enc x)).toArray) hg1
  have hfin := spl_shift (A := (xs.take i).flatMap MH.cod.enc) (X := MH.cod.enc x) (D := D) (cur := cur) (R := R) (i := i * 6) (k := 6) lA lX hcurA (by rw [hR]; omega)
  rw [show i * 6 + 6 = (i + 1) * 6 by omega] at hfin
  obtain ⟨W2, hW2⟩ : ∃ W2, W1.setRow g (spl (spl cur ((i + 1) * 6) D) (i * 6) (MH.cod.enc x)).toArray = W2 := ⟨_, rfl⟩
  simp only [hW2] at hcp2 hg2 hG2
  have HFIN : Hid (V.Own 27 MH.cod B W2 (.slice (some ⟨g, 0, none⟩) (n + 1) cap) (xs.take i ++ x :: xs.drop i) ∧ Below B w W2) := by
    have e2 : (xs.take i ++ x :: xs.drop i).length = n + 1 := by rw [List.length_append, List.length_take, List.length_cons, List.length_drop]; omega
    have e3 : (xs.take i ++ x :: xs.drop i).flatMap MH.cod.enc = (xs.take i).flatMap MH.cod.enc ++ MH.cod.enc x ++ D := by rw [List.flatMap_append, List.flatMap_cons, hD, List.append_assoc]
    refine ⟨⟨by rw [flat_len], .inr ⟨g, cap, _, by rw [e2], hBg, hg2, by omega, hmx, ?_, ?_⟩⟩, ?_⟩
    · rw [List.size_toArray, spl_len (by rw [hl1, lX]; omega), hl1]; rfl
    · rw [e2, e3, ← hfin, kk, lD]
      congr 1
      omega
    · exact ((Below.refl B w).grown hG1 hB (fun k hk => by cases hk; exact hBg)).trans ((Below.refl B W1).grown hG2 (Nat.le_trans hB hG1.size) (fun k hk => by cases hk; exact hBg))
  have hov : ∀ lb cb, (callFunc 88 #[.slice (some ⟨vb, 0, none⟩) 1 1, .slice (some ⟨g, (i + 1) * 6, none⟩) lb cb]).run Try.prog w = .ok (.value (.bool false)) w := fun lb cb => by
    rw [run_callFunc_extern Try.func88 (by kernel_rfl) (by kernel_rfl) (by kernel_rfl) (e := Extern.SlicesOverlaps.overlaps #[22, 22] #[4]) (by kernel_rfl),
      Lib.run_overlaps_apart w 22 4 27 Try.underlying22 6 (fun _ => by kernel_rfl) ⟨vb, 0, none⟩ ⟨g, (i + 1) * 6, none⟩ 1 1 lb cb hvg 27 27 6 (cap * 6) (by simp [World.shape?, hv, lX]) (by simp [World.shape?, hg, lc]) (by omega) (by simp [World.frozen?, hv]) (by simp [World.frozen?, hv])]
    rfl
  have hcm : cap ≤ 9223372036854775807 := by unfold maxLen at hmx; omega
  clear ho hl hg hcur lx lA lD lX lc hcurA hD h1D hg1 hG1 hW1 hv1 hl1 hg2 hG2 hfin hW2 hv hR hmx
  go_enter Try.func44, Try.ntmps44
  go_wp2_with (simp only [hov])
  go_region
  all_goals
    go_wp2_with fail
    go_ret
    exact ⟨_, rfl, HFIN.out⟩

set_option maxHeartbeats 4000000 in
set_option maxRecDepth 100000 in
theorem insGrowMonth (g n cap i : Nat) (xs : List MH) (x : MH) (vb B : Nat) (w : World) (hn : n ≤ 100000) (ho : V.Own 27 MH.cod B w (.slice (some ⟨g, 0, none⟩) n cap) xs) (hi : i < n) (hc : n = cap) (hB : B ≤ w.heap.size) (hv : w.heap[vb]? = some (.cells (MH.cod.enc x).toArray 27 (0, 0))) :
    Calls Try.prog 44 #[.slice (some ⟨g, 0, none⟩) n cap, .int .i64 i, .slice (some ⟨vb, 0, none⟩) 1 1] w fun e w' => ∃ v', e = .returned v' ∧ V.Own 27 MH.cod B w' v' (xs.take i ++ x :: xs.drop i) ∧ Below B w w' := by
  subst hc
  obtain ⟨R, hl, hBg, -, hmx, hg, hR⟩ := own_rowMonth ho
  have hR0 : R = [] := List.eq_nil_of_length_eq_zero (by rw [hR]; simp)
  subst hR0
  rw [List.append_nil] at hg
  have kk : MH.cod.k = 6 := rfl
  have hgw := box_lt hg
  have hvw := box_lt hv
  have lA : ((xs.take i).flatMap MH.cod.enc).length = i * 6 := by rw [flat_len, kk, List.length_take, Nat.min_eq_left (by omega)]
  have lD : ((xs.drop i).flatMap MH.cod.enc).length = (n - i) * 6 := by rw [flat_len, kk, List.length_drop, hl]
  have lX : (MH.cod.enc x).length = 6 := MH.cod.len x
  have hsplit := flat_takeMonth xs i
  obtain ⟨A, hA⟩ : ∃ A, (xs.take i).flatMap MH.cod.enc = A := ⟨_, rfl⟩
  obtain ⟨D, hD⟩ : ∃ D, (xs.drop i).flatMap MH.cod.enc = D := ⟨_, rfl⟩
  have h1D : ∀ v ∈ D, v.oneCell' = true := by rw [← hD]; exact flat_oneMonth _
  rw [hA] at lA hsplit
  rw [hD] at lD hsplit
  have hold : (Builtin.firstCells 6 i (.slice (some ⟨g, 0, none⟩) i n)).run Try.prog w.drew = .ok A.toArray w.drew :=
    run_firstCells_some w.drew 6 i ⟨g, 0, none⟩ i n A lA (fun j v hj => by
      rw [add_addr, Nat.zero_add]
      show w.cell? _ = _
      rw [row_cell hg, hsplit, List.getElem?_append_left (List.getElem?_eq_some_iff.1 hj).1]
      exact hj)
  obtain ⟨i0, hi0, hz0, hzs, hzb⟩ := info_parts infoMonth
  have hgs : Builtin.nextslicecap (n + 1) n * i0.bytes ≤ 281474976710656 := by rw [hzb]; exact growslice_fits (by omega) (by omega)
  have hrz : ∀ ty, (Builtin.append_ #[22, 3] ty #[.slice (some ⟨g, 0, none⟩) i n, .int .i64 ((n : Int) + 1 - (i : Int))]).run Try.prog w =
      .ok (.slice (some ⟨w.heap.size, 0, none⟩) (n + 1) (grownCap w (n + 1) n 27)) (w.drew.alloc (.cells (A.toArray ++ Builtin.zeroCells monZero.cells (n + 1 - i) ++ Builtin.zeroCells monZero.cells (grownCap w (n + 1) n 27 - (n + 1))) 27)) := fun ty => by
    have hik : i + (n + 1 - i) = n + 1 := by omega
    have h := Lib.run_append_grow_zeros (P := Try.prog) w 22 3 ty 27 i0 _ .i64 .i64 Try.underlying22 Try.underlying3 hi0 hz0 (some ⟨g, 0, none⟩) i n A (by rw [hzs]; exact hold) (n + 1 - i) (by omega) (by rw [hzs]; decide) (by omega) (by omega) (by rw [hzb]; omega) (by rw [hik]; exact hgs)
    rw [hik] at h
    rw [show (n : Int) + 1 - (i : Int) = ((n + 1 - i : Nat) : Int) by omega]
    exact h
  have hGn : n + 1 ≤ grownCap w (n + 1) n 27 := grownCap_ge w _ _ _
  have hGm : grownCap w (n + 1) n 27 ≤ maxLen := grownCap_le_maxLen w (n + 1) n 27 (by unfold maxLen; omega)
  obtain ⟨G, hG⟩ : ∃ G, grownCap w (n + 1) n 27 = G := ⟨_, rfl⟩
  rw [hG] at hrz hGn hGm
  have hzl : ∀ k, (Builtin.zeroCells monZero.cells k).size = k * 6 := fun k => by simp [Builtin.zeroCells, monZero, Value.cells]
  obtain ⟨Z, hZ⟩ : ∃ Z, (Builtin.zeroCells monZero.cells (n + 1 - i) ++ Builtin.zeroCells monZero.cells (G - (n + 1))).toList = Z := ⟨_, rfl⟩
  have lZ : Z.length = (G - i) * 6 := by rw [← hZ, Array.length_toList, Array.size_append, hzl, hzl]; omega
  have hrow : A.toArray ++ Builtin.zeroCells monZero.cells (n + 1 - i) ++ Builtin.zeroCells monZero.cells (G - (n + 1)) = (A ++ Z).toArray := by
    rw [← hZ, Array.append_assoc]
    apply Array.ext'
    simp
  rw [hrow] at hrz
  obtain ⟨b2, hb2⟩ : ∃ b2, w.heap.size = b2 := ⟨_, rfl⟩
  have hg0 : (w.drew.alloc (.cells (A ++ Z).toArray 27)).heap[b2]? = some (.cells (A ++ Z).toArray 27 (0, 0)) := by rw [← hb2]; exact box_new w.drew _
  have hG0 : Below w.heap.size w (w.drew.alloc (.cells (A ++ Z).toArray 27)) := (Below.drew (Below.refl _ _)).alloc (Nat.le_refl _) _
  obtain ⟨W0, hW0⟩ : ∃ W0, w.drew.alloc (.cells (A ++ Z).toArray 27) = W0 := ⟨_, rfl⟩
  rw [hb2] at hrz hG0
  simp only [hW0] at hrz hg0 hG0
  have hv0 : W0.heap[vb]? = some (.cells (MH.cod.enc x).toArray 27 (0, 0)) := by rw [hG0.block vb (by omega)]; exact hv
  have hgg : W0.heap[g]? = some (.cells (xs.flatMap MH.cod.enc).toArray 27 (0, 0)) := by rw [hG0.block g (by omega)]; exact hg
  have lAZ : (A ++ Z).length = G * 6 := by rw [List.length_append, lA, lZ]; omega
  have hcp2 : ∀ ty dc, (Builtin.copy_ #[22, 22] ty #[.slice (some ⟨b2, i * 6, none⟩) (n + 1 - i) dc, .slice (some ⟨vb, 0, none⟩) 1 1]).run Try.prog W0 = .ok (.int .i64 (1 : Nat)) (W0.setRow b2 (spl (A ++ Z) (i * 6) (MH.cod.enc x)).toArray) := fun ty dc =>
    copy_runK W0 _ ty _ b2 _ _ dc ⟨vb, 0, none⟩ 1 1 _ 27 (MH.cod.enc x) 1 6 Try.underlying22 sizeMonth hg0 (by simp only [Nat.min_def]; split <;> omega) lX
      (fun j v hj => by rw [add_addr, row_cell hv0, Nat.zero_add]; exact hj) (by rw [lAZ]; omega) (MH.cod.one x)
  have hg1 := spl_heap (i * 6) (MH.cod.enc x) hg0
  have hG1 := setRow_grown (cs := (spl (A ++ Z) (i * 6) (MH.cod.enc x)).toArray) hg0
  have l1 : (spl (A ++ Z) (i * 6) (MH.cod.enc x)).length = G * 6 := by rw [spl_len (by rw [lAZ, lX]; omega), lAZ]
  obtain ⟨W1, hW1⟩ : ∃ W1, W0.setRow b2 (spl (A ++ Z) (i * 6) (MH.cod.enc x)).toArray = W1 := ⟨_, rfl⟩
  simp only [hW1] at hcp2 hg1 hG1
  have hg3 : W1.drew.heap[g]? = some (.cells (xs.flatMap MH.cod.enc).toArray 27 (0, 0)) := by
    show W1.heap[g]? = _
    rw [hG1.block g (by have := hG0.size; omega) (fun q => by have := Option.some.inj q; omega)]
    exact hgg
  have hcp1 : ∀ ty dc sc, (Builtin.copy_ #[22, 22] ty #[.slice (some ⟨b2, (i + 1) * 6, none⟩) (n - i) dc, .slice (some ⟨g, i * 6, none⟩) (n - i) sc]).run Try.prog W1.drew = .ok (.int .i64 (n - i : Nat)) (W1.drew.setRow b2 (spl (spl (A ++ Z) (i * 6) (MH.cod.enc x)) ((i + 1) * 6) D).toArray) := fun ty dc sc =>
    copy_runK W1.drew _ ty _ b2 _ _ dc ⟨g, i * 6, none⟩ _ sc _ 27 D (n - i) 6 Try.underlying22 sizeMonth hg1 (by simp only [Nat.min_def]; split <;> omega) lD
      (fun j v hj => by
        rw [add_addr, row_cell hg3, hsplit, List.getElem?_append_right (by rw [lA]; omega), lA, Nat.add_sub_cancel_left]
        exact hj) (by rw [l1]; omega) h1D
  have hg2 := spl_heap (w := W1.drew) ((i + 1) * 6) D hg1
  have hG2 := setRow_grown (w := W1.drew) (cs := (spl (spl (A ++ Z) (i * 6) (MH.cod.enc x)) ((i + 1) * 6) D).toArray) hg1
  obtain ⟨W2, hW2⟩ : ∃ W2, W1.drew.setRow b2 (spl (spl (A ++ Z) (i * 6) (MH.cod.enc x)) ((i + 1) * 6) D).toArray = W2 := ⟨_, rfl⟩
  simp only [hW2] at hcp1 hg2 hG2
  have HFIN : Hid (V.Own 27 MH.cod B W2 (.slice (some ⟨b2, 0, none⟩) (n + 1) G) (xs.take i ++ x :: xs.drop i) ∧ Below B w W2) := by
    have e2 : (xs.take i ++ x :: xs.drop i).length = n + 1 := by rw [List.length_append, List.length_take, List.length_cons, List.length_drop]; omega
    have e3 : (xs.take i ++ x :: xs.drop i).flatMap MH.cod.enc = A ++ MH.cod.enc x ++ D := by rw [List.flatMap_append, List.flatMap_cons, hA, hD, List.append_assoc]
    refine ⟨⟨by rw [flat_len], .inr ⟨b2, G, _, by rw [e2], by omega, hg2, by omega, hGm, ?_, ?_⟩⟩, ?_⟩
    · rw [List.size_toArray, spl_len (by rw [l1, lD]; omega), l1]; rfl
    · rw [e2, e3, kk]
      exact spl_two lA lX lD (by omega)
    · have h1 := hG0.mono (show B ≤ b2 by omega)
      have h2 := h1.grown hG1 (by have := hG0.size; omega) (fun k hk => by cases hk; omega)
      exact h2.trans ((Below.refl B W1).trans ⟨hG2.os, hG2.tape, hG2.output, hG2.size, fun k hk => hG2.block k (by have := hG0.size; have := hG1.size; show k < W1.heap.size; omega) (fun q => by cases q; omega)⟩)
  have HG9 : G ≤ 9223372036854775807 := by unfold maxLen at hGm; omega
  clear ho hl hg lA lD lX hsplit hA hD h1D hg1 hG1 hW1 hg2 hG2 hW2 hv hR hmx hold hi0 hz0 hzs hzb hgs hG hzl hZ lZ hrow hb2 hg0 hG0 hW0 hv0 hgg lAZ l1 hg3 hGm
  go_enter Try.func44, Try.ntmps44
  go_wp2_with (at_builtin; refine Lib.wpList_append_run _ rfl _ _ _ _ rfl _ _ rfl rfl _ _ (hrz _) ?_)
  go_region
  all_goals
    go_wp2_with fail
    go_ret
    exact ⟨_, rfl, HFIN.out⟩

/-- One thing put in at i. -/
theorem insertMonth (v : Value) (n i : Nat) (xs : List MH) (x : MH) (vb B : Nat) (w : World) (hn : n ≤ 100000) (hl : n = xs.length) (ho : V.Own 27 MH.cod B w v xs) (hi : i ≤ n) (hB : B ≤ w.heap.size) (hvg : v.ownBlock ≠ some vb) (hv : w.heap[vb]? = some (.cells (MH.cod.enc x).toArray 27 (0, 0))) :
    Calls Try.prog 44 #[v, .int .i64 i, .slice (some ⟨vb, 0, none⟩) 1 1] w fun e w' => ∃ v', e = .returned v' ∧ V.Own 27 MH.cod B w' v' (xs.take i ++ x :: xs.drop i) ∧ Below B w w' := by
  by_cases e : i = n
  · subst e
    refine (insEndMonth v i xs x vb B w hn hl ho hB hv).mono ?_
    rintro e w' ⟨v', h1, h2, h3⟩
    refine ⟨v', h1, ?_, h3⟩
    rw [List.take_of_length_le (by omega), List.drop_eq_nil_of_le (by omega)]
    exact h2
  · obtain ⟨h1, h2⟩ := id ho
    rcases h2 with ⟨-, h2⟩ | ⟨g, cap, cur, rfl, hb, hg, h3, -⟩
    · omega
    · rw [← hl] at ho h3 ⊢
      by_cases hc : n < cap
      · exact insRoomMonth g n cap i xs x vb B w hn ho (by omega) hc hB (fun q => hvg (by rw [q]; rfl)) hv
      · exact insGrowMonth g n cap i xs x vb B w hn ho (by omega) (by omega) hB hv
end Go.Proofs.Ytbdkhgenkekioaa.In
