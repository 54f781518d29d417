/- Networks: the links of each stop, walked. -/
import Derived.Test.YtlfbbahihenilaaGreatMg16
import Derived.Deep.RegionHeld3
import Derived.Deep.DrawnRows
namespace Go.Proofs.YtlfbbahihenilaaGreat.Ne
open Go.RowKit Go.V Go.Proofs Go.Sort
attribute [local go_sem ↓] Go.wp_at_zero Go.wp_at_succ

theorem infoSL : (Tryz.prog.info? 23).map (fun i => (i.zero, i.size, i.bytes)) = some (some (.slice none 0 0), 1, 24) := by kernel_rfl
theorem lnk_ne : (121 : TypeId) ≠ 23 := by decide

/-- What the two appends of a link make of each stop's links. -/
theorem adj_two' (T : List Lnk) (A B : Nat) (x : Int) (h : A ≠ B) : (fun j : Nat => if j = B then adj T (B : Int) ++ [⟨B, A, x⟩] else if j = A then adj T (A : Int) ++ [⟨A, B, x⟩] else adj T (j : Int)) = fun j : Nat => adj (T ++ [⟨A, B, x⟩]) (j : Int) := by
  funext j
  rw [adj_snoc]
  simp only [Int.natCast_inj]
  by_cases h1 : j = B
  · subst h1
    simp [h]
  · by_cases h2 : j = A
    · subst h2
      have : ¬ B = j := fun e => h1 e.symm
      simp [h1, this]
    · have e1 : ¬ B = j := fun e => h1 e.symm
      have e2 : ¬ A = j := fun e => h2 e.symm
      simp [h1, h2, e1, e2]
theorem set_own_ne {vs : List Value} {A y z : Nat} {v u : Value} (h : ∀ (i : Nat) v, vs[i]? = some v → v.ownBlock ≠ some y) (hv : vs[A]? = some v) (hat : u.ownBlock = v.ownBlock ∨ u.ownBlock = some z) (hz : y < z) :
    ∀ (i : Nat) x, (vs.set A u)[i]? = some x → x.ownBlock ≠ some y := by
  intro i x hx
  rw [List.getElem?_set] at hx
  split at hx
  · have hx : u = x := by
      split at hx
      · exact Option.some.inj hx
      · cases hx
    subst hx
    rcases hat with e | e
    · rw [e]; exact h A v hv
    · rw [e]; intro e2; have := Option.some.inj e2; omega
  · exact h i x hx

set_option linter.unusedSimpArgs false in
set_option maxHeartbeats 4000000 in
set_option maxRecDepth 100000 in
theorem links_any (w : World) (n : Net) (hs hl : Hdr) (h : NetIn w n hs hl) (hok : checkE n = 0) (hpos : 0 < hs.n) :
    Calls Tryz.prog 131 #[n.val hs hl] w fun e w' => ∃ b, e = .returned (.slice (some ⟨b, 0, none⟩) hs.n hs.n) ∧ AdjIn w' b hs.n n.links ∧ Below w.heap.size w w' := by
  obtain ⟨k1, k2, k3, k4, k5, k6⟩ := check_ok hok
  obtain ⟨la, m, lc⟩ := hl
  obtain ⟨sa, k, sc⟩ := hs
  have hkn : k = n.stops.length := h.s.hlen
  have hln : m = n.links.length := h.l.hlen
  have hkc : k ≤ 4096 := by omega
  have hlc : m ≤ 16384 := by omega
  rw [← hkn] at k5
  have hpos : 0 < k := hpos
  have HLK := Lib.hid k5
  have HLN := Lib.hid hln
  have HX := Lib.hid (box_new w (n.box ⟨sa, k, sc⟩ ⟨la, m, lc⟩))
  have HH := Lib.hid h
  obtain ⟨c0, c1, c2, -, -, -⟩ := box3_cells HX.out
  clear k4 hkn k1 k2 k3 k6 k5 hln
  have hmk := run_make_row' (P := Tryz.prog) 203 23 (.slice none 0 0) 24 Tryz.underlying203 infoSL rfl .i64 .i64 k (by omega) (by omega)
  have HT0 : Hid (Tbl (α := Lnk) 121 lcod 23 w.heap.size ((w.alloc (n.box ⟨sa, k, sc⟩ ⟨la, m, lc⟩)).alloc (.cells (madeCells #[.slice none 0 0] k) 23)) (w.heap.size + 1) (List.replicate k (.slice none 0 0)) (fun _ => [])) := by
    have := Tbl.new (α := Lnk) (e := 121) (c := lcod) (t := 23) (base := w.heap.size) (w.alloc (n.box ⟨sa, k, sc⟩ ⟨la, m, lc⟩)) k (by simp)
    have e : (List.replicate k (Value.slice none 0 0)).toArray = madeCells #[.slice none 0 0] k := by rw [← toList_madeCells_one]
    rw [e] at this
    have e2 : (w.alloc (n.box ⟨sa, k, sc⟩ ⟨la, m, lc⟩)).heap.size = w.heap.size + 1 := by simp
    rw [e2] at this
    exact this
  have HB0 : Hid (Below w.heap.size w ((w.alloc (n.box ⟨sa, k, sc⟩ ⟨la, m, lc⟩)).alloc (.cells (madeCells #[.slice none 0 0] k) 23))) := ((Below.refl _ _).alloc (Nat.le_refl _) _).alloc (by simp) _
  obtain ⟨b, hb⟩ : ∃ b, w.heap.size + 1 = b := ⟨_, rfl⟩
  have HWB := Lib.hid hb
  rw [hb] at HT0
  go_enter Tryz.func131, Tryz.ntmps131
  go_wp2_with fail
  clear hb hmk c0 c1 c2
  go_loopw [13] (fun i wr => ∃ (j : Nat) (vs : List Value), i = .int .i64 j ∧ j ≤ m ∧ Hid (Tbl (α := Lnk) 121 lcod 23 w.heap.size wr b vs (fun u : Nat => adj (n.links.take j) u)) ∧ Hid (vs.length = k) ∧ Hid (Below w.heap.size w wr)) (fun i _ => m - (intOf i).toNat)
  case atStart => exact ⟨0, _, by go_num, by omega, HT0.out, List.length_replicate, HB0.out⟩
  case round =>
    obtain ⟨j, vs, rfl, hj, HT, HV, HB⟩ := hrel
    by_cases hlt : j < m
    · obtain ⟨bl, off, l, rfl, hbl, hlj, d0, d1, d2⟩ := lnk_at (HH.out.l.below HB.out) hlt
      obtain ⟨g1, g2, g3, g4, g5⟩ := HLK.out l (List.mem_of_getElem? hlj)
      obtain ⟨l1, l2, x⟩ := l
      obtain ⟨A, rfl⟩ : ∃ A : Nat, l1 = A := ⟨l1.toNat, by simp at g1; omega⟩
      obtain ⟨B, rfl⟩ : ∃ B : Nat, l2 = B := ⟨l2.toNat, by simp at g1 g2; omega⟩
      have hAk : A < k := by simp at g2 g3; omega
      have hBk : B < k := by simp at g3; omega
      have hAB : A < B := by simp at g2; omega
      have HLJ := Lib.hid hlj
      have a1 : (A : Int) < (k : Int) := by omega
      have a2 : (B : Int) < (k : Int) := by omega
      clear g1 g2 g3 g4 g5 hlj
      go_upto_region 5 with fail
      have HXL := Lib.hid (box_new wr (.cells #[.int .i64 A, .int .i64 B, .int .i64 x] 121))
      have HTW := Lib.hid (HT.out.below ((Below.refl _ _).alloc (Nat.le_refl _) (.cells #[.int .i64 A, .int .i64 B, .int .i64 x] 121)))
      have HBW : Hid (Below w.heap.size w (wr.alloc (.cells #[.int .i64 A, .int .i64 B, .int .i64 x] 121))) := HB.out.alloc HB.out.size _
      have HOL : Hid (∀ (i : Nat) v, vs[i]? = some v → v.ownBlock ≠ some wr.heap.size) := fun i v hv e => Nat.lt_irrefl _ (World.ownsRow.lt (HT.out.own i v hv) _ e).2
      obtain ⟨y, hy⟩ : ∃ y, wr.heap.size = y := ⟨_, rfl⟩
      have hyb : b < y := by rw [← hy]; exact box_lt HT.out.box
      obtain ⟨W, hW⟩ : ∃ W, wr.alloc (.cells #[.int .i64 A, .int .i64 B, .int .i64 x] 121) = W := ⟨_, rfl⟩
      rw [hW] at HXL HTW HBW ⊢
      rw [hy] at HXL HOL ⊢
      clear hW hy HT HB d0 d1 d2 hbl
      go_cut [] (fun wx => ∃ vs', Hid (Tbl (α := Lnk) 121 lcod 23 w.heap.size wx b vs' (fun u : Nat => if u = A then adj (n.links.take j) A ++ [⟨A, B, x⟩] else adj (n.links.take j) u)) ∧ Hid (vs'.length = k) ∧ Hid (Below w.heap.size w wx) ∧ Hid (wx.heap[y]? = some (.cells #[.int .i64 A, .int .i64 B, .int .i64 x] 121 (0, 0))) ∧ Hid (∀ (i : Nat) v, vs'[i]? = some v → v.ownBlock ≠ some y))
      case first =>
        --<<
        obtain ⟨u0, u1, u2, -, -, -⟩ := box3_cells HXL.out
        obtain ⟨ra, rc, hv, hc, hsl⟩ := HTW.out.row (i := A) (by rw [HV.out]; exact hAk)
        have HV1 := Lib.hid hv
        have hyw := box_lt HXL.out
        have hby : b ≠ y := by omega
        have hbw := box_lt HTW.out.box
        obtain ⟨ln, hln⟩ : ∃ ln, (adj (n.links.take j) (A : Int)).length = ln := ⟨_, rfl⟩
        have HLN1 : Hid ((adj (n.links.take j) (A : Int) ++ [(⟨A, B, x⟩ : Lnk)]).length = ln + 1) := by show _ = _; rw [List.length_append, hln]; rfl
        rw [hln] at HV1 hc
        have hle : ln ≤ 32768 := by
          rw [← hln]
          have := adj_len (n.links.take j) A
          rw [List.length_take] at this
          omega
        have HM1 : Hid (ln + 1 ≤ maxLen) := by show _ ≤ _; unfold maxLen; omega
        have HM2 : Hid ((ln + 1) * 24 ≤ 140737488355328) := by show _ ≤ _; omega
        have HLL := Lib.hid hln
        have hbs : w.heap.size ≤ W.heap.size := HBW.out.size
        clear hv hsl hln hle
        refine wp_region_held_drew (S := (fun w' => w'.cell? ⟨y, 0, none⟩ = some (.int .i64 A) ∧ w'.cell? ⟨y, 1, none⟩ = some (.int .i64 B) ∧ w'.cell? ⟨y, 2, none⟩ = some (.int .i64 x))) (by kernel_rfl) ?_ (fun hHeld => ?_)
        · (first | go_keep | (exact ⟨v0, v1, v2⟩) | (exact ⟨(World.cell?_setCell_far _ _ _ _ hby).trans v0, (World.cell?_setCell_far _ _ _ _ hby).trans v1, (World.cell?_setCell_far _ _ _ _ hby).trans v2⟩))
        refine wpAnyH_take (i := 0) (v := ?_) rfl (by kernel_rfl) (by kernel_rfl) (by kernel_rfl) (fun _ _ _ h => h) (Or.inl ⟨by rfl, ?_⟩) (by assumption) ?_
        rotate_left
        · (intro w hSw; (try dsimp only at hSw); go_simp); try (with_reducible rfl)
        try simp only [Act.put, List.setIfInBounds_toArray, List.set_cons_zero, List.set_cons_succ]
        refine wpAnyH_take (i := 1) (v := ?_) rfl (by kernel_rfl) (by kernel_rfl) (by kernel_rfl) (fun _ _ _ h => h) (Or.inl ⟨by rfl, ?_⟩) (by assumption) ?_
        rotate_left
        · (intro w hSw; (try dsimp only at hSw); go_simp); try (with_reducible rfl)
        try simp only [Act.put, List.setIfInBounds_toArray, List.set_cons_zero, List.set_cons_succ]
        refine wpAnyH_take (i := 2) (v := ?_) rfl (by kernel_rfl) (by kernel_rfl) (by kernel_rfl) (fun _ _ _ h => h) (Or.inl ⟨by rfl, ?_⟩) (by assumption) ?_
        rotate_left
        · (intro w hSw; (try dsimp only at hSw); go_simp); try (with_reducible rfl)
        try simp only [Act.put, List.setIfInBounds_toArray, List.set_cons_zero, List.set_cons_succ]
        refine wpAnyH_take (i := 3) (v := ?_) rfl (by kernel_rfl) (by kernel_rfl) (by kernel_rfl) (fun _ _ _ h => h) (Or.inl ⟨by rfl, ?_⟩) (by assumption) ?_
        rotate_left
        · (intro w hSw; (try dsimp only at hSw); go_simp); try (with_reducible rfl)
        try simp only [Act.put, List.setIfInBounds_toArray, List.set_cons_zero, List.set_cons_succ]
        refine wpAnyH_take (i := 4) (v := ?_) rfl (by kernel_rfl) (by kernel_rfl) (by kernel_rfl) (fun _ _ _ h => h) (Or.inl ⟨by rfl, ?_⟩) (by assumption) ?_
        rotate_left
        · (intro w hSw; (try dsimp only at hSw); go_simp); try (with_reducible rfl)
        try simp only [Act.put, List.setIfInBounds_toArray, List.set_cons_zero, List.set_cons_succ]
        refine wpAnyH_take (i := 5) (v := ?_) rfl (by kernel_rfl) (by kernel_rfl) (by kernel_rfl) (fun _ _ _ h => h) (Or.inl ⟨by rfl, ?_⟩) (by assumption) ?_
        rotate_left
        · (intro w hSw; (try dsimp only at hSw); go_simp); try (with_reducible rfl)
        try simp only [Act.put, List.setIfInBounds_toArray, List.set_cons_zero, List.set_cons_succ]
        refine wpAnyH_take (i := 6) (v := ?_) rfl (by kernel_rfl) (by kernel_rfl) (by kernel_rfl) (fun _ _ _ h => h) (Or.inl ⟨by rfl, ?_⟩) (by assumption) ?_
        rotate_left
        · (intro w hSw; (try dsimp only at hSw); go_simp); try (with_reducible rfl)
        try simp only [Act.put, List.setIfInBounds_toArray, List.set_cons_zero, List.set_cons_succ]
        refine wpAnyH_take (i := 8) (v := ?_) rfl (by kernel_rfl) (by kernel_rfl) (by kernel_rfl) (fun _ _ _ h => h) (Or.inl ⟨by rfl, ?_⟩) (by assumption) ?_
        rotate_left
        · (intro w hSw; (try dsimp only at hSw); go_simp); try (with_reducible rfl)
        try simp only [Act.put, List.setIfInBounds_toArray, List.set_cons_zero, List.set_cons_succ]
        refine wpAnyH_ready (rs := [7, 9]) (by kernel_rfl) (by simp) ?_
        refine AllReadyH.cons rfl (fun K hK => ?ka16) (AllReadyH.cons rfl (fun K hK => ?kb16) AllReadyH.nil)
        case' ka16 =>
          go_simp
          refine hK.out _ _ ?_ (fun hHeld => ?_)
          · (first | go_keep | (exact ⟨v0, v1, v2⟩) | (exact ⟨(World.cell?_setCell_far _ _ _ _ hby).trans v0, (World.cell?_setCell_far _ _ _ _ hby).trans v1, (World.cell?_setCell_far _ _ _ _ hby).trans v2⟩))
          clear hK K
          try simp only [Act.put, List.setIfInBounds_toArray, List.set_cons_zero, List.set_cons_succ]
          refine wpAnyH_ready (rs := [9]) (by kernel_rfl) (by simp) ?_
          refine AllReadyH.cons rfl (fun K hK => ?_) AllReadyH.nil
          go_simp
          refine hK.out _ _ ?_ (fun hHeld => ?_)
          · (first | go_keep | (exact ⟨v0, v1, v2⟩) | (exact ⟨(World.cell?_setCell_far _ _ _ _ hby).trans v0, (World.cell?_setCell_far _ _ _ _ hby).trans v1, (World.cell?_setCell_far _ _ _ _ hby).trans v2⟩))
          clear hK K
          try simp only [Act.put, List.setIfInBounds_toArray, List.set_cons_zero, List.set_cons_succ]
          refine wpAnyH_ready (rs := [10]) (by kernel_rfl) (by simp) ?_
          refine AllReadyH.cons rfl (fun K hK => ?_) AllReadyH.nil
          (refine step_app_at eltLnk (by rfl) (.tmp 24) (.tmp 26) (by rfl) (.slice ra ln rc) (adj (n.links.take j) (A : Int)) (by simp [Act.eval]) ((HTW.out.own A _ HV1.out).below (Below.drew ((Below.refl _ _).alloc (Nat.le_refl _) _))) ⟨W.heap.size, 0, none⟩ 1 1 [⟨A, B, x⟩] (by simp [Act.eval]) ((sl_new (c := lcod) W #[.int .i64 A, .int .i64 B, .int .i64 x] 121 [⟨A, B, x⟩] 1 rfl (by unfold maxLen; omega) rfl).below (Below.drew (Below.refl _ _))) (by rw [HLL.out]; exact HM1.out) (by rw [HLL.out]; exact HM2.out) (by simp; omega) ?_; intro v1 w1 hown1 hg1 hat1; obtain ⟨a1, k1, ev1, -⟩ := hown1.slice; rw [HLN1.out] at ev1; subst ev1; have HAP := Lib.hid (Tbl.app (HTW.out.below (Below.drew ((Below.refl _ _).alloc (Nat.le_refl _) (.cells #[.int .i64 A, .int .i64 B, .int .i64 x] 121)))) lnk_ne HV1.out hown1 hg1 hat1); obtain ⟨-, -, t3, t4, t5⟩ := HAP.out; have HXL1 := Lib.hid ((hg1.block y (by simp; omega) (fun e => HOL.out A _ HV1.out e.symm)).trans (box_alloc HXL.out)); obtain ⟨v0, v1, v2, -, -, -⟩ := box3_cells HXL1.out; have hy1 := box_lt HXL1.out; have HG1 := Lib.hid hg1; have HT1 := Lib.hid hat1; clear hown1 hg1 hat1)
          refine hK.out _ _ ?_ (fun hHeld => ?_)
          · (first | go_keep | (exact ⟨v0, v1, v2⟩) | (exact ⟨(World.cell?_setCell_far _ _ _ _ hby).trans v0, (World.cell?_setCell_far _ _ _ _ hby).trans v1, (World.cell?_setCell_far _ _ _ _ hby).trans v2⟩))
          clear hK K
          try simp only [Act.put, List.setIfInBounds_toArray, List.set_cons_zero, List.set_cons_succ]
          refine wpAnyH_take (i := 11) (v := ?_) rfl (by kernel_rfl) (by kernel_rfl) (by kernel_rfl) (fun _ _ _ h => h) (Or.inl ⟨by rfl, ?_⟩) (by assumption) ?_
          rotate_left
          · (intro w hSw; (try dsimp only at hSw); go_simp); try (with_reducible rfl)
          try simp only [Act.put, List.setIfInBounds_toArray, List.set_cons_zero, List.set_cons_succ]
          refine wpAnyH_ready (rs := [12]) (by kernel_rfl) (by simp) ?_
          refine AllReadyH.cons rfl (fun K hK => ?_) AllReadyH.nil
          go_simp
          refine hK.out _ _ ?_ (fun hHeld => ?_)
          · (first | go_keep | (exact ⟨v0, v1, v2⟩) | (exact ⟨(World.cell?_setCell_far _ _ _ _ hby).trans v0, (World.cell?_setCell_far _ _ _ _ hby).trans v1, (World.cell?_setCell_far _ _ _ _ hby).trans v2⟩))
          clear hK K
          try simp only [Act.put, List.setIfInBounds_toArray, List.set_cons_zero, List.set_cons_succ]
          refine wpAnyH_done (by kernel_rfl) ?_ _
        case' kb16 =>
          go_simp
          refine hK.out _ _ ?_ (fun hHeld => ?_)
          · (first | go_keep | (exact ⟨v0, v1, v2⟩) | (exact ⟨(World.cell?_setCell_far _ _ _ _ hby).trans v0, (World.cell?_setCell_far _ _ _ _ hby).trans v1, (World.cell?_setCell_far _ _ _ _ hby).trans v2⟩))
          clear hK K
          try simp only [Act.put, List.setIfInBounds_toArray, List.set_cons_zero, List.set_cons_succ]
          refine wpAnyH_ready (rs := [7]) (by kernel_rfl) (by simp) ?_
          refine AllReadyH.cons rfl (fun K hK => ?_) AllReadyH.nil
          go_simp
          refine hK.out _ _ ?_ (fun hHeld => ?_)
          · (first | go_keep | (exact ⟨v0, v1, v2⟩) | (exact ⟨(World.cell?_setCell_far _ _ _ _ hby).trans v0, (World.cell?_setCell_far _ _ _ _ hby).trans v1, (World.cell?_setCell_far _ _ _ _ hby).trans v2⟩))
          clear hK K
          try simp only [Act.put, List.setIfInBounds_toArray, List.set_cons_zero, List.set_cons_succ]
          refine wpAnyH_ready (rs := [10]) (by kernel_rfl) (by simp) ?_
          refine AllReadyH.cons rfl (fun K hK => ?_) AllReadyH.nil
          (refine step_app_at eltLnk (by rfl) (.tmp 24) (.tmp 26) (by rfl) (.slice ra ln rc) (adj (n.links.take j) (A : Int)) (by simp [Act.eval]) ((HTW.out.own A _ HV1.out).below (Below.drew ((Below.refl _ _).alloc (Nat.le_refl _) _))) ⟨W.heap.size, 0, none⟩ 1 1 [⟨A, B, x⟩] (by simp [Act.eval]) ((sl_new (c := lcod) W #[.int .i64 A, .int .i64 B, .int .i64 x] 121 [⟨A, B, x⟩] 1 rfl (by unfold maxLen; omega) rfl).below (Below.drew (Below.refl _ _))) (by rw [HLL.out]; exact HM1.out) (by rw [HLL.out]; exact HM2.out) (by simp; omega) ?_; intro v1 w1 hown1 hg1 hat1; obtain ⟨a1, k1, ev1, -⟩ := hown1.slice; rw [HLN1.out] at ev1; subst ev1; have HAP := Lib.hid (Tbl.app (HTW.out.below (Below.drew ((Below.refl _ _).alloc (Nat.le_refl _) (.cells #[.int .i64 A, .int .i64 B, .int .i64 x] 121)))) lnk_ne HV1.out hown1 hg1 hat1); obtain ⟨-, -, t3, t4, t5⟩ := HAP.out; have HXL1 := Lib.hid ((hg1.block y (by simp; omega) (fun e => HOL.out A _ HV1.out e.symm)).trans (box_alloc HXL.out)); obtain ⟨v0, v1, v2, -, -, -⟩ := box3_cells HXL1.out; have hy1 := box_lt HXL1.out; have HG1 := Lib.hid hg1; have HT1 := Lib.hid hat1; clear hown1 hg1 hat1)
          refine hK.out _ _ ?_ (fun hHeld => ?_)
          · (first | go_keep | (exact ⟨v0, v1, v2⟩) | (exact ⟨(World.cell?_setCell_far _ _ _ _ hby).trans v0, (World.cell?_setCell_far _ _ _ _ hby).trans v1, (World.cell?_setCell_far _ _ _ _ hby).trans v2⟩))
          clear hK K
          try simp only [Act.put, List.setIfInBounds_toArray, List.set_cons_zero, List.set_cons_succ]
          refine wpAnyH_take (i := 11) (v := ?_) rfl (by kernel_rfl) (by kernel_rfl) (by kernel_rfl) (fun _ _ _ h => h) (Or.inl ⟨by rfl, ?_⟩) (by assumption) ?_
          rotate_left
          · (intro w hSw; (try dsimp only at hSw); go_simp); try (with_reducible rfl)
          try simp only [Act.put, List.setIfInBounds_toArray, List.set_cons_zero, List.set_cons_succ]
          refine wpAnyH_ready (rs := [12]) (by kernel_rfl) (by simp) ?_
          refine AllReadyH.cons rfl (fun K hK => ?_) AllReadyH.nil
          go_simp
          refine hK.out _ _ ?_ (fun hHeld => ?_)
          · (first | go_keep | (exact ⟨v0, v1, v2⟩) | (exact ⟨(World.cell?_setCell_far _ _ _ _ hby).trans v0, (World.cell?_setCell_far _ _ _ _ hby).trans v1, (World.cell?_setCell_far _ _ _ _ hby).trans v2⟩))
          clear hK K
          try simp only [Act.put, List.setIfInBounds_toArray, List.set_cons_zero, List.set_cons_succ]
          refine wpAnyH_done (by kernel_rfl) ?_ _
        all_goals
          go_wp2_with fail
          go_meet
          exact ⟨_, HAP.out.1, by show _ = _; rw [List.length_set]; exact HV.out, HBW.out.trans (((Below.drew ((Below.refl _ _).alloc (Nat.le_refl _) _)).mono hbs).trans (HAP.out.2.1 (by simp; omega))), (heap_setCell_other w1 ⟨b, A, none⟩ y _ (fun e => by simp at e; omega)).trans HXL1.out, set_own_ne HOL.out HV1.out HT1.out (by simp; omega)⟩
        -->>
      obtain ⟨vs', HTX, HW, HBX, HXM, HOM⟩ := hcut
      obtain ⟨X, hX⟩ : ∃ X : World, X = wc := ⟨_, rfl⟩
      subst hX
      clear HXL HTW HBW HOL HV
      go_upto_region 6 with fail
      obtain ⟨u0, u1, u2, -, -, -⟩ := box3_cells HXM.out
      obtain ⟨ra, rc, hv, hc, hsl⟩ := HTX.out.row (i := B) (by rw [HW.out]; exact hBk)
      have hF : (if B = A then adj (n.links.take j) (A : Int) ++ [(⟨A, B, x⟩ : Lnk)] else adj (n.links.take j) (B : Int)) = adj (n.links.take j) (B : Int) := if_neg (by omega)
      have HOB0 := HTX.out.own B _ hv
      simp only [hF] at hv hc hsl HOB0
      have HOB := Lib.hid HOB0
      clear HOB0 hF
      have HV1 := Lib.hid hv
      have hyw := box_lt HXM.out
      have hby : b ≠ y := by omega
      have hbw := box_lt HTX.out.box
      obtain ⟨ln, hln⟩ : ∃ ln, (adj (n.links.take j) (B : Int)).length = ln := ⟨_, rfl⟩
      have HLN1 : Hid ((adj (n.links.take j) (B : Int) ++ [(⟨B, A, x⟩ : Lnk)]).length = ln + 1) := by show _ = _; rw [List.length_append, hln]; rfl
      rw [hln] at HV1 hc
      have hle : ln ≤ 32768 := by
        rw [← hln]
        have := adj_len (n.links.take j) B
        rw [List.length_take] at this
        omega
      have HM1 : Hid (ln + 1 ≤ maxLen) := by show _ ≤ _; unfold maxLen; omega
      have HM2 : Hid ((ln + 1) * 24 ≤ 140737488355328) := by show _ ≤ _; omega
      have HLL := Lib.hid hln
      have hbs : w.heap.size ≤ X.heap.size := HBX.out.size
      rw [hln] at HOB
      clear hv hsl hln hle
      refine wp_region_held_drew (S := (fun w' => w'.cell? ⟨y, 0, none⟩ = some (.int .i64 A) ∧ w'.cell? ⟨y, 1, none⟩ = some (.int .i64 B) ∧ w'.cell? ⟨y, 2, none⟩ = some (.int .i64 x))) (by kernel_rfl) ?_ (fun hHeld => ?_)
      · (first | go_keep | (exact ⟨v0, v1, v2⟩) | (exact ⟨(World.cell?_setCell_far _ _ _ _ hby).trans v0, (World.cell?_setCell_far _ _ _ _ hby).trans v1, (World.cell?_setCell_far _ _ _ _ hby).trans v2⟩))
      refine wpAnyH_take (i := 0) (v := ?_) rfl (by kernel_rfl) (by kernel_rfl) (by kernel_rfl) (fun _ _ _ h => h) (Or.inl ⟨by rfl, ?_⟩) (by assumption) ?_
      rotate_left
      · (intro w hSw; (try dsimp only at hSw); go_simp); try (with_reducible rfl)
      try simp only [Act.put, List.setIfInBounds_toArray, List.set_cons_zero, List.set_cons_succ]
      refine wpAnyH_take (i := 1) (v := ?_) rfl (by kernel_rfl) (by kernel_rfl) (by kernel_rfl) (fun _ _ _ h => h) (Or.inl ⟨by rfl, ?_⟩) (by assumption) ?_
      rotate_left
      · (intro w hSw; (try dsimp only at hSw); go_simp); try (with_reducible rfl)
      try simp only [Act.put, List.setIfInBounds_toArray, List.set_cons_zero, List.set_cons_succ]
      refine wpAnyH_take (i := 2) (v := ?_) rfl (by kernel_rfl) (by kernel_rfl) (by kernel_rfl) (fun _ _ _ h => h) (Or.inl ⟨by rfl, ?_⟩) (by assumption) ?_
      rotate_left
      · (intro w hSw; (try dsimp only at hSw); go_simp); try (with_reducible rfl)
      try simp only [Act.put, List.setIfInBounds_toArray, List.set_cons_zero, List.set_cons_succ]
      refine wpAnyH_take (i := 3) (v := ?_) rfl (by kernel_rfl) (by kernel_rfl) (by kernel_rfl) (fun _ _ _ h => h) (Or.inl ⟨by rfl, ?_⟩) (by assumption) ?_
      rotate_left
      · (intro w hSw; (try dsimp only at hSw); go_simp); try (with_reducible rfl)
      try simp only [Act.put, List.setIfInBounds_toArray, List.set_cons_zero, List.set_cons_succ]
      refine wpAnyH_take (i := 4) (v := ?_) rfl (by kernel_rfl) (by kernel_rfl) (by kernel_rfl) (fun _ _ _ h => h) (Or.inl ⟨by rfl, ?_⟩) (by assumption) ?_
      rotate_left
      · (intro w hSw; (try dsimp only at hSw); go_simp); try (with_reducible rfl)
      try simp only [Act.put, List.setIfInBounds_toArray, List.set_cons_zero, List.set_cons_succ]
      refine wpAnyH_take (i := 5) (v := ?_) rfl (by kernel_rfl) (by kernel_rfl) (by kernel_rfl) (fun _ _ _ h => h) (Or.inl ⟨by rfl, ?_⟩) (by assumption) ?_
      rotate_left
      · (intro w hSw; (try dsimp only at hSw); go_simp); try (with_reducible rfl)
      try simp only [Act.put, List.setIfInBounds_toArray, List.set_cons_zero, List.set_cons_succ]
      refine wpAnyH_take (i := 6) (v := ?_) rfl (by kernel_rfl) (by kernel_rfl) (by kernel_rfl) (fun _ _ _ h => h) (Or.inl ⟨by rfl, ?_⟩) (by assumption) ?_
      rotate_left
      · (intro w hSw; (try dsimp only at hSw); go_simp); try (with_reducible rfl)
      try simp only [Act.put, List.setIfInBounds_toArray, List.set_cons_zero, List.set_cons_succ]
      refine wpAnyH_take (i := 8) (v := ?_) rfl (by kernel_rfl) (by kernel_rfl) (by kernel_rfl) (fun _ _ _ h => h) (Or.inl ⟨by rfl, ?_⟩) (by assumption) ?_
      rotate_left
      · (intro w hSw; (try dsimp only at hSw); go_simp); try (with_reducible rfl)
      try simp only [Act.put, List.setIfInBounds_toArray, List.set_cons_zero, List.set_cons_succ]
      refine wpAnyH_take (i := 9) (v := ?_) rfl (by kernel_rfl) (by kernel_rfl) (by kernel_rfl) (fun _ _ _ h => h) (Or.inl ⟨by rfl, ?_⟩) (by assumption) ?_
      rotate_left
      · (intro w hSw; (try dsimp only at hSw); go_simp); try (with_reducible rfl)
      try simp only [Act.put, List.setIfInBounds_toArray, List.set_cons_zero, List.set_cons_succ]
      refine wpAnyH_take (i := 10) (v := ?_) rfl (by kernel_rfl) (by kernel_rfl) (by kernel_rfl) (fun _ _ _ h => h) (Or.inl ⟨by rfl, ?_⟩) (by assumption) ?_
      rotate_left
      · (intro w hSw; (try dsimp only at hSw); go_simp); try (with_reducible rfl)
      try simp only [Act.put, List.setIfInBounds_toArray, List.set_cons_zero, List.set_cons_succ]
      refine wpAnyH_take (i := 11) (v := ?_) rfl (by kernel_rfl) (by kernel_rfl) (by kernel_rfl) (fun _ _ _ h => h) (Or.inl ⟨by rfl, ?_⟩) (by assumption) ?_
      rotate_left
      · (intro w hSw; (try dsimp only at hSw); go_simp); try (with_reducible rfl)
      try simp only [Act.put, List.setIfInBounds_toArray, List.set_cons_zero, List.set_cons_succ]
      refine wpAnyH_take (i := 12) (v := ?_) rfl (by kernel_rfl) (by kernel_rfl) (by kernel_rfl) (fun _ _ _ h => h) (Or.inl ⟨by rfl, ?_⟩) (by assumption) ?_
      rotate_left
      · (intro w hSw; (try dsimp only at hSw); go_simp); try (with_reducible rfl)
      try simp only [Act.put, List.setIfInBounds_toArray, List.set_cons_zero, List.set_cons_succ]
      refine wpAnyH_take (i := 13) (v := ?_) rfl (by kernel_rfl) (by kernel_rfl) (by kernel_rfl) (fun _ _ _ h => h) (Or.inl ⟨by rfl, ?_⟩) (by assumption) ?_
      rotate_left
      · (intro w hSw; (try dsimp only at hSw); go_simp); try (with_reducible rfl)
      try simp only [Act.put, List.setIfInBounds_toArray, List.set_cons_zero, List.set_cons_succ]
      refine wpAnyH_take (i := 14) (v := ?_) rfl (by kernel_rfl) (by kernel_rfl) (by kernel_rfl) (fun _ _ _ h => h) (Or.inl ⟨by rfl, ?_⟩) (by assumption) ?_
      rotate_left
      · (intro w hSw; (try dsimp only at hSw); go_simp); try (with_reducible rfl)
      try simp only [Act.put, List.setIfInBounds_toArray, List.set_cons_zero, List.set_cons_succ]
      refine wpAnyH_ready (rs := [7, 15]) (by kernel_rfl) (by simp) ?_
      refine AllReadyH.cons rfl (fun K hK => ?ka22) (AllReadyH.cons rfl (fun K hK => ?kb22) AllReadyH.nil)
      case' ka22 =>
        go_simp
        refine hK.out _ _ ?_ (fun hHeld => ?_)
        · (first | go_keep | (exact ⟨v0, v1, v2⟩) | (exact ⟨(World.cell?_setCell_far _ _ _ _ hby).trans v0, (World.cell?_setCell_far _ _ _ _ hby).trans v1, (World.cell?_setCell_far _ _ _ _ hby).trans v2⟩))
        clear hK K
        try simp only [Act.put, List.setIfInBounds_toArray, List.set_cons_zero, List.set_cons_succ]
        refine wpAnyH_ready (rs := [15]) (by kernel_rfl) (by simp) ?_
        refine AllReadyH.cons rfl (fun K hK => ?_) AllReadyH.nil
        go_simp
        refine hK.out _ _ ?_ (fun hHeld => ?_)
        · (first | go_keep | (exact ⟨v0, v1, v2⟩) | (exact ⟨(World.cell?_setCell_far _ _ _ _ hby).trans v0, (World.cell?_setCell_far _ _ _ _ hby).trans v1, (World.cell?_setCell_far _ _ _ _ hby).trans v2⟩))
        clear hK K
        try simp only [Act.put, List.setIfInBounds_toArray, List.set_cons_zero, List.set_cons_succ]
        refine wpAnyH_ready (rs := [16]) (by kernel_rfl) (by simp) ?_
        refine AllReadyH.cons rfl (fun K hK => ?_) AllReadyH.nil
        (refine step_app_at eltLnk (by rfl) (.tmp 36) (.tmp 44) (by rfl) (.slice ra ln rc) (adj (n.links.take j) (B : Int)) (by simp [Act.eval]) ((HOB.out).below (Below.drew ((Below.refl _ _).alloc (Nat.le_refl _) _))) ⟨X.heap.size, 0, none⟩ 1 1 [⟨B, A, x⟩] (by simp [Act.eval]) ((sl_new (c := lcod) X #[.int .i64 B, .int .i64 A, .int .i64 x] 121 [⟨B, A, x⟩] 1 rfl (by unfold maxLen; omega) rfl).below (Below.drew (Below.refl _ _))) (by rw [HLL.out]; exact HM1.out) (by rw [HLL.out]; exact HM2.out) (by simp; omega) ?_; intro v1 w1 hown1 hg1 hat1; obtain ⟨a1, k1, ev1, -⟩ := hown1.slice; rw [HLN1.out] at ev1; subst ev1; have HAP := Lib.hid (Tbl.app (HTX.out.below (Below.drew ((Below.refl _ _).alloc (Nat.le_refl _) (.cells #[.int .i64 B, .int .i64 A, .int .i64 x] 121)))) lnk_ne HV1.out hown1 hg1 hat1); obtain ⟨-, -, t3, t4, t5⟩ := HAP.out; have HXL1 := Lib.hid ((hg1.block y (by simp; omega) (fun e => HOM.out B _ HV1.out e.symm)).trans (box_alloc HXM.out)); obtain ⟨v0, v1, v2, -, -, -⟩ := box3_cells HXL1.out; have hy1 := box_lt HXL1.out; have HG1 := Lib.hid hg1; have HT1 := Lib.hid hat1; clear hown1 hg1 hat1)
        refine hK.out _ _ ?_ (fun hHeld => ?_)
        · (first | go_keep | (exact ⟨v0, v1, v2⟩) | (exact ⟨(World.cell?_setCell_far _ _ _ _ hby).trans v0, (World.cell?_setCell_far _ _ _ _ hby).trans v1, (World.cell?_setCell_far _ _ _ _ hby).trans v2⟩))
        clear hK K
        try simp only [Act.put, List.setIfInBounds_toArray, List.set_cons_zero, List.set_cons_succ]
        refine wpAnyH_take (i := 17) (v := ?_) rfl (by kernel_rfl) (by kernel_rfl) (by kernel_rfl) (fun _ _ _ h => h) (Or.inl ⟨by rfl, ?_⟩) (by assumption) ?_
        rotate_left
        · (intro w hSw; (try dsimp only at hSw); go_simp); try (with_reducible rfl)
        try simp only [Act.put, List.setIfInBounds_toArray, List.set_cons_zero, List.set_cons_succ]
        refine wpAnyH_ready (rs := [18]) (by kernel_rfl) (by simp) ?_
        refine AllReadyH.cons rfl (fun K hK => ?_) AllReadyH.nil
        go_simp
        refine hK.out _ _ ?_ (fun hHeld => ?_)
        · (first | go_keep | (exact ⟨v0, v1, v2⟩) | (exact ⟨(World.cell?_setCell_far _ _ _ _ hby).trans v0, (World.cell?_setCell_far _ _ _ _ hby).trans v1, (World.cell?_setCell_far _ _ _ _ hby).trans v2⟩))
        clear hK K
        try simp only [Act.put, List.setIfInBounds_toArray, List.set_cons_zero, List.set_cons_succ]
        refine wpAnyH_done (by kernel_rfl) ?_ _
      case' kb22 =>
        go_simp
        refine hK.out _ _ ?_ (fun hHeld => ?_)
        · (first | go_keep | (exact ⟨v0, v1, v2⟩) | (exact ⟨(World.cell?_setCell_far _ _ _ _ hby).trans v0, (World.cell?_setCell_far _ _ _ _ hby).trans v1, (World.cell?_setCell_far _ _ _ _ hby).trans v2⟩))
        clear hK K
        try simp only [Act.put, List.setIfInBounds_toArray, List.set_cons_zero, List.set_cons_succ]
        refine wpAnyH_ready (rs := [7]) (by kernel_rfl) (by simp) ?_
        refine AllReadyH.cons rfl (fun K hK => ?_) AllReadyH.nil
        go_simp
        refine hK.out _ _ ?_ (fun hHeld => ?_)
        · (first | go_keep | (exact ⟨v0, v1, v2⟩) | (exact ⟨(World.cell?_setCell_far _ _ _ _ hby).trans v0, (World.cell?_setCell_far _ _ _ _ hby).trans v1, (World.cell?_setCell_far _ _ _ _ hby).trans v2⟩))
        clear hK K
        try simp only [Act.put, List.setIfInBounds_toArray, List.set_cons_zero, List.set_cons_succ]
        refine wpAnyH_ready (rs := [16]) (by kernel_rfl) (by simp) ?_
        refine AllReadyH.cons rfl (fun K hK => ?_) AllReadyH.nil
        (refine step_app_at eltLnk (by rfl) (.tmp 36) (.tmp 44) (by rfl) (.slice ra ln rc) (adj (n.links.take j) (B : Int)) (by simp [Act.eval]) ((HOB.out).below (Below.drew ((Below.refl _ _).alloc (Nat.le_refl _) _))) ⟨X.heap.size, 0, none⟩ 1 1 [⟨B, A, x⟩] (by simp [Act.eval]) ((sl_new (c := lcod) X #[.int .i64 B, .int .i64 A, .int .i64 x] 121 [⟨B, A, x⟩] 1 rfl (by unfold maxLen; omega) rfl).below (Below.drew (Below.refl _ _))) (by rw [HLL.out]; exact HM1.out) (by rw [HLL.out]; exact HM2.out) (by simp; omega) ?_; intro v1 w1 hown1 hg1 hat1; obtain ⟨a1, k1, ev1, -⟩ := hown1.slice; rw [HLN1.out] at ev1; subst ev1; have HAP := Lib.hid (Tbl.app (HTX.out.below (Below.drew ((Below.refl _ _).alloc (Nat.le_refl _) (.cells #[.int .i64 B, .int .i64 A, .int .i64 x] 121)))) lnk_ne HV1.out hown1 hg1 hat1); obtain ⟨-, -, t3, t4, t5⟩ := HAP.out; have HXL1 := Lib.hid ((hg1.block y (by simp; omega) (fun e => HOM.out B _ HV1.out e.symm)).trans (box_alloc HXM.out)); obtain ⟨v0, v1, v2, -, -, -⟩ := box3_cells HXL1.out; have hy1 := box_lt HXL1.out; have HG1 := Lib.hid hg1; have HT1 := Lib.hid hat1; clear hown1 hg1 hat1)
        refine hK.out _ _ ?_ (fun hHeld => ?_)
        · (first | go_keep | (exact ⟨v0, v1, v2⟩) | (exact ⟨(World.cell?_setCell_far _ _ _ _ hby).trans v0, (World.cell?_setCell_far _ _ _ _ hby).trans v1, (World.cell?_setCell_far _ _ _ _ hby).trans v2⟩))
        clear hK K
        try simp only [Act.put, List.setIfInBounds_toArray, List.set_cons_zero, List.set_cons_succ]
        refine wpAnyH_take (i := 17) (v := ?_) rfl (by kernel_rfl) (by kernel_rfl) (by kernel_rfl) (fun _ _ _ h => h) (Or.inl ⟨by rfl, ?_⟩) (by assumption) ?_
        rotate_left
        · (intro w hSw; (try dsimp only at hSw); go_simp); try (with_reducible rfl)
        try simp only [Act.put, List.setIfInBounds_toArray, List.set_cons_zero, List.set_cons_succ]
        refine wpAnyH_ready (rs := [18]) (by kernel_rfl) (by simp) ?_
        refine AllReadyH.cons rfl (fun K hK => ?_) AllReadyH.nil
        go_simp
        refine hK.out _ _ ?_ (fun hHeld => ?_)
        · (first | go_keep | (exact ⟨v0, v1, v2⟩) | (exact ⟨(World.cell?_setCell_far _ _ _ _ hby).trans v0, (World.cell?_setCell_far _ _ _ _ hby).trans v1, (World.cell?_setCell_far _ _ _ _ hby).trans v2⟩))
        clear hK K
        try simp only [Act.put, List.setIfInBounds_toArray, List.set_cons_zero, List.set_cons_succ]
        refine wpAnyH_done (by kernel_rfl) ?_ _
      all_goals
        go_wp2_with fail
        go_roundw
        case rel => exact ⟨j + 1, _, by go_num, by omega, by have := HAP.out.1; rw [adj_two' _ _ _ _ (by omega)] at this; rw [take_at HLJ.out]; exact this, by show _ = _; rw [List.length_set]; exact HW.out, HBX.out.trans (((Below.drew ((Below.refl _ _).alloc (Nat.le_refl _) _)).mono hbs).trans (HAP.out.2.1 (by simp; omega)))⟩
        case measure => simp [intOf]; omega
    · have hjm : j = m := by omega
      subst hjm
      go_wp2_with fail
      go_ret
      refine ⟨b, rfl, ⟨box_lt HT.out.box, fun i hi => ?_⟩, HB.out⟩
      obtain ⟨ra, rc, -, hc, hsl⟩ := HT.out.row (i := i) (by rw [HV.out]; exact hi)
      rw [List.take_of_length_le (by rw [← HLN.out]; exact Nat.le_refl _)] at hc hsl
      exact ⟨ra, rc, hc, hsl⟩
end Go.Proofs.YtlfbbahihenilaaGreat.Ne
