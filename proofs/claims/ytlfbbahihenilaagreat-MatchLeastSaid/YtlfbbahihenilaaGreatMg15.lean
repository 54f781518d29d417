/- Networks: the heap of stops that are reached, walked. -/
/- Networks: what comes first in the heap, walked. -/
import Derived.Test.YtlfbbahihenilaaGreatMg02
import Derived.Test.YtlfbbahihenilaaGreatMg05
import Derived.BigRegion
namespace Go.Proofs.YtlfbbahihenilaaGreat.Ne
open Go.RowKit Go.V Go.Proofs Go.Sort

theorem infoRch : (Tryz.prog.info? 209).map (fun i => (i.zero, i.size, i.bytes)) = some (some (.agg #[.int .i64 0, .int .i64 0]), 2, 16) := by kernel_rfl
theorem eltRch : Elt Tryz.prog 222 209 rcod 16 := Elt.of Tryz.underlying222 infoRch rfl (by decide)
abbrev lessV : Value := .func (.func 134) #[] #[]

/-- A heap: its box, and the row that it has. -/
structure HeapIn (w : World) (base g : Nat) (v : Value) (l : List Rch) : Prop where
  box : w.heap[g]? = some (.cells #[lessV, v] 224 (0, 0))
  own : V.Own 209 rcod base w v l
  ge : base ≤ g
theorem HeapIn.below {w w' : World} {base g : Nat} {v : Value} {l : List Rch} (h : HeapIn w base g v l) (hb : Below w.heap.size w w') : HeapIn w' base g v l := ⟨box_below h.box hb, h.own.below hb, h.ge⟩
theorem HeapIn.kept {w w' : World} {base g : Nat} {v : Value} {l : List Rch} (h : HeapIn w base g v l) {row : Option Nat} (hg : w.grownBy w' row) (hr : ∀ k, row = some k → k < base) : HeapIn w' base g v l := by
  refine ⟨(hg.block g (box_lt h.box) (fun e => by have := hr g e.symm; have := h.ge; omega)).trans h.box, h.own.kept hg ?_, h.ge⟩
  cases hv : v.ownBlock with
  | none => exact .inl rfl
  | some k =>
    refine .inr fun e => ?_
    have := (World.ownsRow.lt h.own k hv).1
    have := hr k e.symm
    omega

theorem HeapIn.apart {w : World} {base g : Nat} {v : Value} {l : List Rch} (h : HeapIn w base g v l) : v.ownBlock ≠ some g := by
  obtain ⟨-, h2⟩ := h.own
  rcases h2 with ⟨rfl, -⟩ | ⟨b, cap, cur, rfl, -, h4, -⟩
  · simp [Value.ownBlock]
  · intro e
    simp [Value.ownBlock] at e
    subst e
    have := h.box
    rw [h4] at this
    simp at this

set_option maxHeartbeats 400000 in
theorem less_any (x y : Rch) (w : World) : Calls Tryz.prog 134 #[rval x, rval y] w fun e w' => e = .returned (.bool (decide (x.far < y.far))) ∧ Below w.heap.size w w' := by
  go_enter Tryz.func134, Tryz.ntmps134
  go_wp2
  go_ret
  exact ⟨rfl, ((Below.refl _ _).alloc (Nat.le_refl _) _).alloc (by simp) _⟩
theorem less_b (x y : Rch) (w : World) (b : Bool) (h : decide (x.far < y.far) = b) : Calls Tryz.prog 134 #[rval x, rval y] w fun e w' => e = .returned (.bool b) ∧ Below w.heap.size w w' :=
  (less_any x y w).mono fun _ _ ⟨h1, h2⟩ => ⟨by rw [h1, h], h2⟩

set_option maxHeartbeats 1000000 in
set_option maxRecDepth 100000 in
theorem hnew_any (w : World) : Calls Tryz.prog 133 #[lessV] w fun e w' => e = .returned (.pointer (some ⟨w.heap.size, 0, none⟩)) ∧ w' = w.alloc (.cells #[lessV, .slice none 0 0] 224) := by
  go_enter Tryz.func133, Tryz.ntmps133
  go_wp2
  exact bodyPost_ret (v := .pointer (some ⟨w.heap.size, 0, none⟩)) (by simp [results, Tryz.results133, go_sem]) rfl ⟨rfl, rfl⟩

set_option maxHeartbeats 1000000 in
set_option maxRecDepth 100000 in
theorem his_any (w : World) (base g : Nat) (v : Value) (l : List Rch) (h : HeapIn w base g v l) : Calls Tryz.prog 144 #[.pointer (some ⟨g, 0, none⟩)] w fun e w' => e = .returned (.bool true) ∧ w = w' := by
  obtain ⟨c0, c1, -, -⟩ := box2_cells h.box
  have hne : ∀ w, (binOp .neq 210 lessV .nilFunc).run Tryz.prog w = .ok (.bool true) w := fun w => by kernel_rfl
  go_enter Tryz.func144, Tryz.ntmps144
  go_wp2
  go_ret
  exact ⟨rfl, rfl⟩

set_option maxHeartbeats 1000000 in
theorem hlen_any (w : World) (base g : Nat) (a : Option Addr) (n cap : Nat) (l : List Rch) (h : HeapIn w base g (.slice a n cap) l) : Calls Tryz.prog 136 #[.pointer (some ⟨g, 0, none⟩)] w fun e w' => e = .returned (.int .i64 n) ∧ w = w' := by
  obtain ⟨c0, c1, -, -⟩ := box2_cells h.box
  have HH := Lib.hid h
  go_enter Tryz.func136, Tryz.ntmps136
  go_wp2_with (go_at_call 144; refine (his_any _ base g _ l HH.out).mono ?_; rintro e w1 ⟨rfl, rfl⟩)
  go_ret
  exact ⟨rfl, rfl⟩

theorem rflat_set1 : ∀ (xs : List Rch) (i : Nat) (x : Rch), ((xs.flatMap rchEnc).set (i * 2) (.int .i64 x.stop)).set (i * 2 + 1) (.int .i64 x.far) = (xs.set i x).flatMap rchEnc
  | [], i, x => by simp
  | y :: ys, 0, x => by simp [List.flatMap_cons, rchEnc]
  | y :: ys, i + 1, x => by
    have ih := rflat_set1 ys i x
    rw [List.set_cons_succ, List.flatMap_cons, List.flatMap_cons, ← ih]
    have e : (i + 1) * 2 = i * 2 + 2 := by omega
    rw [e]
    simp [rchEnc]
/-- One of a row of reached stops is put anew. -/
theorem rset {base : Nat} {w : World} {b n cap : Nat} {xs : List Rch} (h : V.Own 209 rcod base w (.slice (some ⟨b, 0, none⟩) n cap) xs) (hn : n = xs.length) (i : Nat) (x : Rch) :
    V.Own 209 rcod base ((w.setCell ⟨b, i * 2, none⟩ (.int .i64 x.stop)).setCell ⟨b, i * 2 + 1, none⟩ (.int .i64 x.far)) (.slice (some ⟨b, 0, none⟩) n cap) (xs.set i x) ∧ w.grownBy ((w.setCell ⟨b, i * 2, none⟩ (.int .i64 x.stop)).setCell ⟨b, i * 2 + 1, none⟩ (.int .i64 x.far)) (some b) := by
  subst hn
  have h' : w.ownsRow base 209 2 (.slice (some ⟨b, 0, none⟩) xs.length cap) xs.length (xs.flatMap rchEnc) := h
  obtain ⟨h1, q1⟩ := h'.stored (i * 2) (.int .i64 x.stop)
  obtain ⟨h2, q2⟩ := h1.stored (i * 2 + 1) (.int .i64 x.far)
  refine ⟨?_, q1.trans q2⟩
  show World.ownsRow _ base 209 2 _ (xs.set i x).length ((xs.set i x).flatMap rchEnc)
  rw [List.length_set, ← rflat_set1]; exact h2
theorem rcells {base : Nat} {w : World} {b n cap : Nat} {xs : List Rch} (h : V.Own 209 rcod base w (.slice (some ⟨b, 0, none⟩) n cap) xs) (hn : n = xs.length) {i : Nat} (hi : i < n) :
    w.cell? ⟨b, i * 2, none⟩ = some (.int .i64 (at' xs i).stop) ∧ w.cell? ⟨b, i * 2 + 1, none⟩ = some (.int .i64 (at' xs i).far) ∧ w.frozen? ⟨b, i * 2, none⟩ = false ∧ w.frozen? ⟨b, i * 2 + 1, none⟩ = false := by
  have hx := at_some (l := xs) (i := i) (by omega)
  obtain ⟨h1, h2⟩ := h.at hn hx
  exact ⟨h1 0 _ rfl, h1 1 _ rfl, h2 _, h2 _⟩

/-- What the append and the store of the new header leave. -/
theorem push_app {w W w1 : World} {base g n : Nat} {v : Value} {l l2 : List Rch} {a1 : Option Addr} {k1 : Nat} {cs : Array Value} {t : TypeId} (h : HeapIn W base g v l) (hb : Below w.heap.size w W) (hg : (W.alloc (.cells cs t)).drew.grownBy w1 v.ownBlock)
    (ho : V.Own 209 rcod base w1 (.slice a1 n k1) l2) (hx : w1.heap[g]? = some (.cells #[lessV, v] 224 (0, 0)))
    (ht : (Value.slice a1 n k1).ownBlock = v.ownBlock ∨ (Value.slice a1 n k1).ownBlock = some (W.alloc (.cells cs t)).drew.heap.size) :
    HeapIn (w1.setCell ⟨g, 1, none⟩ (.slice a1 n k1)) base g (.slice a1 n k1) l2 ∧ Chg w (w1.setCell ⟨g, 1, none⟩ (.slice a1 n k1)) g v.ownBlock ∧ ((Value.slice a1 n k1).ownBlock = v.ownBlock ∨ ∃ k, (Value.slice a1 n k1).ownBlock = some k ∧ w.heap.size ≤ k) := by
  have hsz := hb.size
  have hgs : w1.grownBy (w1.setCell ⟨g, 1, none⟩ (.slice a1 n k1)) (some g) := ⟨rfl, rfl, rfl, by simp, fun k _ hk => heap_setCell_other _ ⟨g, 1, none⟩ k _ (fun e => hk (by simp [e]))⟩
  have hap : (Value.slice a1 n k1).ownBlock ≠ some g := by
    obtain ⟨-, h2⟩ := ho
    rcases h2 with ⟨e, -⟩ | ⟨b, cap, cur, e, -, h4, -⟩
    · rw [e]; simp [Value.ownBlock]
    · rw [e]; intro e2
      simp [Value.ownBlock] at e2
      subst e2
      rw [h4] at hx
      simp at hx
  have hbx := heap_setCell_same w1 g 1 _ _ (.slice a1 n k1) hx
  have hW : Below W.heap.size W (W.alloc (.cells cs t)).drew := Below.drew ((Below.refl _ _).alloc (Nat.le_refl _) _)
  have hb2 : Below w.heap.size w (W.alloc (.cells cs t)).drew := hb.trans (hW.mono hsz)
  refine ⟨⟨?_, ho.kept hgs (.inr hap), h.ge⟩, ?_, ?_⟩
  · rw [hbx]; rfl
  · exact ((Chg.of_below hb2 g v.ownBlock).trans (Chg.of_grown hg g v.ownBlock (fun k hk => .inr hk.symm)) (.inl rfl)).trans (Chg.of_grown hgs g v.ownBlock (fun k hk => .inl (Option.some.inj hk).symm)) (.inl rfl)
  · rcases ht with e | e
    · exact .inl e
    · exact .inr ⟨_, e, by simp; omega⟩

set_option maxHeartbeats 8000000 in
set_option maxRecDepth 100000 in
theorem hpush_any (w : World) (base g : Nat) (v : Value) (l : List Rch) (x : Rch) (h : HeapIn w base g v l) (hok : HeapOk Rch.far l) (hm : l.length ≤ 1000000000) :
    Calls Tryz.prog 135 #[.pointer (some ⟨g, 0, none⟩), rval x] w fun e w' => (∃ u, e = .returned u) ∧ ∃ v' l', HeapIn w' base g v' l' ∧ HeapOk Rch.far l' ∧ l'.Perm (x :: l) ∧ Chg w w' g v.ownBlock ∧ (v'.ownBlock = v.ownBlock ∨ ∃ k, v'.ownBlock = some k ∧ w.heap.size ≤ k) := by
  have mixed : Tryz.prog.follows .mixedOrders = true := by kernel_rfl
  have HH := Lib.hid h
  have HOK := Lib.hid hok
  have HA : Hid (HeapIn (w.alloc (.cells #[.int .i64 x.stop, .int .i64 x.far] 209)) base g v l) := h.below ((Below.refl _ _).alloc (Nat.le_refl _) _)
  have HX := Lib.hid (box_new w (.cells #[.int .i64 x.stop, .int .i64 x.far] 209))
  unfold rval
  go_enter Tryz.func135, Tryz.ntmps135
  go_upto_region 2 with (go_at_call 144; refine (his_any _ base g _ l HA.out).mono ?_; rintro e w1 ⟨rfl, rfl⟩)
  have hsz := box_lt HX.out
  have HB0 : Hid (Below w.heap.size w (w.alloc (.cells #[.int .i64 x.stop, .int .i64 x.far] 209))) := (Below.refl _ _).alloc (Nat.le_refl _) _
  obtain ⟨W, hW⟩ : ∃ W, w.alloc (.cells #[.int .i64 x.stop, .int .i64 x.far] 209) = W := ⟨_, rfl⟩
  rw [hW] at HA HX hsz HB0 ⊢
  clear hW
  obtain ⟨c0, c1, f0, f1⟩ := box2_cells HA.out.box
  obtain ⟨u0, u1, -, -⟩ := box2_cells HX.out
  have hgW := box_lt HA.out.box
  have HLX : Hid ((l ++ [x]).length = l.length + 1) := by show _ = _; simp
  have HM1 : Hid (l.length + 1 ≤ maxLen) := by show _ ≤ _; unfold maxLen; omega
  have HM2 : Hid ((l.length + 1) * 16 ≤ 140737488355328) := by show _ ≤ _; omega
  have hbW : base ≤ W.heap.size := by have := HA.out.ge; omega
  go_cut [] (fun wx => ∃ a1 k1, Hid (HeapIn wx base g (.slice a1 (l.length + 1) k1) (l ++ [x])) ∧ Hid (Chg w wx g v.ownBlock) ∧ Hid ((Value.slice a1 (l.length + 1) k1).ownBlock = v.ownBlock ∨ ∃ k, (Value.slice a1 (l.length + 1) k1).ownBlock = some k ∧ w.heap.size ≤ k))
  case first =>
    go_region_law (go_loud (refine step_app_at eltRch rfl (.tmp 13) (.tmp 15) rfl v l (by simp [Act.eval]) (HA.out.own.below (Below.drew ((Below.refl _ _).alloc (Nat.le_refl _) _))) ⟨W.heap.size, 0, none⟩ 1 1 [x] (by simp [Act.eval]) ((sl_new (c := rcod) W #[.int .i64 x.stop, .int .i64 x.far] 209 [x] 1 rfl (by unfold maxLen; omega) rfl).below (Below.drew (Below.refl _ _))) HM1.out HM2.out (by simp; omega) ?_); intro v1 w1 hown1 hg1 hat1; obtain ⟨a1, k1, ev1, -⟩ := hown1.slice; rw [HLX.out] at ev1; subst ev1; go_loud (have HX1 : Hid (w1.heap[g]? = some (.cells #[lessV, v] 224 (0, 0))) := (hg1.block g (by simp; omega) (fun e => HA.out.apart e.symm)).trans (box_alloc HA.out.box)); obtain ⟨d0, d1, e0, e1⟩ := box2_cells HX1.out; have hgw := box_lt HX1.out; have HO1 := Lib.hid hown1; have HG1 := Lib.hid hg1; have HT1 := Lib.hid hat1; clear hown1 hg1 hat1)
    all_goals
      go_wp2_with fail
      go_meet
      have hgr : (W.alloc (.cells #[.int .i64 x.stop, .int .i64 x.far] 209)).drew.grownBy w1 v.ownBlock := HG1.out
      obtain ⟨q1, q2, q3⟩ := push_app HA.out HB0.out hgr HO1.out HX1.out HT1.out
      exact ⟨a1, k1, q1, q2, q3⟩
  obtain ⟨a1, k1, HI, HC, HT⟩ := hcut
  obtain ⟨wd, hwd⟩ : ∃ wd : World, wd = wc := ⟨_, rfl⟩
  subst hwd
  clear HA HX hsz HB0 c0 c1 f0 f1 u0 u1 hgW HM1 HM2 hbW
  obtain ⟨b, cb, hbv, hbge⟩ : ∃ b cb, a1 = some ⟨b, 0, none⟩ ∧ base ≤ b ∧ wd.heap[b]? = some (.cells cb 209 (0, 0)) := by
    obtain ⟨g', cap', cur, e1, e2, e3⟩ := own_ne HI.out.own (by simp)
    simp only [Value.slice.injEq] at e1
    exact ⟨g', cur, e1.1, e2, e3⟩
  subst hbv
  obtain ⟨n, hn⟩ : ∃ n, l.length + 1 = n := ⟨_, rfl⟩
  rw [hn] at HI HT
  have HN : Hid (n = (l ++ [x]).length) := by show _ = _; rw [HLX.out, hn]
  have hn1 : 1 ≤ n ∧ n ≤ 1000000001 := by omega
  have HU : Hid (UpOk Rch.far (l ++ [x]) (n - 1)) := by
    have := up_start (key := Rch.far) x HOK.out
    rwa [show n - 1 = l.length by omega]
  clear hn HLX
  have hb0 := hbge.1
  obtain ⟨c0, c1, -, -⟩ := box2_cells HI.out.box
  have r0 : IntKind.i64.wrap ((n : Int) - 1) = ((n - 1 : Nat) : Int) := by rw [IntKind.wrap_i64]; omega
  go_wp2_with fail
  clear r0 c0 c1
  have HCC : Hid (∀ W', Chg wd W' g (some b) → Chg w W' g v.ownBlock) := fun W' hc => HC.out.trans hc HT.out
  have HFIN : Hid (∀ W', Chg w W' g v.ownBlock → ∀ l2 : List Rch, HeapIn W' base g (.slice (some ⟨b, 0, none⟩) n k1) l2 → HeapOk Rch.far l2 → l2.Perm (l ++ [x]) → ∃ v' l', HeapIn W' base g v' l' ∧ HeapOk Rch.far l' ∧ l'.Perm (x :: l) ∧ Chg w W' g v.ownBlock ∧ (v'.ownBlock = v.ownBlock ∨ ∃ k, v'.ownBlock = some k ∧ w.heap.size ≤ k)) :=
    fun W' hc l2 h1 h2 h3 => ⟨_, l2, h1, h2, h3.trans (List.perm_append_singleton x l), hc, HT.out⟩
  go_loopw [4] (fun i wr => ∃ (k : Nat) (l2 : List Rch), i = .int .i64 k ∧ k < n ∧ Hid (HeapIn wr base g (.slice (some ⟨b, 0, none⟩) n k1) l2) ∧ Hid (UpOk Rch.far l2 k) ∧ Hid (l2.Perm (l ++ [x])) ∧ Hid (Chg wd wr g (some b))) (fun i _ => (intOf i).toNat)
  case atStart => exact ⟨n - 1, l ++ [x], by go_num, by omega, HI.out, HU.out, List.Perm.refl _, Chg.refl _ _ _⟩
  case round =>
    obtain ⟨k, l2, rfl, hk, HI2, HU2, HP2, HC2⟩ := hrel
    have HLL : Hid (n = l2.length) := by show _ = _; rw [HP2.out.length_eq]; exact HN.out
    cases k with
    | zero =>
      go_wp2_with fail
      exact bodyPost_end (results_none rfl _ _ _) rfl ⟨⟨_, rfl⟩, HFIN.out _ (HCC.out _ HC2.out) l2 HI2.out (up_done HU2.out (.inl rfl)) HP2.out⟩
    | succ j =>
      obtain ⟨p, hp⟩ : ∃ p, p = j / 2 := ⟨_, rfl⟩
      have hp1 : (j : Int) / 2 = (p : Int) := by omega
      have hp2 : p < n := by omega
      have r1 : IntKind.i64.wrap (j : Int) = (j : Int) := by rw [IntKind.wrap_i64]; omega
      have r2 : (0 : Int) ≤ (j : Int) := by omega
      have r3 : (0 : Int) < (j : Int) + 1 := by omega
      have r4 : (j : Int) + 1 < (n : Int) := by omega
      have r5 : (p : Int) < (n : Int) := by omega
      obtain ⟨d0, d1, e0, e1⟩ := box2_cells HI2.out.box
      obtain ⟨x0, x1, x2, x3⟩ := rcells HI2.out.own HLL.out hk
      obtain ⟨y0, y1, y2, y3⟩ := rcells HI2.out.own HLL.out hp2
      obtain ⟨X, hX⟩ : ∃ X, at' l2 (j + 1) = X := ⟨_, rfl⟩
      obtain ⟨Y, hY⟩ : ∃ Y, at' l2 p = Y := ⟨_, rfl⟩
      rw [hX] at x0 x1
      rw [hY] at y0 y1
      have HXY : Hid (at' l2 (j + 1) = X ∧ at' l2 p = Y) := ⟨hX, hY⟩
      have HPP := Lib.hid hp
      clear hp hX hY
      have D0 := cell_regrown d0
      have D1 := cell_regrown d1
      have X0 := cell_regrown x0
      have X1 := cell_regrown x1
      have Y0 := cell_regrown y0
      have Y1 := cell_regrown y1
      obtain ⟨bb, hbb⟩ : ∃ bb, decide (X.far < Y.far) = bb := ⟨_, rfl⟩
      have HBB := Lib.hid hbb
      have hg1 := box_lt HI2.out.box
      clear hbb d0 d1 x0 x1 x2 x3 y0 y1 y2 y3 e0 e1
      go_wp2_with fail
      refine wp_region_quiet_below (by assumption) (by kernel_rfl) ?_
      repeat (go_big_quiet_step ((go_at_call 134; exact Calls.regrown_of (less_b X Y _ bb HBB.out))))
      refine wpQuiet_nil ?_
      intro w2 hw2
      obtain ⟨⟨nd, osq⟩, rfl⟩ := hw2
      have hbq := below_regrown wr nd osq
      generalize grow (redrawn wr nd) osq = w2 at hbq ⊢
      have HI3 := Lib.hid (HI2.out.below hbq)
      have HC3 : Hid (Chg wd w2 g (some b)) := HC2.out.trans (Chg.of_below hbq g (some b)) (.inl rfl)
      clear hbq D0 D1 X0 X1 Y0 Y1
      cases bb with
      | false =>
        go_wp2_with fail
        have hd : ¬ (at' l2 (j + 1)).far < (at' l2 p).far := by rw [HXY.out.1, HXY.out.2]; exact of_decide_eq_false HBB.out
        exact bodyPost_ret (results_none rfl _ _ _) rfl ⟨⟨_, rfl⟩, HFIN.out _ (HCC.out _ HC3.out) l2 HI3.out (up_done HU2.out (.inr (by rw [Nat.add_sub_cancel, ← HPP.out]; exact hd))) HP2.out⟩
      | true =>
        obtain ⟨d0, d1, e0, e1⟩ := box2_cells HI3.out.box
        obtain ⟨x0, x1, x2, x3⟩ := rcells HI3.out.own HLL.out hk
        obtain ⟨y0, y1, y2, y3⟩ := rcells HI3.out.own HLL.out hp2
        rw [HXY.out.1] at x0 x1
        rw [HXY.out.2] at y0 y1
        have hjp : (j + 1) * 2 ≠ p * 2 ∧ (j + 1) * 2 + 1 ≠ p * 2 ∧ (j + 1) * 2 ≠ p * 2 + 1 ∧ (j + 1) * 2 + 1 ≠ p * 2 + 1 := by omega
        obtain ⟨n1, n2, n3, n4⟩ := hjp
        have ngb : g ≠ b := fun e => HI3.out.apart (by rw [e]; rfl)
        go_upto_region 7 with fail
        go_cut [] (fun wx => wx = ((((w2.setCell ⟨b, (j + 1) * 2, none⟩ (.int .i64 Y.stop)).setCell ⟨b, (j + 1) * 2 + 1, none⟩ (.int .i64 Y.far)).setCell ⟨b, p * 2, none⟩ (.int .i64 X.stop)).setCell ⟨b, p * 2 + 1, none⟩ (.int .i64 X.far)).drew)
        case first =>
          go_region
          all_goals
            go_wp2_with fail
            go_meet
            rfl
        subst hcut
        obtain ⟨o1, g1⟩ := rset HI3.out.own HLL.out (j + 1) Y
        obtain ⟨o2, g2⟩ := rset o1 (by rw [List.length_set]; exact HLL.out) p X
        have hsw : (l2.set (j + 1) Y).set p X = V.swp l2 (j + 1) p := by unfold V.swp; rw [HXY.out.1, HXY.out.2]
        rw [hsw] at o2
        have hgg := g1.trans g2
        generalize hW4 : (((w2.setCell ⟨b, (j + 1) * 2, none⟩ (.int .i64 Y.stop)).setCell ⟨b, (j + 1) * 2 + 1, none⟩ (.int .i64 Y.far)).setCell ⟨b, p * 2, none⟩ (.int .i64 X.stop)).setCell ⟨b, p * 2 + 1, none⟩ (.int .i64 X.far) = w4 at o2 hgg ⊢
        have HI4 : Hid (HeapIn w4.drew base g (.slice (some ⟨b, 0, none⟩) n k1) (V.swp l2 (j + 1) p)) := HeapIn.below ⟨(hgg.block g (box_lt HI3.out.box) (fun e => ngb (Option.some.inj e))).trans HI3.out.box, o2, HI3.out.ge⟩ (Below.drew (Below.refl _ _))
        have HC4 : Hid (Chg wd w4.drew g (some b)) := (HC3.out.trans (Chg.of_grown hgg g (some b) (fun k hk => .inr hk.symm)) (.inl rfl)).trans (Chg.of_below (Below.drew (Below.refl _ _)) g (some b)) (.inl rfl)
        have HU4 : Hid (UpOk Rch.far (V.swp l2 (j + 1) p) p) := by
          have := up_step HU2.out (by omega) (by rw [← HLL.out]; exact hk) (by
            rw [Nat.add_sub_cancel, ← HPP.out, HXY.out.1, HXY.out.2]
            exact of_decide_eq_true HBB.out)
          rwa [Nat.add_sub_cancel, ← HPP.out] at this
        have HP4 : Hid ((V.swp l2 (j + 1) p).Perm (l ++ [x])) := (swp_perm (by rw [← HLL.out]; exact hk) (by rw [← HLL.out]; exact hp2)).trans HP2.out
        clear o1 g1 o2 hsw hgg hW4 d0 d1 e0 e1 x0 x1 x2 x3 y0 y1 y2 y3
        go_wp2_with fail
        go_roundw
        case rel => exact ⟨p, _, rfl, hp2, HI4.out, HU4.out, HP4.out, HC4.out⟩
        case measure => simp [intOf]; have := HPP.out; omega
end Go.Proofs.YtlfbbahihenilaaGreat.Ne

namespace Go.Proofs.YtlfbbahihenilaaGreat.Ne
open Go.RowKit Go.V Go.Proofs Go.Sort

theorem results_row_tmp {P : Program} {fn : Func} {p u : Tmp} {ty : TypeId} (h : fn.results = #[.cell p ty, .tmp u]) (tmps : Array Value) (w : World) (g : Nat) (t : TypeId) (cs : Array Value) (fr : Nat × Nat) (d : TypeDesc)
    (hp : tmps.getD p undef = .pointer (some ⟨g, 0, none⟩)) (hg : w.heap[g]? = some (.cells cs t fr))
    (hu : P.underlying ty = some d) (hd : (match d with | .struct _ | .array _ _ => true | _ => false) = true) (hi : (P.info? ty).map (·.size) = some cs.size) :
    (results fn tmps).run P w = .ok (.tuple #[.agg cs, tmps.getD u undef]) w := by
  rw [results_cell_tmp h, hp]
  simp [asAddr, run_loadVar_row w g t ty cs fr d hg hu hd hi, Result.andThen]
theorem box2_set {w : World} {g : Nat} {e : TypeId} {u0 u1 : Value} (h : w.heap[g]? = some (.cells #[u0, u1] e (0, 0))) (v0 v1 : Value) : ((w.setCell ⟨g, 0, none⟩ v0).setCell ⟨g, 1, none⟩ v1).heap[g]? = some (.cells #[v0, v1] e (0, 0)) := by
  have h1 := heap_setCell_same w g 0 _ e v0 h
  have h2 := heap_setCell_same _ g 1 _ e v1 h1
  rw [h2]; rfl
theorem set_grown (w : World) (g j : Nat) (v : Value) : w.grownBy (w.setCell ⟨g, j, none⟩ v) (some g) :=
  ⟨rfl, rfl, rfl, by simp, fun k _ hk => heap_setCell_other _ ⟨g, j, none⟩ k v (fun e => hk (by simp [e]))⟩

set_option maxHeartbeats 2000000 in
set_option maxRecDepth 100000 in
theorem htop_any (w : World) (base g b n k : Nat) (l : List Rch) (h : HeapIn w base g (.slice (some ⟨b, 0, none⟩) n k) l) (hn : n = l.length) (h1 : 1 ≤ n) (hm : n ≤ 1000000000) :
    Calls Tryz.prog 145 #[.pointer (some ⟨g, 0, none⟩)] w fun e w' => e = .returned (.tuple #[rval (at' l 0), .bool true]) ∧ Below w.heap.size w w' := by
  have HA : Hid (HeapIn (w.alloc (.cells #[.int .i64 0, .int .i64 0] 209)) base g (.slice (some ⟨b, 0, none⟩) n k) l) := h.below ((Below.refl _ _).alloc (Nat.le_refl _) _)
  have HX := Lib.hid (box_new w (.cells #[.int .i64 0, .int .i64 0] 209))
  obtain ⟨c0, c1, -, -⟩ := box2_cells HA.out.box
  obtain ⟨y0, y1, -, -⟩ := rcells HA.out.own hn (i := 0) (by omega)
  obtain ⟨Y, hY⟩ : ∃ Y, at' l 0 = Y := ⟨_, rfl⟩
  rw [hY] at y0 y1 ⊢
  rw [Nat.zero_mul] at y0 y1
  obtain ⟨u0, u1, f0, f1⟩ := box2_cells HX.out
  have hg := box_lt HA.out.box
  clear hY hn
  have p1 : ((n : Int) == 0) = false := by simp; omega
  have p2 : (0 : Int) < (n : Int) := by omega
  go_enter Tryz.func145, Tryz.ntmps145
  go_wp2_with (go_at_call 136; refine (hlen_any _ base g _ n k l HA.out).mono ?_; rintro e w1 ⟨rfl, rfl⟩)
  refine bodyPost_ret (results_row_tmp rfl _ _ w.heap.size _ _ _ _ rfl (box_new w _) Tryz.underlying209 rfl (by kernel_rfl)) rfl ⟨rfl, ?_⟩
  exact (Below.refl _ _).alloc (Nat.le_refl _) _
end Go.Proofs.YtlfbbahihenilaaGreat.Ne
