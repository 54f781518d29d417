/- Networks: flows: the busiest link; numbers that may be, walked. -/
import Derived.Test.YteihffnmgacfpaaNwG
import Derived.Deep.RegionHeld3
namespace Go.Proofs.Yteihffnmgacfpaa.Ne
open Go.RowKit Go.V Go.Proofs Go.Sort

theorem results_cell_tmp2 {fn : Func} {p u u' : Tmp} {ty : TypeId} (h : fn.results = #[.cell p ty, .tmp u, .tmp u']) (tmps : Array Value) (P : Program) (w : World) :
    (results fn tmps).run P w =
      ((asAddr (tmps.getD p undef)).run P w).andThen fun a w₁ => ((loadVar ty a).run P w₁).andThen fun v w₂ => .ok (.tuple #[v, tmps.getD u undef, tmps.getD u' undef]) w₂ := by
  simp only [results, h]
  simp [Sem.run_bind, Result.andThen]
theorem results_row_tmp2 {P : Program} {fn : Func} {p u u' : Tmp} {ty : TypeId} (h : fn.results = #[.cell p ty, .tmp u, .tmp u']) (tmps : Array Value) (w : World) (g : Nat) (t : TypeId) (cs : Array Value) (fr : Nat × Nat) (d : TypeDesc)
    (hp : tmps.getD p undef = .pointer (some ⟨g, 0, none⟩)) (hg : w.heap[g]? = some (.cells cs t fr))
    (hu : P.underlying ty = some d) (hd : (match d with | .struct _ | .array _ _ => true | _ => false) = true) (hi : (P.info? ty).map (·.size) = some cs.size) :
    (results fn tmps).run P w = .ok (.tuple #[.agg cs, tmps.getD u undef, tmps.getD u' undef]) w := by
  rw [results_cell_tmp2 h, hp]
  simp [asAddr, run_loadVar_row w g t ty cs fr d hg hu hd hi, Result.andThen]
theorem box3_set {w : World} {g : Nat} {e : TypeId} {u0 u1 u2 : Value} (h : w.heap[g]? = some (.cells #[u0, u1, u2] e (0, 0))) (v0 v1 v2 : Value) : (((w.setCell ⟨g, 0, none⟩ v0).setCell ⟨g, 1, none⟩ v1).setCell ⟨g, 2, none⟩ v2).heap[g]? = some (.cells #[v0, v1, v2] e (0, 0)) := by
  have h1 := heap_setCell_same w g 0 _ e v0 h
  have h2 := heap_setCell_same _ g 1 _ e v1 h1
  have h3 := heap_setCell_same _ g 2 _ e v2 h2
  rw [h3]; rfl
/-- The first of the greatest, of the first j. -/
structure Best (xs : List Int) (j b : Nat) : Prop where
  in_ : b < xs.length
  le : ∀ i, i < j → xs.getD i 0 ≤ xs.getD b 0
  lt : ∀ i, i < b → xs.getD i 0 < xs.getD b 0
theorem Best.start {xs : List Int} (h : 0 < xs.length) : Best xs 0 0 := ⟨h, fun i hi => absurd hi (by omega), fun i hi => absurd hi (by omega)⟩
theorem Best.more {xs : List Int} {j b : Nat} (h : Best xs j b) (hb : b ≤ j) (hj : j < xs.length) (hx : xs.getD b 0 < xs.getD j 0) : Best xs (j + 1) j := by
  refine ⟨hj, fun i hi => ?_, fun i hi => ?_⟩
  · by_cases e : i = j
    · subst e; exact Int.le_refl _
    · have := h.le i (by omega); omega
  · have := h.le i hi; omega
theorem Best.same {xs : List Int} {j b : Nat} (h : Best xs j b) (hx : ¬ xs.getD b 0 < xs.getD j 0) : Best xs (j + 1) b := by
  refine ⟨h.in_, fun i hi => ?_, h.lt⟩
  by_cases e : i = j
  · subst e; omega
  · exact h.le i (by omega)
theorem getD_of {xs : List Int} {i : Nat} {x : Int} (h : xs[i]? = some x) : xs.getD i 0 = x := by rw [List.getD_eq_getElem?_getD, h]; rfl

/-- What the busiest link is. -/
def Busy (n : Net) (m n1 : Nat) (xs : List Int) (w w' : World) (e : Ending) : Prop := ∃ (l : Lnk) (kk : Int) (ok : Bool), e = .returned (.tuple #[.agg #[.int .i64 l.a, .int .i64 l.b, .int .i64 l.w], .int .i64 kk, .bool ok]) ∧ ok = decide (0 < m ∧ n1 = m) ∧ (ok = false → l = ⟨0, 0, 0⟩ ∧ kk = 0) ∧ (ok = true → ∃ b, n.links[b]? = some l ∧ xs[b]? = some kk ∧ Best xs n1 b) ∧ Below w.heap.size w w'

set_option maxHeartbeats 4000000 in
set_option maxRecDepth 100000 in
theorem busiest_any (n : Net) (hs hl : Hdr) (F : Fl) (a1 : Option Addr) (n1 q1 : Nat) (a2 : Option Addr) (n2 q2 : Nat) (a3 : Option Addr) (n3 q3 : Nat) (w : World) (h : NetIn w n hs hl) (hA : FlIn w F ⟨⟨a1, n1, q1⟩, ⟨a2, n2, q2⟩, ⟨a3, n3, q3⟩⟩) (hn : n1 ≤ 1000000) (hm : hl.n ≤ 1000000) :
    Calls Try.prog 55 #[n.val hs hl, .agg #[.slice a1 n1 q1, .slice a2 n2 q2, .slice a3 n3 q3, .int .i64 F.lost]] w fun e w' => Busy n hl.n n1 F.links w w' e := by
  have mixed : Try.prog.follows .mixedOrders = true := by kernel_rfl
  obtain ⟨sa, k, sc⟩ := hs
  obtain ⟨la, m, lc⟩ := hl
  have hm : m ≤ 1000000 := hm
  have HH := Lib.hid h
  have HA := Lib.hid hA
  have HLN : Hid (m = n.links.length) := h.l.hlen
  have HN1 : Hid (n1 = F.links.length) := hA.l.hlen
  obtain ⟨xl, xo, xf, xx⟩ := F
  simp only []
  clear h hA
  have HXA := Lib.hid (box_alloc (o := .cells #[.int .i64 0, .int .i64 0, .int .i64 0] 49) (box_alloc (o := .cells #[.slice a1 n1 q1, .slice a2 n2 q2, .slice a3 n3 q3, .int .i64 xx] 78) (box_new w (n.box ⟨sa, k, sc⟩ ⟨la, m, lc⟩))))
  have HXB := Lib.hid (box_alloc (o := .cells #[.int .i64 0, .int .i64 0, .int .i64 0] 49) (box_new (w.alloc (n.box ⟨sa, k, sc⟩ ⟨la, m, lc⟩)) (.cells #[.slice a1 n1 q1, .slice a2 n2 q2, .slice a3 n3 q3, .int .i64 xx] 78)))
  have HXR := Lib.hid (box_new ((w.alloc (n.box ⟨sa, k, sc⟩ ⟨la, m, lc⟩)).alloc (.cells #[.slice a1 n1 q1, .slice a2 n2 q2, .slice a3 n3 q3, .int .i64 xx] 78)) (.cells #[.int .i64 0, .int .i64 0, .int .i64 0] 49))
  have HB1 : Hid (Below w.heap.size w (((w.alloc (n.box ⟨sa, k, sc⟩ ⟨la, m, lc⟩)).alloc (.cells #[.slice a1 n1 q1, .slice a2 n2 q2, .slice a3 n3 q3, .int .i64 xx] 78)).alloc (.cells #[.int .i64 0, .int .i64 0, .int .i64 0] 49))) := (((Below.refl _ _).alloc (Nat.le_refl _) _).alloc (by simp) _).alloc (by simp; omega) _
  go_enter Try.func55, Try.ntmps55
  go_upto_region 1 with fail
  obtain ⟨w1, hw1⟩ : ∃ w1, ((w.alloc (n.box ⟨sa, k, sc⟩ ⟨la, m, lc⟩)).alloc (.cells #[.slice a1 n1 q1, .slice a2 n2 q2, .slice a3 n3 q3, .int .i64 xx] 78)).alloc (.cells #[.int .i64 0, .int .i64 0, .int .i64 0] 49) = w1 := ⟨_, rfl⟩
  rw [hw1] at HXA HXB HXR HB1 ⊢
  simp only [World.size_alloc] at HXB HXR
  clear hw1
  obtain ⟨c0, c1, c2, -, -, -⟩ := box3_cells HXA.out
  obtain ⟨y0, y1, y2, y3⟩ := box4_cells HXB.out
  obtain ⟨r0, r1, r2, f0, f1, f2⟩ := box3_cells HXR.out
  have hxl := box_lt HXA.out
  have hyl := box_lt HXB.out
  have hrl := box_lt HXR.out
  have hzw : w.heap.size ≤ w.heap.size + 1 + 1 := by omega
  by_cases hm0 : m = 0
  · subst hm0
    have HOK : Hid (false = decide (0 < 0 ∧ n1 = 0)) := (decide_eq_false (by omega)).symm
    go_wp2_with fail
    exact bodyPost_ret (results_row_tmp2 rfl _ _ (w.heap.size + 1 + 1) _ _ _ _ rfl (box3_set HXR.out _ _ _) Try.underlying49 rfl (by kernel_rfl)) rfl ⟨⟨0, 0, 0⟩, 0, false, rfl, HOK.out, fun _ => ⟨rfl, rfl⟩, fun q => (by cases q), below_set (below_set (below_set HB1.out hzw) hzw) hzw⟩
  · have hmb : ((m : Int) == 0) = false := by simp; omega
    by_cases hnm : n1 = m
    case neg =>
      have hnb : ((n1 : Int) != (m : Int)) = true := by simp; omega
      have HOK : Hid (false = decide (0 < m ∧ n1 = m)) := (decide_eq_false (by omega)).symm
      go_wp2_with fail
      exact bodyPost_ret (results_row_tmp2 rfl _ _ (w.heap.size + 1 + 1) _ _ _ _ rfl (box3_set HXR.out _ _ _) Try.underlying49 rfl (by kernel_rfl)) rfl ⟨⟨0, 0, 0⟩, 0, false, rfl, HOK.out, fun _ => ⟨rfl, rfl⟩, fun q => (by cases q), below_set (below_set (below_set HB1.out hzw) hzw) hzw⟩
    case pos =>
      subst hnm
      have hok : true = decide (0 < n1 ∧ n1 = n1) := (decide_eq_true (by omega)).symm
      have hxl0 : 0 < xl.length := by have e : n1 = xl.length := HN1.out; omega
      have HST := Lib.hid (Best.start hxl0)
      have HOK := Lib.hid hok
      clear hxl0 hok
      go_wp2_with fail
      go_loopw [7, 27] (fun bst i wr => ∃ (j b : Nat), i = .int .i64 j ∧ bst = .int .i64 b ∧ j ≤ n1 ∧ b ≤ j ∧ b < n1 ∧ wr = w1 ∧ Hid (Best xl j b)) (fun _ i _ => n1 - (intOf i).toNat)
      case atStart => exact ⟨0, 0, by go_num, by go_num, by omega, by omega, by omega, rfl, HST.out⟩
      case round =>
        clear HST
        obtain ⟨j, b, rfl, rfl, hj, hbj, hbn, rfl, HBE⟩ := hrel
        obtain ⟨b1, off1, y, e2, hb2l, hy, p2⟩ := int_at (HA.out.l.below HB1.out) hbn
        have e2 : a1 = _ := e2
        subst e2
        have hbi : (b : Int) < (n1 : Int) := by omega
        by_cases hlt : j < n1
        · obtain ⟨b1', off1', x, e1, hb1l, hx, p1⟩ := int_at (HA.out.l.below HB1.out) hlt
          cases e1
          have hji : (j : Int) < (n1 : Int) := by omega
          have hgx := getD_of hx
          have hgy := getD_of hy
          have hjx : j < xl.length := (List.getElem?_eq_some_iff.1 hx).1
          by_cases hc : y < x
          · have HB2 : Hid (Best xl (j + 1) j) := HBE.out.more hbj hjx (by rw [hgx, hgy]; exact hc)
            clear hx hy hgx hgy hjx
            go_wp2_with fail
            go_roundw
            case rel => exact ⟨j + 1, j, by go_num, by go_num, by omega, by omega, by omega, trivial, HB2.out⟩
            case measure => simp [intOf]; omega
          · have HB2 : Hid (Best xl (j + 1) b) := HBE.out.same (by rw [hgx, hgy]; exact hc)
            clear hx hy hgx hgy hjx
            go_wp2_with fail
            go_roundw
            case rel => exact ⟨j + 1, b, by go_num, by go_num, by omega, by omega, by omega, trivial, HB2.out⟩
            case measure => simp [intOf]; omega
        · have hjn : n1 = j := by omega
          subst hjn
          obtain ⟨lb, loff, l, e1, hlbl, hlj, l0, l1, l2⟩ := lnk_at (HH.out.l.below HB1.out) hbn
          have e1 : la = _ := e1
          subst e1
          have HY := Lib.hid hy
          have HLJ := Lib.hid hlj
          clear hy hlj
          obtain ⟨A, B, x⟩ := l
          obtain ⟨bq, oq, xq, eq1, hbq, -, -⟩ := int_at HA.out.l hbn
          cases eq1
          obtain ⟨lq, loq, lq2, eq2, hlq, -, -⟩ := lnk_at HH.out.l hbn
          cases eq2
          have ne1 : b1 ≠ w.heap.size + 1 + 1 := by omega
          have ne2 : lb ≠ w.heap.size + 1 + 1 := by omega
          have ne1' : w.heap.size + 1 + 1 ≠ b1 := by omega
          have ne2' : w.heap.size + 1 + 1 ≠ lb := by omega
          go_upto_region 10 with fail
          go_region
          all_goals
            go_wp2_with fail
            exact bodyPost_ret (results_row_tmp2 rfl _ _ (w.heap.size + 1 + 1) _ _ _ _ rfl (box3_set HXR.out _ _ _) Try.underlying49 rfl (by kernel_rfl)) rfl ⟨⟨A, B, x⟩, y, true, rfl, by simpa using HOK.out, fun q => (by cases q), fun _ => ⟨b, HLJ.out, HY.out, HBE.out⟩, below_set (below_set (below_set (HB1.out.trans (Below.drew (Below.refl _ _))) hzw) hzw) hzw⟩

/-- An append of whatever slice, as a step of a region that draws. -/
theorem step_app_any {α : Type} {e : TypeId} {c : Cod α} {base : Nat} {w : World} {P : Program} {t : TypeId} {bytes : Nat} (E : Elt P t e c bytes) {ops : Array Oper} {o : Oper} {a : Act} {K : Act → World → Prop} {Q : Exit → Act → World → Prop} {Z : Prop} (hgd : o.guard = none) (s x : Operand)
    (ho : o.op = Op.call { callee := Callee.builtin Builtin.append, args := #[s, x], argTypes := #[t, t] }) (v : Value) (xs : List α) (hs : a.eval s = v) (hown : V.Own e c base w v xs)
    (ax : Option Addr) (m cx : Nat) (ys : List α) (hx : a.eval x = .slice ax m cx) (hsl : Sl c w ax m cx ys) (hm : xs.length + m ≤ maxLen) (hb : (xs.length + m) * bytes ≤ 140737488355328) (hbase : base ≤ w.heap.size)
    (h : ∀ v' w', V.Own e c base w' v' (xs ++ ys) → w.grownBy w' v.ownBlock → (v'.ownBlock = v.ownBlock ∨ v'.ownBlock = some w.heap.size) → K (a.put o.dst v') w') :
    if Region.wanted o (yielded ops a.tmps) = true then Oper.wp P o a w K Q else Z := by
  cases ax with
  | some d => exact step_app_at E hgd s x ho v xs hs hown d m cx ys hx hsl hm hb hbase h
  | none =>
    obtain ⟨rfl, rfl⟩ := hsl.hnil rfl
    have hy : ys = [] := List.eq_nil_of_length_eq_zero hsl.hlen.symm
    subst hy
    have hw : Region.wanted o (yielded ops a.tmps) = true := by simp [Region.wanted, hgd]
    rw [if_pos hw]
    obtain ⟨i, z, h1, h2, h3, h4, h5⟩ := E.row
    have hrun := run_append_owned_none (P := P) (w := w) base t o.type e i c.k E.ht h1 v xs.length _ hown
    unfold Oper.wp
    simp [execOp, ho, resolve, invoke, builtin, hs, hx, hrun, Result.andThen]
    exact h v w (by rw [List.append_nil]; exact hown) ⟨rfl, rfl, rfl, Nat.le_refl _, fun _ _ _ => rfl⟩ (.inl rfl)
theorem box4_only {w : World} {g : Nat} {e : TypeId} {u0 u1 u2 u3 : Value} (h : w.heap[g]? = some (.cells #[u0, u1, u2, u3] e (0, 0))) : w.cell? ⟨g, 0, none⟩ = some u0 ∧ w.cell? ⟨g, 1, none⟩ = some u1 ∧ w.cell? ⟨g, 2, none⟩ = some u2 ∧ w.cell? ⟨g, 3, none⟩ = some u3 :=
  ⟨(box_cell h 0).1, (box_cell h 1).1, (box_cell h 2).1, (box_cell h 3).1⟩
theorem own_one' {w : World} {base : Nat} {x : Int} (hb : base ≤ w.heap.size) : V.Own 3 icod base (w.alloc (.cells #[.int .i64 x] 3)) (.slice (some ⟨w.heap.size, 0, none⟩) 1 1) [x] :=
  own_new (c := icod) w #[.int .i64 x] 3 base [x] 1 rfl hb (by unfold maxLen; omega) rfl
def rightB (F : Fl) : Bool := okT F.lost && F.links.all okT && F.on.all okT && F.off.all okT

set_option maxHeartbeats 4000000 in
set_option maxRecDepth 100000 in
theorem right_any (F : Fl) (a1 : Option Addr) (n1 q1 : Nat) (a2 : Option Addr) (n2 q2 : Nat) (a3 : Option Addr) (n3 q3 : Nat) (w : World) (hA : FlIn w F ⟨⟨a1, n1, q1⟩, ⟨a2, n2, q2⟩, ⟨a3, n3, q3⟩⟩) (hn : n1 ≤ 1000000 ∧ n2 ≤ 1000000 ∧ n3 ≤ 1000000) :
    Calls Try.prog 56 #[.agg #[.slice a1 n1 q1, .slice a2 n2 q2, .slice a3 n3 q3, .int .i64 F.lost]] w fun e w' => e = .returned (.bool (rightB F)) ∧ Below w.heap.size w w' := by
  have mixed : Try.prog.follows .mixedOrders = true := by kernel_rfl
  have HA := Lib.hid hA
  have g1 := hA.l.hlen
  have g2 := hA.n.hlen
  have g3 := hA.f.hlen
  obtain ⟨hn1, hn2, hn3⟩ := hn
  obtain ⟨xl, xo, xf, xx⟩ := F
  simp only [] at g1 g2 g3 ⊢
  have HXA := Lib.hid (box_new w (.cells #[.slice a1 n1 q1, .slice a2 n2 q2, .slice a3 n3 q3, .int .i64 xx] 78))
  have HBA : Hid (Below w.heap.size w (w.alloc (.cells #[.slice a1 n1 q1, .slice a2 n2 q2, .slice a3 n3 q3, .int .i64 xx] 78))) := (Below.refl _ _).alloc (Nat.le_refl _) _
  obtain ⟨rb, hrb⟩ : ∃ rb, rightB ⟨xl, xo, xf, xx⟩ = rb := ⟨_, rfl⟩
  have HRB : Hid (([xx] ++ xl ++ xo ++ xf).all okT = rb) := by
    show _ = _
    rw [← hrb]
    simp [rightB, List.all_append, Bool.and_assoc]
  rw [hrb]
  have HM1 : Hid (([xx] : List Int).length + n1 ≤ maxLen ∧ (([xx] : List Int).length + n1) * 8 ≤ 140737488355328) := by
    constructor
    · simp; unfold maxLen; omega
    · simp; omega
  have HM2 : Hid (([xx] ++ xl).length + n2 ≤ maxLen ∧ (([xx] ++ xl).length + n2) * 8 ≤ 140737488355328) := by
    constructor
    · simp; unfold maxLen; omega
    · simp; omega
  have HM3 : Hid (([xx] ++ xl ++ xo).length + n3 ≤ maxLen ∧ (([xx] ++ xl ++ xo).length + n3) * 8 ≤ 140737488355328) := by
    constructor
    · simp; unfold maxLen; omega
    · simp; omega
  obtain ⟨N, hN⟩ : ∃ N, ([xx] ++ xl ++ xo ++ xf).length = N := ⟨_, rfl⟩
  have HN := Lib.hid hN
  have hN1 : N ≤ 4000000 := by rw [← hN]; simp; omega
  clear hA hrb hN g1 g2 g3
  go_enter Try.func56, Try.ntmps56
  go_upto_region 1 with fail
  obtain ⟨W, hW⟩ : ∃ W, w.alloc (.cells #[.slice a1 n1 q1, .slice a2 n2 q2, .slice a3 n3 q3, .int .i64 xx] 78) = W := ⟨_, rfl⟩
  rw [hW] at HXA HBA ⊢
  clear hW
  obtain ⟨y0, y1, y2, y3⟩ := box4_cells HXA.out
  have hyl := box_lt HXA.out
  go_region_held3 (fun w' => w'.cell? ⟨w.heap.size, 0, none⟩ = some (.slice a1 n1 q1) ∧ w'.cell? ⟨w.heap.size, 1, none⟩ = some (.slice a2 n2 q2) ∧ w'.cell? ⟨w.heap.size, 2, none⟩ = some (.slice a3 n3 q3) ∧ w'.cell? ⟨w.heap.size, 3, none⟩ = some (.int .i64 xx))
    (first | (with_reducible exact box4_only HX7.out) | (with_reducible exact box4_only HX6.out) | (with_reducible exact box4_only HX5.out) | go_keep)
    (first
      | (refine step_app_any eltI rfl (.tmp 8) (.tmp 10) rfl (.slice (some ⟨W.heap.size, 0, none⟩) 1 1) [xx] (by simp [Act.eval]) ((own_one' (Nat.le_refl W.heap.size)).below (Below.drew (Below.refl _ _))) a1 n1 q1 xl (by simp [Act.eval]) ((HA.out.l.below HBA.out).below (Below.drew ((Below.refl _ _).alloc (Nat.le_refl _) _))) HM1.out.1 HM1.out.2 (by simp) ?_; intro v1 w5 ho1 hg1 hat1; have HO5 := Lib.hid ho1; have HB5 : Hid (Below W.heap.size W w5) := (Below.drew ((Below.refl _ _).alloc (Nat.le_refl _) _)).trans (own_below ((own_one' (Nat.le_refl W.heap.size)).below (Below.drew (Below.refl _ _))) hg1 (by simp)); have HX5 := Lib.hid (box_below HXA.out HB5.out); clear ho1 hg1 hat1)
      | (refine step_app_any eltI rfl (.tmp 11) (.tmp 13) rfl v1 ([xx] ++ xl) (by simp [Act.eval]) HO5.out a2 n2 q2 xo (by simp [Act.eval]) ((HA.out.n.below HBA.out).below HB5.out) HM2.out.1 HM2.out.2 HB5.out.size ?_; intro v2 w6 ho2 hg2 hat2; have HO6 := Lib.hid ho2; have HB6 : Hid (Below W.heap.size W w6) := HB5.out.trans (own_below HO5.out hg2 HB5.out.size); have HX6 := Lib.hid (box_below HXA.out HB6.out); clear ho2 hg2 hat2)
      | (refine step_app_any eltI rfl (.tmp 14) (.tmp 16) rfl v2 ([xx] ++ xl ++ xo) (by simp [Act.eval]) HO6.out a3 n3 q3 xf (by simp [Act.eval]) ((HA.out.f.below HBA.out).below HB6.out) HM3.out.1 HM3.out.2 HB6.out.size ?_; intro v3 w7 ho3 hg3 hat3; have HO7 := Lib.hid ho3; have HB7 : Hid (Below W.heap.size W w7) := HB6.out.trans (own_below HO6.out hg3 HB6.out.size); have HX7 := Lib.hid (box_below HXA.out HB7.out); clear ho3 hg3 hat3))
  obtain ⟨va, vc, hv, -, -⟩ := HO7.out.slice
  rw [HN.out] at hv
  subst hv
  have hsl := own_sl2 HO7.out
  have HS := Lib.hid hsl
  have HBW : Hid (Below w.heap.size w w7) := HBA.out.trans (HB7.out.mono HBA.out.size)
  clear hsl y0 y1 y2 y3 hyl HX5 HX6 HX7 HO5 HO6 HO7 HB5 HB6 HB7
  go_wp2_with fail
  go_loopw [20] (fun i wr => ∃ j : Nat, i = .int .i64 j ∧ j ≤ N ∧ Hid (Below w7.heap.size w7 wr) ∧ Hid ((([xx] ++ xl ++ xo ++ xf).take j).all okT = true)) (fun i _ => N - (intOf i).toNat)
  case atStart => exact ⟨0, by go_num, by omega, Below.refl _ _, rfl⟩
  case round =>
    obtain ⟨j, rfl, hj, HBr, HAL⟩ := hrel
    by_cases hlt : j < N
    · obtain ⟨b, off, x, e1, hbl, hx, p0⟩ := int_at (HS.out.below HBr.out) hlt
      have e1 : va = _ := e1
      subst e1
      have hji : (j : Int) < (N : Int) := by omega
      have HX := Lib.hid hx
      clear hx
      by_cases x1 : x < 0
      · have hz : false = rb := by rw [← HRB.out]; exact (all_not HX.out (decide_eq_false (by omega))).symm
        subst hz
        go_wp2_with fail
        go_ret
        exact ⟨rfl, HBW.out.trans (HBr.out.mono HBW.out.size)⟩
      · by_cases x2 : 2305843009213693952 < x
        · have hz : false = rb := by rw [← HRB.out]; exact (all_not HX.out (decide_eq_false (by omega))).symm
          subst hz
          go_wp2_with fail
          go_ret
          exact ⟨rfl, HBW.out.trans (HBr.out.mono HBW.out.size)⟩
        · have HK : Hid (okT x = true) := decide_eq_true (by omega)
          go_wp2_with fail
          go_roundw
          case rel => exact ⟨j + 1, by go_num, by omega, HBr.out, all_snoc HX.out HK.out HAL.out⟩
          case measure => simp [intOf]; omega
    · have hjn : N = j := by omega
      subst hjn
      have hz : true = rb := by
        rw [← HRB.out]
        have := HAL.out
        rw [List.take_of_length_le (by rw [HN.out]; exact Nat.le_refl _)] at this
        exact this.symm
      subst hz
      go_wp2_with fail
      go_ret
      exact ⟨rfl, HBW.out.trans (HBr.out.mono HBW.out.size)⟩
end Go.Proofs.Yteihffnmgacfpaa.Ne
