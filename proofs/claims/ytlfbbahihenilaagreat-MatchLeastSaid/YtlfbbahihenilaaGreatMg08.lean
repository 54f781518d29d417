/- Grids: geo.Ring: walked. -/
/- A row of one's own, as the shelf's sorts know it. -/
/- Grids: which one comes first; sorted: walked. -/
/- Grids: what is found, plain: each once, whichever way it was looked for. -/
/- Grids: the stops near a place in order, plain. -/
import Derived.Test.YtlfbbahihenilaaGreatMg07
import Derived.Test.YtlfbbahihenilaaGreatMg00
import Derived.Shelf.SlSortCmp.WholeK
import Derived.Test.YtlfbbahihenilaaGreatGrLay
import Derived.Shelf.SlSortCmp.NoneTotal
namespace Go.Proofs.YtlfbbahihenilaaGreat.Ne
open Go.RowKit Go.V Go.Proofs

def cval (a : Nat × Nat) : Value := .complex .f64 a.1 a.2
theorem sideL_snoc (r i j : Nat) : sideL r i (j + 1) = sideL r i j ++ [cellF (posF (sideF r i) (stepF i) (j + 1))] := by
  unfold sideL
  rw [List.range_succ, List.map_append]; rfl
def sidesL (r i : Nat) : List (Int × Int) := (List.range i).flatMap fun i => sideL r i (2 * r)
theorem sidesL_snoc (r i : Nat) : sidesL r (i + 1) = sidesL r i ++ sideL r i (2 * r) := by
  unfold sidesL
  rw [List.range_succ, List.flatMap_append]; simp
theorem sideL_len (r i j : Nat) : (sideL r i j).length = j := by unfold sideL; rw [List.length_map, List.length_range]
theorem sidesL_len (r i : Nat) : (sidesL r i).length = i * (2 * r) := by
  induction i with
  | zero => simp [sidesL]
  | succ i ih => rw [sidesL_snoc, List.length_append, ih, sideL_len, Nat.add_mul]; omega

set_option maxHeartbeats 4000000 in
set_option maxRecDepth 100000 in
theorem ring_any (r : Nat) (w : World) (hr : r ≤ 6) :
    Calls Tryz.prog 114 #[.int .i64 (r : Int)] w fun e w' => ∃ v, e = .returned (.tuple #[v, .int .i64 0]) ∧ V.Own 151 ccod w.heap.size w' v (tabL r) ∧ Below w.heap.size w w' := by
  have hrr := ring_tab hr
  rw [← hrr]
  clear hrr
  cases r with
  | zero =>
    go_enter Tryz.func114, Tryz.ntmps114
    go_wp2_with fail
    go_ret2
    exact ⟨_, rfl, own_new (c := ccod) w #[.int .i64 0, .int .i64 0] 151 w.heap.size [(0, 0)] 1 rfl (Nat.le_refl _) (by unfold maxLen; omega) rfl, (Below.refl _ _).alloc (Nat.le_refl _) _⟩
  | succ k =>
    obtain ⟨r, hrk⟩ : ∃ r, k + 1 = r := ⟨_, rfl⟩
    rw [hrk] at hr ⊢
    have hr1 : 0 < r := by omega
    clear hrk
    have hL : Hid (ringL r = sidesL r 4) := by show _ = _; unfold ringL; rw [if_neg (by omega)]; rfl
    obtain ⟨i0, q1, q2, q3, q4⟩ := info_parts infoC
    obtain ⟨w1, hmk, ho1, hg1⟩ := run_make_own (P := Tryz.prog) w w.heap.size 179 151 i0 _ 2 Tryz.underlying179 q1 q2 q3 .i64 .i64 (8 * r) (by rw [q4]; omega) (by unfold maxLen; omega) (Nat.le_refl _)
    have HO1 : Hid (V.Own 151 ccod w.heap.size w1 (.slice (some ⟨w.heap.size, 0, none⟩) 0 (8 * r)) []) := ho1
    have HB1 : Hid (Below w.heap.size w w1) := below_of_grb hg1 (fun _ h => nomatch h) (Nat.le_refl _)
    rw [show ((8 * r : Nat) : Int) = 8 * (r : Int) from by omega] at hmk
    clear ho1 hg1 q1 q2 q3 q4 i0
    have hw8 : IntKind.i64.wrap (8 * (r : Int)) = 8 * (r : Int) := by rw [IntKind.wrap_i64]; omega
    have hwn : IntKind.i64.wrap (-(r : Int)) = -(r : Int) := by rw [IntKind.wrap_i64]; omega
    have hw2 : IntKind.i64.wrap (2 * (r : Int)) = 2 * (r : Int) := by rw [IntKind.wrap_i64]; omega
    have hrz : ((r : Int) == 0) = false := by simp; omega
    have cf : ∀ (n : Int) (w : World), (convert 3 189 (.int .i64 n)).run Tryz.prog w = .ok (.float .f64 (floatOfInt .f64 n)) w := fun n w => run_convert_int_float w _ _ _ _ n (by rw [Tryz.underlying3]; rfl) Tryz.underlying189
    go_enter Tryz.func114, Tryz.ntmps114
    go_wp2_with fail
    go_loopw [4, 5, 6, 26] (fun v at' st i wr => ∃ (i' : Nat), i' ≤ 4 ∧ i = .int .i64 i' ∧ at' = cval (sideF r i') ∧ st = cval (stepF i') ∧ Hid (V.Own 151 ccod w.heap.size wr v (sidesL r i')) ∧ Hid (Below w.heap.size w wr)) (fun _ _ _ i _ => 4 - (intOf i).toNat)
    case atStart => exact ⟨0, by omega, rfl, rfl, rfl, HO1.out, HB1.out⟩
    case round =>
      obtain ⟨i, hi, rfl, rfl, rfl, ho, hb⟩ := hrel
      by_cases hlt : i < 4
      · have hltz : (i : Int) < 4 := by omega
        unfold cval
        go_wp2_with fail
        go_loopw [4, 5, 30] (fun v at' j wr => ∃ (j' : Nat), j' ≤ 2 * r ∧ j = .int .i64 j' ∧ at' = cval (posF (sideF r i) (stepF i) j') ∧ Hid (V.Own 151 ccod w.heap.size wr v (sidesL r i ++ sideL r i j')) ∧ Hid (Below w.heap.size w wr)) (fun _ _ j _ => 2 * r - (intOf j).toNat)
        case atStart => exact ⟨0, by omega, rfl, rfl, by show V.Own _ _ _ _ _ _; simpa [sideL] using ho.out, hb.out⟩
        case round =>
          obtain ⟨j, hj, rfl, rfl, ho, hb⟩ := hrel
          unfold cval
          by_cases hjt : j < 2 * r
          · have hjz : (j : Int) < 2 * (r : Int) := by omega
            obtain ⟨ga, gx, gy⟩ := good_add hr hlt hjt
            obtain ⟨p1, hp1⟩ : ∃ p, posF (sideF r i) (stepF i) (j + 1) = p := ⟨_, rfl⟩
            have HP1 := Lib.hid hp1
            rw [hp1] at ga gx gy
            have ha : ∀ w, (binOp .add 188 (.complex .f64 (posF (sideF r i) (stepF i) j).1 (posF (sideF r i) (stepF i) j).2) (.complex .f64 (stepF i).1 (stepF i).2)).run Tryz.prog w = .ok (.complex .f64 p1.1 p1.2) w := fun w => run_complex_sum w .add (.inl rfl) _ _ _ _ _ _ _ _ ga
            have HGX := Lib.hid gx
            have HGY := Lib.hid gy
            have HSN := Lib.hid (sideL_snoc r i j)
            obtain ⟨cp, hcp⟩ : ∃ c, cellF p1 = c := ⟨_, rfl⟩
            rw [hp1, hcp] at HSN
            rw [hcp] at HGX HGY
            have HM1 : Hid ((sidesL r i ++ sideL r i j).length + 1 ≤ maxLen) := by
              show _ ≤ _
              rw [List.length_append, sidesL_len, sideL_len]
              have : i * (2 * r) ≤ 4 * (2 * r) := Nat.mul_le_mul_right _ hi
              unfold maxLen; omega
            have HM2 : Hid (((sidesL r i ++ sideL r i j).length + 1) * 16 ≤ 140737488355328) := by
              show _ ≤ _
              rw [List.length_append, sidesL_len, sideL_len]
              have : i * (2 * r) ≤ 4 * (2 * r) := Nat.mul_le_mul_right _ hi
              omega
            have hbs : w.heap.size ≤ wr.heap.size := hb.out.size
            clear ga gx gy hp1 hcp
            go_wp2_with (first
              | (go_at_call 119; go_fit (gcell_any p1.1 p1.2 cp.1 cp.2 _ HGX.out HGY.out); rintro e w2 ⟨rfl, hb2⟩; have HB2 := Lib.hid hb2; have hs2 := hb2.size; clear hb2)
              | (at_builtin; go_loud (refine wpList_app eltC rfl (.tmp 35) (.tmp 38) rfl (base := w.heap.size) _ _ rfl ((ho.out.below HB2.out).alloc _) _ 1 1 [cp] rfl (sl_new (c := ccod) w2 #[.int .i64 cp.1, .int .i64 cp.2] 151 [cp] 1 rfl (by unfold maxLen; omega) rfl) HM1.out HM2.out (by simp; omega) ?_); intro v5 w5 ho5 hg5; have HO5 := Lib.hid ho5; have HG5 := Lib.hid hg5; clear ho5 hg5))
            go_roundw
            case rel =>
              refine ⟨j + 1, by omega, by go_num, by rw [HP1.out], ?_, ?_⟩
              · show V.Own _ _ _ _ _ _
                rw [HSN.out, ← List.append_assoc]; exact HO5.out
              · exact ((hb.out.trans (HB2.out.mono hb.out.size)).alloc (by omega) _).trans (Ir.own_below ((ho.out.below HB2.out).alloc _) HG5.out (by simp; omega))
            case measure => simp [intOf]; omega
          · have hj' : j = 2 * r := by omega
            have hjz : ¬ (j : Int) < 2 * (r : Int) := by omega
            have hml := good_mul hr hlt
            obtain ⟨s1, hs1⟩ : ∃ s, stepF (i + 1) = s := ⟨_, rfl⟩
            have HS1 := Lib.hid hs1
            rw [hs1] at hml
            have hm : ∀ w, (binOp .mul 188 (.complex .f64 (stepF i).1 (stepF i).2) (.complex .f64 0 4607182418800017408)).run Tryz.prog w = .ok (.complex .f64 s1.1 s1.2) w := fun w => run_complex_mul w _ _ _ _ _ _ _ hml
            have HJ := Lib.hid hj'
            clear hml hs1 hj'
            go_wp2_with fail
            go_roundw
            case rel =>
              refine ⟨i + 1, by omega, by go_num, by rw [HJ.out]; rfl, by rw [HS1.out], ?_, hb.out⟩
              show V.Own _ _ _ _ _ _
              rw [sidesL_snoc]
              have := ho.out
              rwa [HJ.out] at this
            case measure => simp [intOf]; omega
      · have hi' : i = 4 := by omega
        subst hi'
        unfold cval
        go_wp2_with fail
        go_ret2
        exact ⟨_, rfl, by rw [hL.out]; exact ho.out, hb.out⟩
end Go.Proofs.YtlfbbahihenilaaGreat.Ne

namespace Go.V
open Go.RowKit Go.Shelf Go.Proofs Go.Sort

theorem flat_getElem {α : Type} [Inhabited α] (c : Cod α) (xs : List α) (t : Nat) (h : t < xs.length * c.k) : (xs.flatMap c.enc)[t]? = some ((c.enc xs.toArray[t / c.k]!)[t % c.k]!) := by
  have hk : 0 < c.k := by rcases Nat.eq_zero_or_pos c.k with e | e; rw [e] at h; omega; exact e
  have h1 : t % c.k < c.k := Nat.mod_lt _ hk
  have h2 : t / c.k < xs.length := by rw [Nat.div_lt_iff_lt_mul hk]; exact h
  have := flat_get c xs (t / c.k) (t % c.k) h1
  rw [show t / c.k * c.k + t % c.k = t by rw [Nat.mul_comm]; exact Nat.div_add_mod t c.k] at this
  rw [this]
  have e1 : xs[t / c.k]? = some xs[t / c.k] := List.getElem?_eq_getElem h2
  rw [e1]
  have e2 : xs.toArray[t / c.k]! = xs[t / c.k] := by rw [getElem!_pos xs.toArray _ (by simpa using h2)]; simp
  rw [e2]
  show (c.enc xs[t / c.k])[t % c.k]? = _
  rw [List.getElem?_eq_getElem (by rw [c.len]; exact h1), getElem!_pos (c.enc xs[t / c.k]) (t % c.k) (by rw [c.len]; exact h1)]

theorem holdsK_of_cells {α : Type} [Inhabited α] (c : Cod α) {w : World} {b off : Nat} {xs : List α} (h : Cells w b off (xs.flatMap c.enc)) (hf : ∀ j, w.frozen? ⟨b, j, none⟩ = false) : HoldsK c.enc c.k w b off xs.toArray := by
  intro j hj
  have hj' : j < xs.length * c.k := by simpa [size_flatK] using hj
  refine ⟨?_, hf _⟩
  rw [get_flatK _ _ _ _ (by simpa using hj')]
  exact h j _ (flat_getElem c xs j hj')

theorem cells_of_holdsK {α : Type} [Inhabited α] (c : Cod α) {w : World} {b off : Nat} {d : Array α} (h : HoldsK c.enc c.k w b off d) : Cells w b off (d.toList.flatMap c.enc) := by
  intro j u hu
  have hj : j < d.toList.length * c.k := by rw [← flat_len c]; exact (List.getElem?_eq_some_iff.1 hu).1
  have h1 := (h j (by simpa [size_flatK] using hj)).1
  rw [get_flatK _ _ _ _ (by simpa using hj)] at h1
  rw [h1]
  have := flat_getElem c d.toList j hj
  rw [hu] at this
  simpa using this.symm

/-- What a sort leaves of the rest of memory. -/
theorem swk_below {α : Type} {enc : α → List Value} {k : Nat} {w w' : World} {blk off : Nat} {dk : Array α} [Inhabited α] (h : SWK enc k w blk off dk w') {B : Nat} (hB : B ≤ blk) (hw : B ≤ w.heap.size) : Below B w w' := by
  obtain ⟨m, os, rfl⟩ := h
  unfold sortWorldK putRowK putRow mapBlock Sort.ahead grow
  refine ⟨rfl, rfl, rfl, by simp, fun i hi => ?_⟩
  simp only []
  rw [Array.getElem?_append_left (by simpa using (show i < w.heap.size by omega)), Array.getElem?_modify, if_neg (by omega)]

theorem swk_own {α : Type} [Inhabited α] (c : Cod α) {w w' : World} {base n cap g : Nat} {e : TypeId} {xs : List α} {dk : Array α} (h : w.ownsRow base e c.k (.slice (some ⟨g, 0, none⟩) n cap) n (xs.flatMap c.enc)) (S : SWK c.enc c.k w g 0 dk w') (hs : dk.size = n) :
    w'.ownsRow base e c.k (.slice (some ⟨g, 0, none⟩) n cap) n (dk.toList.flatMap c.enc) := by
  obtain ⟨h1, h2⟩ := h
  rcases h2 with ⟨h2, _⟩ | ⟨g', cap', cur, h2, hb, hg, hn, hm, hz, ht⟩
  · cases h2
  · cases h2
    obtain ⟨m, os, rfl⟩ := S
    have hgs := (Array.getElem?_eq_some_iff.1 hg).1
    have hh : (sortWorldK c.enc c.k w g 0 m dk os).heap[g]? = some (.cells (putCells id 0 (flatK c.enc c.k dk) cur) e (0, 0)) := by
      unfold sortWorldK putRowK putRow mapBlock Sort.ahead grow
      simp only []
      rw [Array.getElem?_append_left (by simpa using hgs), Array.getElem?_modify, if_pos rfl, hg]
      rfl
    have hlen : (dk.toList.flatMap c.enc).length = n * c.k := by rw [flat_len, Array.length_toList, hs]
    refine ⟨hlen, .inr ⟨g, cap, _, rfl, hb, hh, hn, hm, by simp only [putCells, Array.size_mapIdx]; exact hz, ?_⟩⟩
    have hfz : ∀ j, w.frozen? ⟨g, j, none⟩ = false := fun j => by simp [World.frozen?, hg]
    apply List.ext_getElem?
    intro j
    by_cases hj : j < n * c.k
    · rw [List.getElem?_take_of_lt hj]
      have hsz : n * c.k ≤ cap * c.k := Nat.mul_le_mul_right _ hn
      have hu : (dk.toList.flatMap c.enc)[j]? = some ((c.enc dk.toList.toArray[j / c.k]!)[j % c.k]!) := flat_getElem c dk.toList j (by rw [Array.length_toList, hs]; exact hj)
      rw [hu]
      simp only [Array.getElem?_toList]
      have hjc : j < cur.size := by rw [hz]; omega
      simp only [putCells, Array.getElem?_mapIdx, Array.getElem?_eq_getElem hjc, Option.map_some]
      rw [if_pos (by rw [size_flatK, hs]; omega), Nat.sub_zero, get_flatK _ _ _ _ (by rw [hs]; exact hj)]
      rfl
    · rw [List.getElem?_eq_none (by simp; omega), List.getElem?_eq_none (by omega)]

end Go.V

namespace Go.Proofs.YtlfbbahihenilaaGreat.Ne
open Go.RowKit Go.V Go.Proofs Go.Sort Go.Shelf

def cmpF (x y : Fnd) : Int := if cmpI x.sq y.sq = 0 then cmpI x.stop y.stop else cmpI x.sq y.sq
def ltF (x y : Fnd) : Prop := x.sq < y.sq ∨ (x.sq = y.sq ∧ x.stop < y.stop)
set_option maxHeartbeats 1000000 in
set_option maxRecDepth 100000 in
theorem order_any (x y : Fnd) (w : World) :
    Calls Tryz.prog 107 #[x.val, y.val] w fun e w' => e = .returned (.int .i64 (cmpF x y)) ∧ ∃ q os, w' = grow (w.drewN q) os := by
  obtain ⟨c1, hc1⟩ : ∃ c, cmpI x.sq y.sq = c := ⟨_, rfl⟩
  obtain ⟨c2, hc2⟩ : ∃ c, cmpI x.stop y.stop = c := ⟨_, rfl⟩
  obtain ⟨r, hr⟩ : ∃ r, (if c1 = 0 then c2 else c1) = r := ⟨_, rfl⟩
  have HA : Hid (r = cmpF x y) := by
    show _ = _
    rw [← hr, ← hc1, ← hc2]; rfl
  have HC : Hid (cmpI x.sq y.sq = c1 ∧ cmpI x.stop y.stop = c2 ∧ (if c1 = 0 then c2 else c1) = r) := ⟨hc1, hc2, hr⟩
  clear hc1 hc2 hr
  have mixed : Tryz.prog.follows .mixedOrders = true := by kernel_rfl
  go_enter Tryz.func107, Tryz.ntmps107
  go_wp2_with fail
  have HX0 := Lib.hid (box_alloc (o := .cells #[.int .i64 y.stop, .int .i64 y.sq] 173) (box_new w (.cells #[.int .i64 x.stop, .int .i64 x.sq] 173)))
  have HY0 := Lib.hid (box_new (w.alloc (.cells #[.int .i64 x.stop, .int .i64 x.sq] 173)) (.cells #[.int .i64 y.stop, .int .i64 y.sq] 173))
  have hz : w.heap.size + 1 < ((w.alloc (.cells #[.int .i64 x.stop, .int .i64 x.sq] 173)).alloc (.cells #[.int .i64 y.stop, .int .i64 y.sq] 173)).heap.size := by simp
  obtain ⟨W, hW⟩ : ∃ W, (w.alloc (.cells #[.int .i64 x.stop, .int .i64 x.sq] 173)).alloc (.cells #[.int .i64 y.stop, .int .i64 y.sq] 173) = W := ⟨_, rfl⟩
  rw [World.size_alloc] at HY0
  rw [hW] at HX0 HY0 hz ⊢
  have HW : Hid (∀ o, (W.drew).alloc o = grow (w.drewN 1) #[.cells #[.int .i64 x.stop, .int .i64 x.sq] 173, .cells #[.int .i64 y.stop, .int .i64 y.sq] 173, o]) := by
    intro o
    rw [← hW, alloc_eq_grow, alloc_eq_grow, alloc_eq_grow, grow_grow]
    show grow (grow (w.drewN 1) _) _ = _
    rw [grow_grow]; rfl
  clear hW
  obtain ⟨u0, u1, -, -⟩ := box2_cells HX0.out
  obtain ⟨v0, v1, -, -⟩ := box2_cells HY0.out
  have hd : ∀ a, W.drew.cell? a = W.cell? a := fun a => rfl
  go_still_tail 10, (by kernel_rfl)
  still_call ((cmpI_any _ _ _).mono fun _ _ hh => ⟨hh.1, hh.2.symm⟩)
  repeat still_step
  still_call ((cmpI_any _ _ _).mono fun _ _ hh => ⟨hh.1, hh.2.symm⟩)
  repeat still_step
  refine wpStill_nil ?_
  change wpList _ _ _ _ _ W.drew
  rw [HC.out.1, HC.out.2.1]
  clear hd u0 u1 v0 v1
  generalize W.drew = w2 at HW ⊢
  go_wp2_with (go_at_call 95; refine (or_any c1 c2 _ _ (by simp [go_sem]) (by simp [go_sem])).mono ?_; rintro e w1 ⟨rfl, rfl⟩; rw [HC.out.2.2])
  go_ret
  exact ⟨ret_int HA.out, 1, _, HW.out _⟩

theorem cmpF_lt (x y : Fnd) : ltOf cmpF x y = true ↔ ltF x y := by
  unfold ltOf cmpF cmpI ltF
  rw [decide_eq_true_iff]
  (repeat' split) <;> omega
theorem swoF : SWO (ltOf cmpF) where
  irrefl x := by
    cases h : ltOf cmpF x x with
    | false => rfl
    | true => have := (cmpF_lt x x).1 h; unfold ltF at this; omega
  trans x y z h1 h2 := by
    have a := (cmpF_lt x y).1 h1
    have b := (cmpF_lt y z).1 h2
    refine (cmpF_lt x z).2 ?_
    unfold ltF at *; omega
  ntrans x y z h1 h2 := by
    cases h : ltOf cmpF x z with
    | false => rfl
    | true =>
      have a := (cmpF_lt x z).1 h
      have b : ¬ ltF x y := fun q => by rw [(cmpF_lt x y).2 q] at h1; cases h1
      have c : ¬ ltF y z := fun q => by rw [(cmpF_lt y z).2 q] at h2; cases h2
      unfold ltF at *; omega

theorem fsort_some (base g n cap : Nat) (xs : List Fnd) (w : World) (h : V.Own 173 Fnd.cod base w (.slice (some ⟨g, 0, none⟩) n cap) xs) (hn : n = xs.length) (hm : n ≤ 1000000) :
    Calls Tryz.prog 106 #[.slice (some ⟨g, 0, none⟩) n cap, .func (.func 107) #[] #[]] w fun e w' => e = .returned (.tuple #[]) ∧
      ∃ S : List Fnd, S.Perm xs ∧ (∀ (i j : Nat) (p q : Fnd), S[i]? = some p → S[j]? = some q → i < j → ¬ ltF q p) ∧ V.Own 173 Fnd.cod base w' (.slice (some ⟨g, 0, none⟩) n cap) S ∧ Below g w w' := by
  subst hn
  obtain ⟨a', cap', he, hsl, hd⟩ := h.slice
  cases he
  obtain ⟨g', cur, hg1, hg2, hg3⟩ := hd _ rfl
  cases hg1
  have hgs := (Array.getElem?_eq_some_iff.1 hg3).1
  have hfz : ∀ j, w.frozen? ⟨g, j, none⟩ = false := fun j => by simp [World.frozen?, hg3]
  have hH : HoldsK Fnd.cod.enc Fnd.cod.k w g 0 xs.toArray := holdsK_of_cells Fnd.cod (fun j u hu => by have := hsl.src j u hu; rwa [Go.V.add_addr] at this) hfz
  have hc := AnyQ.slices_SortFunc Gr.sortL 2 (fun _ => by kernel_rfl) (fun _ => by kernel_rfl) Fnd.cod.enc Fnd.cod.len Fnd.cod.one cmpF swoF 107 #[] g 0 cap xs.toArray w (enters_of Tryz.func107 (by kernel_rfl) rfl) (fun m os dk _ x y => order_any x y _) hH hgs (by simp; omega)
  refine hc.mono ?_
  rintro e w' ⟨rfl, d', m, os, hp, hs, rfl⟩
  have hsz : d'.size = xs.length := by rw [hp.1]; simp
  have hS : SWK Fnd.cod.enc Fnd.cod.k w g 0 d' (sortWorldK Fnd.cod.enc Fnd.cod.k w g 0 m d' os) := ⟨m, os, rfl⟩
  have hperm : d'.toList.Perm xs := by
    have := hp.2.2
    simp only [List.size_toArray] at this
    rw [show d'.extract 0 xs.length = d' by rw [← hsz]; exact Array.extract_size] at this
    simpa using this
  have hlen : d'.toList.length = xs.length := hperm.length_eq
  refine ⟨rfl, d'.toList, hperm, fun i j p q hi hj hij hlt => ?_, ?_, swk_below hS (Nat.le_refl _) (by omega)⟩
  · have h1 := (List.getElem?_eq_some_iff.1 hi).1
    have h2 := (List.getElem?_eq_some_iff.1 hj).1
    have hs' := hs i j (Nat.zero_le _) hij (by simp; omega)
    have e1 : d'[i]! = p := by
      rw [getElem!_pos d' i (by simpa using h1)]
      have := (List.getElem?_eq_some_iff.1 hi).2
      simpa using this
    have e2 : d'[j]! = q := by
      rw [getElem!_pos d' j (by simpa using h2)]
      have := (List.getElem?_eq_some_iff.1 hj).2
      simpa using this
    rw [e1, e2, (cmpF_lt q p).2 hlt] at hs'
    cases hs'
  · have := swk_own Fnd.cod (e := 173) h hS hsz
    unfold V.Own
    rw [hlen]
    exact this
theorem fsort_any (base : Nat) (a : Option Addr) (n cap : Nat) (xs : List Fnd) (w : World) (h : V.Own 173 Fnd.cod base w (.slice a n cap) xs) (hn : n = xs.length) (hm : n ≤ 1000000) (hb : base ≤ w.heap.size) :
    Calls Tryz.prog 106 #[.slice a n cap, .func (.func 107) #[] #[]] w fun e w' => e = .returned (.tuple #[]) ∧
      ∃ S : List Fnd, S.Perm xs ∧ (∀ (i j : Nat) (p q : Fnd), S[i]? = some p → S[j]? = some q → i < j → ¬ ltF q p) ∧ V.Own 173 Fnd.cod base w' (.slice a n cap) S ∧ Below base w w' := by
  cases a with
  | none =>
    obtain ⟨a', c', e, hs, -⟩ := h.slice
    cases e
    obtain ⟨h0, rfl⟩ := hs.hnil rfl
    have hx : xs = [] := List.eq_nil_of_length_eq_zero h0
    subst hx
    refine (AnyF.slices_SortFunc_none Gr.sortL none 0 _ w).mono ?_
    rintro e w' ⟨rfl, rfl⟩
    exact ⟨rfl, [], List.Perm.refl _, fun i j p q hi => by simp at hi, h, Below.refl _ _⟩
  | some d =>
    obtain ⟨a', c', e, hs, hd⟩ := h.slice
    cases e
    obtain ⟨g, cur, rfl, hg, -⟩ := hd d rfl
    exact (fsort_some base g _ cap xs w h rfl hm).mono fun e w' ⟨h1, S, h2, h3, h4, h5⟩ => ⟨h1, S, h2, h3, h4, h5.mono hg⟩
end Go.Proofs.YtlfbbahihenilaaGreat.Ne

namespace Go.Proofs.YtlfbbahihenilaaGreat.Ne
open Go.RowKit Go.V Go.Proofs

/-- Each stop that is near enough, once. -/
def GoodL (p : Stp) (S : List Stp) (m : Int) (L : List Fnd) : Prop := L.Nodup ∧ ∀ f, f ∈ L ↔ ∃ k : Nat, k < S.length ∧ f = fnd p S (k : Int) ∧ f.sq ≤ m
theorem mem_amE {p : Stp} {S : List Stp} {m : Int} {l : List Int} {f : Fnd} : f ∈ amE p S m l ↔ ∃ i ∈ l, f = fnd p S i ∧ f.sq ≤ m := by
  unfold amE
  rw [List.mem_filter, List.mem_map, decide_eq_true_iff]
  constructor
  · rintro ⟨⟨i, hi, rfl⟩, h⟩; exact ⟨i, hi, rfl, h⟩
  · rintro ⟨i, hi, rfl, h⟩; exact ⟨⟨i, hi, rfl⟩, h⟩
theorem amE_nodup {p : Stp} {S : List Stp} {m : Int} {l : List Int} (h : l.Nodup) : (amE p S m l).Nodup := by
  unfold amE
  refine List.Nodup.sublist List.filter_sublist ?_
  unfold List.Nodup
  rw [List.pairwise_map]
  exact List.Pairwise.imp (fun {a b} hab e => hab (congrArg Fnd.stop e)) h
theorem good_of {p : Stp} {S : List Stp} {m : Int} {l : List Int} (hl : l.Nodup) (h1 : ∀ i ∈ l, ∃ j : Nat, i = (j : Int) ∧ j < S.length) (h2 : ∀ k : Nat, k < S.length → (fnd p S (k : Int)).sq ≤ m → (k : Int) ∈ l) : GoodL p S m (amE p S m l) := by
  refine ⟨amE_nodup hl, fun f => ?_⟩
  rw [mem_amE]
  constructor
  · rintro ⟨i, hi, rfl, h⟩
    obtain ⟨j, rfl, hj⟩ := h1 i hi
    exact ⟨j, hj, rfl, h⟩
  · rintro ⟨k, hk, rfl, h⟩
    exact ⟨k, h2 k hk h, rfl, h⟩
def upL (n : Nat) : List Int := (List.range n).map fun i : Nat => (i : Int)
theorem good_all (p : Stp) (S : List Stp) (m : Int) : GoodL p S m (amE p S m (upL S.length)) := by
  refine good_of ?_ ?_ ?_
  · unfold upL List.Nodup
    rw [List.pairwise_map]
    have h : List.Pairwise (fun a b : Nat => a ≠ b) (List.range S.length) := List.nodup_range
    refine h.imp ?_
    intro a b hab e
    exact hab (by omega)
  · intro i hi
    obtain ⟨j, hj, rfl⟩ := List.mem_map.1 hi
    exact ⟨j, rfl, List.mem_range.1 hj⟩
  · intro k hk _
    exact List.mem_map.2 ⟨k, List.mem_range.2 hk, rfl⟩

/-! ### by cells -/
def cellsL (S : List Stp) (z X Y : Int) (cs : List (Int × Int)) : List Int := cs.flatMap fun c => idxs S z (X + c.1) (Y + c.2)
theorem zipIdx_pair (S : List Stp) : S.zipIdx.Pairwise fun a b => a.2 < b.2 := by
  have : (S.zipIdx.map Prod.snd).Pairwise (· < ·) := by
    rw [List.zipIdx_map_snd]
    exact List.pairwise_lt_range'
  rwa [List.pairwise_map] at this
theorem idxs_nodup (S : List Stp) (z X Y : Int) : (idxs S z X Y).Nodup := by
  unfold idxs List.Nodup
  rw [List.pairwise_map]
  exact List.Pairwise.sublist List.filter_sublist ((zipIdx_pair S).imp fun {a b} hab e => by omega)
theorem nodupB_eq : ∀ l : List (Int × Int), nodupB l = true → l.Nodup
  | [], _ => List.nodup_nil
  | x :: xs, h => by
    unfold nodupB at h
    rw [Bool.and_eq_true, List.all_eq_true] at h
    rw [List.nodup_cons]
    refine ⟨fun hx => ?_, nodupB_eq xs h.2⟩
    have := h.1 x hx
    simp at this
theorem square_nodup {R : Nat} (hR : R ≤ 6) : (squareL R).Nodup := nodupB_eq _ (List.all_eq_true.1 nodupB_all R (List.mem_range.2 (by omega)))
theorem square_mem {R : Nat} (hR : R ≤ 6) {a b : Int} (ha : -(R : Int) ≤ a ∧ a ≤ R) (hb : -(R : Int) ≤ b ∧ b ≤ R) : (a, b) ∈ squareL R := by
  have := List.all_eq_true.1 (List.all_eq_true.1 coverB_all R (List.mem_range.2 (by omega))) (a, b) (by
    unfold gridB
    rw [List.mem_flatMap]
    refine ⟨(a + R).toNat, List.mem_range.2 (by omega), List.mem_map.2 ⟨(b + R).toNat, List.mem_range.2 (by omega), ?_⟩⟩
    rw [Int.toNat_of_nonneg (by omega), Int.toNat_of_nonneg (by omega)]
    simp)
  obtain ⟨⟨y1, y2⟩, hy, h⟩ := List.any_eq_true.1 this
  simp at h
  obtain ⟨rfl, rfl⟩ := h
  exact hy
theorem square_small {R : Nat} (hR : R ≤ 6) {c : Int × Int} (h : c ∈ squareL R) : -6 ≤ c.1 ∧ c.1 ≤ 6 ∧ -6 ≤ c.2 ∧ c.2 ≤ 6 := by
  have := List.all_eq_true.1 (List.all_eq_true.1 smallB_all R (List.mem_range.2 (by omega))) c h
  simp at this
  omega
theorem cellsL_nodup {S : List Stp} {z X Y : Int} {cs : List (Int × Int)} (h : cs.Nodup) : (cellsL S z X Y cs).Nodup := by
  unfold cellsL List.Nodup
  rw [List.pairwise_flatMap]
  refine ⟨fun c _ => idxs_nodup S z _ _, List.Pairwise.imp (fun {a b} hab x hx y hy e => ?_) h⟩
  subst e
  obtain ⟨k, s, rfl, h1, h2, h3⟩ := mem_idxs.1 hx
  obtain ⟨k', s', e, h1', h2', h3'⟩ := mem_idxs.1 hy
  have : k = k' := by omega
  subst this
  rw [h1] at h1'
  cases h1'
  exact hab (Prod.ext (by omega) (by omega))
theorem abs_le_of_sq {a b : Int} {r : Int} (hr : 0 ≤ r) (hb : 0 ≤ b) (h : a * a + b ≤ r * r) : -r ≤ a ∧ a ≤ r := by
  constructor
  · rcases Int.lt_or_le a (-r) with q | q
    · have h1 : r + 1 ≤ -a := by omega
      have h2 := Int.mul_le_mul h1 h1 (by omega) (by omega)
      rw [Int.neg_mul_neg, Int.add_mul, Int.mul_add] at h2
      omega
    · exact q
  · rcases Int.lt_or_le r a with q | q
    · have h1 : r + 1 ≤ a := by omega
      have h2 := Int.mul_le_mul h1 h1 (by omega) (by omega)
      rw [Int.add_mul, Int.mul_add] at h2
      omega
    · exact q
theorem div_near {x y z r : Int} (hz : 1 ≤ z) (h : -r ≤ x - y ∧ x - y ≤ r) : -(r / z + 1) ≤ y / z - x / z ∧ y / z - x / z ≤ r / z + 1 := by
  have hz0 : 0 < z := by omega
  have a1 := Int.mul_ediv_add_emod x z
  have a2 := Int.emod_nonneg x (show z ≠ 0 by omega)
  have a3 := Int.emod_lt_of_pos x hz0
  have b1 := Int.mul_ediv_add_emod y z
  have b2 := Int.emod_nonneg y (show z ≠ 0 by omega)
  have b3 := Int.emod_lt_of_pos y hz0
  have c1 := Int.mul_ediv_add_emod r z
  have c2 := Int.emod_nonneg r (show z ≠ 0 by omega)
  have c3 := Int.emod_lt_of_pos r hz0
  generalize x / z = X at *
  generalize y / z = Y at *
  generalize r / z = R at *
  constructor
  · rcases Int.lt_or_le (Y - X) (-(R + 1)) with q | q
    · have : z * (Y - X) ≤ z * (-(R + 2)) := Int.mul_le_mul_of_nonneg_left (by omega) (by omega)
      rw [Int.mul_sub, Int.mul_neg, Int.mul_add] at this
      omega
    · omega
  · rcases Int.lt_or_le (R + 1) (Y - X) with q | q
    · have : z * (R + 2) ≤ z * (Y - X) := Int.mul_le_mul_of_nonneg_left (by omega) (by omega)
      rw [Int.mul_sub, Int.mul_add] at this
      omega
    · omega
theorem good_cells {p : Stp} {S : List Stp} {z reach : Int} {R : Nat} (hp : stpB p = true) (hS : ∀ s ∈ S, stpB s = true) (hz : 1 ≤ z) (hr : 0 ≤ reach) (hR : (R : Int) = reach / z + 1) (h6 : R ≤ 6) :
    GoodL p S (reach * reach) (amE p S (reach * reach) (cellsL S z (p.x / z) (p.y / z) (squareL R))) := by
  refine good_of (cellsL_nodup (square_nodup h6)) ?_ ?_
  · intro i hi
    obtain ⟨c, -, hc⟩ := List.mem_flatMap.1 hi
    obtain ⟨k, s, rfl, h1, -⟩ := mem_idxs.1 hc
    exact ⟨k, rfl, (List.getElem?_eq_some_iff.1 h1).1⟩
  · intro k hk hsq
    have hs : S[k]? = some S[k] := List.getElem?_eq_getElem hk
    have e : fnd p S (k : Int) = ⟨k, sqG p S[k]⟩ := by
      unfold fnd
      rw [Int.toNat_natCast, List.getD_eq_getElem?_getD, hs]; rfl
    rw [e] at hsq
    obtain ⟨s, hse⟩ : ∃ s, S[k] = s := ⟨_, rfl⟩
    rw [hse] at hs hsq
    have hsb := hS s (List.mem_of_getElem? hs)
    have hsq : (p.x - s.x) * (p.x - s.x) + (p.y - s.y) * (p.y - s.y) ≤ reach * reach := by
      have : sqG p s ≤ reach * reach := hsq
      unfold sqG at this
      rwa [if_pos ⟨hp, hsb⟩] at this
    have nn : ∀ a : Int, 0 ≤ a * a := fun a => by
      rcases Int.le_total 0 a with h | h
      · exact Int.mul_nonneg h h
      · have := Int.mul_nonneg (show 0 ≤ -a by omega) (show 0 ≤ -a by omega)
        rwa [Int.neg_mul_neg] at this
    have hx := div_near hz (abs_le_of_sq hr (nn (p.y - s.y)) hsq)
    have hy := div_near hz (abs_le_of_sq hr (nn (p.x - s.x)) (by rw [Int.add_comm]; exact hsq))
    unfold cellsL
    rw [List.mem_flatMap]
    refine ⟨(s.x / z - p.x / z, s.y / z - p.y / z), square_mem h6 (by omega) (by omega), ?_⟩
    rw [mem_idxs]
    exact ⟨k, s, rfl, hs, by show s.x / z = p.x / z + (s.x / z - p.x / z); omega, by show s.y / z = p.y / z + (s.y / z - p.y / z); omega⟩
end Go.Proofs.YtlfbbahihenilaaGreat.Ne

namespace Go.Proofs.YtlfbbahihenilaaGreat.Ne
open Go.RowKit Go.V Go.Proofs

def leF (a b : Fnd) : Bool := decide (a.sq < b.sq ∨ (a.sq = b.sq ∧ a.stop ≤ b.stop))
/-- The stops near a place, in the document's order. -/
def nearF (p : Stp) (S : List Stp) (m : Int) : List Fnd := (amE p S m (upL S.length)).mergeSort leF
theorem nearF_perm (p : Stp) (S : List Stp) (m : Int) : (nearF p S m).Perm (amE p S m (upL S.length)) := List.mergeSort_perm _ _
theorem goodL_perm {p : Stp} {S : List Stp} {m : Int} {L T : List Fnd} (h : GoodL p S m L) (hp : T.Perm L) : GoodL p S m T :=
  ⟨hp.nodup_iff.2 h.1, fun f => by rw [hp.mem_iff]; exact h.2 f⟩
theorem near_good (p : Stp) (S : List Stp) (m : Int) : GoodL p S m (nearF p S m) := goodL_perm (good_all p S m) (nearF_perm p S m)
theorem lt_of_le_ne {a b : Fnd} (h : ¬ ltF b a) (hne : a ≠ b) : ltF a b := by
  unfold ltF at *
  have : ¬ (a.sq = b.sq ∧ a.stop = b.stop) := fun e => hne (by cases a; cases b; simp at e; rw [e.1, e.2])
  omega
theorem near_sorted (p : Stp) (S : List Stp) (m : Int) : (nearF p S m).Pairwise ltF := by
  have h := List.pairwise_mergeSort (le := leF) (fun a b c h1 h2 => by
    unfold leF at *
    simp only [decide_eq_true_eq] at *
    omega) (fun a b => by
    unfold leF
    rw [Bool.or_eq_true, decide_eq_true_iff, decide_eq_true_iff]
    omega) (amE p S m (upL S.length))
  have hn : (nearF p S m).Pairwise (fun a b => a ≠ b) := (near_good p S m).1
  refine List.Pairwise.imp₂ ?_ h hn
  intro a b h1 h2
  refine lt_of_le_ne (fun q => ?_) h2
  have h1 := of_decide_eq_true h1
  unfold ltF at q
  omega
theorem ltF_irr {a : Fnd} (h : ltF a a) : False := by unfold ltF at h; omega
theorem ltF_asym {a b : Fnd} (h : ltF a b) (h' : ltF b a) : False := by unfold ltF at *; omega
theorem srtF_eq : ∀ {A B : List Fnd}, A.Pairwise ltF → B.Pairwise ltF → (∀ x, x ∈ A ↔ x ∈ B) → A = B
  | [], [], _, _, _ => rfl
  | [], y :: B, _, _, h => by have := (h y).2 List.mem_cons_self; simp at this
  | x :: A, [], _, _, h => by have := (h x).1 List.mem_cons_self; simp at this
  | x :: A, y :: B, hA, hB, h => by
    obtain ⟨a1, a2⟩ := List.pairwise_cons.1 hA
    obtain ⟨b1, b2⟩ := List.pairwise_cons.1 hB
    have e : x = y := by
      rcases List.mem_cons.1 ((h x).1 List.mem_cons_self) with e | hx
      · exact e
      · rcases List.mem_cons.1 ((h y).2 List.mem_cons_self) with e | hy
        · exact e.symm
        · exact (ltF_asym (a1 y hy) (b1 x hx)).elim
    subst e
    congr 1
    refine srtF_eq a2 b2 fun z => ⟨fun hz => ?_, fun hz => ?_⟩
    · rcases List.mem_cons.1 ((h z).1 (List.mem_cons_of_mem _ hz)) with e | hz'
      · subst e; exact (ltF_irr (a1 z hz)).elim
      · exact hz'
    · rcases List.mem_cons.1 ((h z).2 (List.mem_cons_of_mem _ hz)) with e | hz'
      · subst e; exact (ltF_irr (b1 z hz)).elim
      · exact hz'
theorem near_uniq {p : Stp} {S : List Stp} {m : Int} {T : List Fnd} (h : GoodL p S m T) (hs : T.Pairwise ltF) : T = nearF p S m :=
  srtF_eq hs (near_sorted p S m) fun f => by rw [h.2 f, (near_good p S m).2 f]
theorem sorted_is {p : Stp} {S : List Stp} {m : Int} {L T : List Fnd} (h : GoodL p S m L) (hp : T.Perm L) (ho : ∀ (i j : Nat) (x y : Fnd), T[i]? = some x → T[j]? = some y → i < j → ¬ ltF y x) : T = nearF p S m := by
  have hg := goodL_perm h hp
  refine near_uniq hg ?_
  rw [List.pairwise_iff_getElem]
  intro i j hi hj hij
  refine lt_of_le_ne (ho i j _ _ (List.getElem?_eq_getElem hi) (List.getElem?_eq_getElem hj) hij) ?_
  have := List.pairwise_iff_getElem.1 hg.1 i j hi hj hij
  exact this
theorem near_len (p : Stp) (S : List Stp) (m : Int) : (nearF p S m).length ≤ S.length := by
  rw [(nearF_perm p S m).length_eq]
  have := amE_len p S m (upL S.length)
  simpa [upL] using this
/-- Their numbers; the first ones alone. -/
def nearL (p : Stp) (S : List Stp) (m : Int) (k : Nat) : List Int := ((nearF p S m).take k).map Fnd.stop
end Go.Proofs.YtlfbbahihenilaaGreat.Ne
