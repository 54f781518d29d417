/- Grids: geo.Ring: walked. -/
import Derived.Test.YtknbpnkonhniiaaGrL
namespace Go.Proofs.Ytknbpnkonhniiaa.Ne
open Go.RowKit Go.V Go.Proofs

def cval (a : Nat × Nat) : Value := .complex .f64 a.1 a.2
theorem sideL_snoc (r i j : Nat) : sideL r i (j + 1) = sideL r i j ++ [cellF (posF (sideF r i) (stepF i) (j + 1))] := by
  unfold sideL
  rw [List.range_succ, List.map_append]; rfl
def sidesL (r i : Nat) : List (Int × Int) := (List.range i).flatMap fun i => sideL r i (2 * r)
theorem sidesL_snoc (r i : Nat) : sidesL r (i + 1) = sidesL r i ++ sideL r i (2 * r) := by
  unfold sidesL
  rw [List.range_succ, List.flatMap_append]; simp
theorem sideL_len (r i j : Nat) : (sideL r i j).length = j := by unfold sideL; rw [List.length_map, List.length_range]
theorem sidesL_len (r i : Nat) : (sidesL r i).length = i * (2 * r) := by
  induction i with
  | zero => simp [sidesL]
  | succ i ih => rw [sidesL_snoc, List.length_append, ih, sideL_len, Nat.add_mul]; omega

set_option maxHeartbeats 4000000 in
set_option maxRecDepth 100000 in
theorem ring_any (r : Nat) (w : World) (hr : r ≤ 6) :
    Calls Try.prog 47 #[.int .i64 (r : Int)] w fun e w' => ∃ v, e = .returned (.tuple #[v, .int .i64 0]) ∧ V.Own 67 ccod w.heap.size w' v (tabL r) ∧ Below w.heap.size w w' := by
  have hrr := ring_tab hr
  rw [← hrr]
  clear hrr
  cases r with
  | zero =>
    go_enter Try.func47, Try.ntmps47
    go_wp2_with fail
    go_ret2
    exact ⟨_, rfl, own_new (c := ccod) w #[.int .i64 0, .int .i64 0] 67 w.heap.size [(0, 0)] 1 rfl (Nat.le_refl _) (by unfold maxLen; omega) rfl, (Below.refl _ _).alloc (Nat.le_refl _) _⟩
  | succ k =>
    obtain ⟨r, hrk⟩ : ∃ r, k + 1 = r := ⟨_, rfl⟩
    rw [hrk] at hr ⊢
    have hr1 : 0 < r := by omega
    clear hrk
    have hL : Hid (ringL r = sidesL r 4) := by show _ = _; unfold ringL; rw [if_neg (by omega)]; rfl
    obtain ⟨i0, q1, q2, q3, q4⟩ := info_parts infoC
    obtain ⟨w1, hmk, ho1, hg1⟩ := run_make_own (P := Try.prog) w w.heap.size 92 67 i0 _ 2 Try.underlying92 q1 q2 q3 .i64 .i64 (8 * r) (by rw [q4]; omega) (by unfold maxLen; omega) (Nat.le_refl _)
    have HO1 : Hid (V.Own 67 ccod w.heap.size w1 (.slice (some ⟨w.heap.size, 0, none⟩) 0 (8 * r)) []) := ho1
    have HB1 : Hid (Below w.heap.size w w1) := below_of_grb hg1 (fun _ h => nomatch h) (Nat.le_refl _)
    rw [show ((8 * r : Nat) : Int) = 8 * (r : Int) from by omega] at hmk
    clear ho1 hg1 q1 q2 q3 q4 i0
    have hw8 : IntKind.i64.wrap (8 * (r : Int)) = 8 * (r : Int) := by rw [IntKind.wrap_i64]; omega
    have hwn : IntKind.i64.wrap (-(r : Int)) = -(r : Int) := by rw [IntKind.wrap_i64]; omega
    have hw2 : IntKind.i64.wrap (2 * (r : Int)) = 2 * (r : Int) := by rw [IntKind.wrap_i64]; omega
    have hrz : ((r : Int) == 0) = false := by simp; omega
    have cf : ∀ (n : Int) (w : World), (convert 3 100 (.int .i64 n)).run Try.prog w = .ok (.float .f64 (floatOfInt .f64 n)) w := fun n w => run_convert_int_float w _ _ _ _ n (by rw [Try.underlying3]; rfl) Try.underlying100
    go_enter Try.func47, Try.ntmps47
    go_wp2_with fail
    go_loopw [4, 5, 6, 26] (fun v at' st i wr => ∃ (i' : Nat), i' ≤ 4 ∧ i = .int .i64 i' ∧ at' = cval (sideF r i') ∧ st = cval (stepF i') ∧ Hid (V.Own 67 ccod w.heap.size wr v (sidesL r i')) ∧ Hid (Below w.heap.size w wr)) (fun _ _ _ i _ => 4 - (intOf i).toNat)
    case atStart => exact ⟨0, by omega, rfl, rfl, rfl, HO1.out, HB1.out⟩
    case round =>
      obtain ⟨i, hi, rfl, rfl, rfl, ho, hb⟩ := hrel
      by_cases hlt : i < 4
      · have hltz : (i : Int) < 4 := by omega
        unfold cval
        go_wp2_with fail
        go_loopw [4, 5, 30] (fun v at' j wr => ∃ (j' : Nat), j' ≤ 2 * r ∧ j = .int .i64 j' ∧ at' = cval (posF (sideF r i) (stepF i) j') ∧ Hid (V.Own 67 ccod w.heap.size wr v (sidesL r i ++ sideL r i j')) ∧ Hid (Below w.heap.size w wr)) (fun _ _ j _ => 2 * r - (intOf j).toNat)
        case atStart => exact ⟨0, by omega, rfl, rfl, by show V.Own _ _ _ _ _ _; simpa [sideL] using ho.out, hb.out⟩
        case round =>
          obtain ⟨j, hj, rfl, rfl, ho, hb⟩ := hrel
          unfold cval
          by_cases hjt : j < 2 * r
          · have hjz : (j : Int) < 2 * (r : Int) := by omega
            obtain ⟨ga, gx, gy⟩ := good_add hr hlt hjt
            obtain ⟨p1, hp1⟩ : ∃ p, posF (sideF r i) (stepF i) (j + 1) = p := ⟨_, rfl⟩
            have HP1 := Lib.hid hp1
            rw [hp1] at ga gx gy
            have ha : ∀ w, (binOp .add 99 (.complex .f64 (posF (sideF r i) (stepF i) j).1 (posF (sideF r i) (stepF i) j).2) (.complex .f64 (stepF i).1 (stepF i).2)).run Try.prog w = .ok (.complex .f64 p1.1 p1.2) w := fun w => run_complex_sum w .add (.inl rfl) _ _ _ _ _ _ _ _ ga
            have HGX := Lib.hid gx
            have HGY := Lib.hid gy
            have HSN := Lib.hid (sideL_snoc r i j)
            obtain ⟨cp, hcp⟩ : ∃ c, cellF p1 = c := ⟨_, rfl⟩
            rw [hp1, hcp] at HSN
            rw [hcp] at HGX HGY
            have HM1 : Hid ((sidesL r i ++ sideL r i j).length + 1 ≤ maxLen) := by
              show _ ≤ _
              rw [List.length_append, sidesL_len, sideL_len]
              have : i * (2 * r) ≤ 4 * (2 * r) := Nat.mul_le_mul_right _ hi
              unfold maxLen; omega
            have HM2 : Hid (((sidesL r i ++ sideL r i j).length + 1) * 16 ≤ 140737488355328) := by
              show _ ≤ _
              rw [List.length_append, sidesL_len, sideL_len]
              have : i * (2 * r) ≤ 4 * (2 * r) := Nat.mul_le_mul_right _ hi
              omega
            have hbs : w.heap.size ≤ wr.heap.size := hb.out.size
            clear ga gx gy hp1 hcp
            go_wp2_with (first
              | (go_at_call 52; go_fit (gcell_any p1.1 p1.2 cp.1 cp.2 _ HGX.out HGY.out); rintro e w2 ⟨rfl, hb2⟩; have HB2 := Lib.hid hb2; have hs2 := hb2.size; clear hb2)
              | (at_builtin; go_loud (refine wpList_app eltC rfl (.tmp 35) (.tmp 38) rfl (base := w.heap.size) _ _ rfl ((ho.out.below HB2.out).alloc _) _ 1 1 [cp] rfl (sl_new (c := ccod) w2 #[.int .i64 cp.1, .int .i64 cp.2] 67 [cp] 1 rfl (by unfold maxLen; omega) rfl) HM1.out HM2.out (by simp; omega) ?_); intro v5 w5 ho5 hg5; have HO5 := Lib.hid ho5; have HG5 := Lib.hid hg5; clear ho5 hg5))
            go_roundw
            case rel =>
              refine ⟨j + 1, by omega, by go_num, by rw [HP1.out], ?_, ?_⟩
              · show V.Own _ _ _ _ _ _
                rw [HSN.out, ← List.append_assoc]; exact HO5.out
              · exact ((hb.out.trans (HB2.out.mono hb.out.size)).alloc (by omega) _).trans (Ir.own_below ((ho.out.below HB2.out).alloc _) HG5.out (by simp; omega))
            case measure => simp [intOf]; omega
          · have hj' : j = 2 * r := by omega
            have hjz : ¬ (j : Int) < 2 * (r : Int) := by omega
            have hml := good_mul hr hlt
            obtain ⟨s1, hs1⟩ : ∃ s, stepF (i + 1) = s := ⟨_, rfl⟩
            have HS1 := Lib.hid hs1
            rw [hs1] at hml
            have hm : ∀ w, (binOp .mul 99 (.complex .f64 (stepF i).1 (stepF i).2) (.complex .f64 0 4607182418800017408)).run Try.prog w = .ok (.complex .f64 s1.1 s1.2) w := fun w => run_complex_mul w _ _ _ _ _ _ _ hml
            have HJ := Lib.hid hj'
            clear hml hs1 hj'
            go_wp2_with fail
            go_roundw
            case rel =>
              refine ⟨i + 1, by omega, by go_num, by rw [HJ.out]; rfl, by rw [HS1.out], ?_, hb.out⟩
              show V.Own _ _ _ _ _ _
              rw [sidesL_snoc]
              have := ho.out
              rwa [HJ.out] at this
            case measure => simp [intOf]; omega
      · have hi' : i = 4 := by omega
        subst hi'
        unfold cval
        go_wp2_with fail
        go_ret2
        exact ⟨_, rfl, by rw [hL.out]; exact ho.out, hb.out⟩
end Go.Proofs.Ytknbpnkonhniiaa.Ne
