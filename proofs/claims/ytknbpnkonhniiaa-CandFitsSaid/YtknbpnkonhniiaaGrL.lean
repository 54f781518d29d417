/- Grids: rings of cells: walked. -/
import Derived.Test.YtknbpnkonhniiaaGrK
import Derived.Laws.MakeOwn
namespace Go.Proofs.Ytknbpnkonhniiaa.Ne
open Go.RowKit Go.V Go.Proofs

theorem eqB_eq : ∀ a b : List (Int × Int), eqB a b = true → a = b
  | [], [], _ => rfl
  | x :: xs, y :: ys, h => by
    unfold eqB at h
    simp only [Bool.and_eq_true, decide_eq_true_eq] at h
    obtain ⟨⟨h1, h2⟩, h3⟩ := h
    rw [eqB_eq xs ys h3]
    obtain ⟨x1, x2⟩ := x
    obtain ⟨y1, y2⟩ := y
    simp at h1 h2
    rw [h1, h2]
  | [], _ :: _, h => by cases h
  | _ :: _, [], h => by cases h
theorem ring_tab {r : Nat} (hr : r ≤ 6) : ringL r = tabL r := by
  have := List.all_eq_true.1 goodF_all r (List.mem_range.2 (by omega))
  rw [Bool.and_eq_true] at this
  exact eqB_eq _ _ this.2
theorem good_mul {r i : Nat} (hr : r ≤ 6) (hi : i < 4) : cMulBits (stepF i).1 (stepF i).2 0 oneF = some ((stepF (i + 1)).1, (stepF (i + 1)).2) := by
  have := List.all_eq_true.1 goodF_all r (List.mem_range.2 (by omega))
  rw [Bool.and_eq_true] at this
  have := List.all_eq_true.1 this.1 i (List.mem_range.2 hi)
  rw [Bool.and_eq_true] at this
  obtain ⟨v, hv⟩ := Option.isSome_iff_exists.1 this.1
  have e : stepF (i + 1) = v := by show (cMulBits (stepF i).1 (stepF i).2 0 oneF).getD (0, 0) = v; rw [hv]; rfl
  rw [hv, e]
theorem good_add {r i j : Nat} (hr : r ≤ 6) (hi : i < 4) (hj : j < 2 * r) :
    cSumBits .add .f64 (posF (sideF r i) (stepF i) j).1 (posF (sideF r i) (stepF i) j).2 (stepF i).1 (stepF i).2 = some ((posF (sideF r i) (stepF i) (j + 1)).1, (posF (sideF r i) (stepF i) (j + 1)).2) ∧
    floatToIntVal .f64 (posF (sideF r i) (stepF i) (j + 1)).1 .i64 = some (cellF (posF (sideF r i) (stepF i) (j + 1))).1 ∧ floatToIntVal .f64 (posF (sideF r i) (stepF i) (j + 1)).2 .i64 = some (cellF (posF (sideF r i) (stepF i) (j + 1))).2 := by
  have := List.all_eq_true.1 goodF_all r (List.mem_range.2 (by omega))
  rw [Bool.and_eq_true] at this
  have := List.all_eq_true.1 this.1 i (List.mem_range.2 hi)
  rw [Bool.and_eq_true] at this
  have := List.all_eq_true.1 this.2 j (List.mem_range.2 hj)
  rw [Bool.and_eq_true, Bool.and_eq_true] at this
  obtain ⟨⟨h1, h2⟩, h3⟩ := this
  obtain ⟨v, hv⟩ := Option.isSome_iff_exists.1 h1
  obtain ⟨x, hx⟩ := Option.isSome_iff_exists.1 h2
  obtain ⟨y, hy⟩ := Option.isSome_iff_exists.1 h3
  have e : posF (sideF r i) (stepF i) (j + 1) = v := by show (cSumBits .add .f64 (posF (sideF r i) (stepF i) j).1 (posF (sideF r i) (stepF i) j).2 (stepF i).1 (stepF i).2).getD (0, 0) = v; rw [hv]; rfl
  refine ⟨by rw [hv, e], ?_, ?_⟩
  · rw [hx]; unfold cellF; simp only [hx]; rfl
  · rw [hy]; unfold cellF; simp only [hy]; rfl

def ccod : Cod (Int × Int) := ⟨2, fun c => [.int .i64 c.1, .int .i64 c.2], fun _ => rfl, by simp [Value.oneCell']⟩
theorem infoC : (Try.prog.info? 67).map (fun i => (i.zero, i.size, i.bytes)) = some (some (.agg #[.int .i64 0, .int .i64 0]), 2, 16) := by kernel_rfl
theorem eltC : Elt Try.prog 92 67 ccod 16 := Elt.of Try.underlying92 infoC rfl (by decide)
theorem cell_at {w : World} {a : Option Addr} {n cap : Nat} {l : List (Int × Int)} (h : Sl ccod w a n cap l) {i : Nat} (hi : i < n) :
   ∃ b off r, a = some ⟨b, off, none⟩ ∧ b < w.heap.size ∧ l[i]? = some r ∧ w.cell? ⟨b, off + i * 2, none⟩ = some (.int .i64 r.1) ∧ w.cell? ⟨b, off + i * 2 + 1, none⟩ = some (.int .i64 r.2) := by
  obtain ⟨b, off, rfl, hb, r, hr, hc⟩ := h.some hi
  exact ⟨b, off, r, rfl, hb, hr, hc 0 _ rfl, hc 1 _ rfl⟩

set_option maxHeartbeats 1000000 in
theorem gcell_any (a b : Nat) (x y : Int) (w : World) (hx : floatToIntVal .f64 a .i64 = some x) (hy : floatToIntVal .f64 b .i64 = some y) :
    Calls Try.prog 52 #[.complex .f64 a b] w fun e w' => e = .returned (.agg #[.int .i64 x, .int .i64 y]) ∧ Below w.heap.size w w' := by
  have c1 : ∀ w, (convert 100 3 (.float .f64 a)).run Try.prog w = .ok (.int .i64 x) w := fun w => run_convert_float_int w _ _ _ _ _ _ (by rw [Try.underlying100]; rfl) Try.underlying3 hx
  have c2 : ∀ w, (convert 100 3 (.float .f64 b)).run Try.prog w = .ok (.int .i64 y) w := fun w => run_convert_float_int w _ _ _ _ _ _ (by rw [Try.underlying100]; rfl) Try.underlying3 hy
  go_enter Try.func52, Try.ntmps52
  go_wp2_with fail
  refine bodyPost_ret (results_cell_row rfl _ _ w.heap.size _ _ _ _ rfl (box_new w _) Try.underlying67 rfl (by kernel_rfl)) rfl ?_
  exact ⟨rfl, (Below.refl _ _).alloc (Nat.le_refl _) _⟩
end Go.Proofs.Ytknbpnkonhniiaa.Ne
