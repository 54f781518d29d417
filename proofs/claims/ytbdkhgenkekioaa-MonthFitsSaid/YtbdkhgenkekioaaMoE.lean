/- Months: where one is, walked. -/
import Derived.Test.YtbdkhgenkekioaaMoB
import Derived.BigQuiet
import Derived.Deep.QuietTactic
import Derived.Lib.QuietBelow
namespace Go.Proofs.Ytbdkhgenkekioaa
open Go.RowKit Go.V Go.Sort Go.Shelf Go.Proofs Go.Maps
open Go.Proofs.Ytbdkhgenkekioaa.Ne (box_alloc box_new box_cell box_below box_lt box2_cells)

def isM (a m : Int) (x : Mon) : Prop := x.a = a ∧ x.m = m
instance (a m : Int) (x : Mon) : Decidable (isM a m x) := inferInstanceAs (Decidable (_ ∧ _))
def findM : List Mon → Int → Int → Int
  | [], _, _ => -1
  | x :: l, a, m => if isM a m x then 0 else if findM l a m < 0 then -1 else findM l a m + 1
theorem findM_none : ∀ (l : List Mon) (a m : Int), (∀ r ∈ l, ¬ isM a m r) → findM l a m = -1
  | [], _, _, _ => rfl
  | r :: l, a, m, h => by
    unfold findM
    rw [if_neg (h r (by simp)), findM_none l a m (fun x hx => h x (by simp [hx]))]
    simp
theorem findM_at : ∀ (l : List Mon) (a m : Int) (k : Nat) (r : Mon), (∀ j x, j < k → l[j]? = some x → ¬ isM a m x) → l[k]? = some r → isM a m r → findM l a m = k
  | [], _, _, k, r, _, h, _ => by simp at h
  | y :: l, a, m, 0, r, _, h, e => by simp at h; subst h; unfold findM; rw [if_pos e]; rfl
  | y :: l, a, m, k + 1, r, h1, h2, e => by
    have h3 := findM_at l a m k r (fun j x hj hx => h1 (j + 1) x (by omega) (by simpa using hx)) (by simpa using h2) e
    unfold findM
    rw [if_neg (h1 0 y (by omega) (by simp)), h3, if_neg (by omega)]; push_cast; rfl
theorem findM_cases : ∀ (l : List Mon) (a m : Int), (findM l a m = -1 ∧ ∀ r ∈ l, ¬ isM a m r) ∨ ∃ (k : Nat) (r : Mon), findM l a m = k ∧ k < l.length ∧ l[k]? = some r ∧ isM a m r ∧ ∀ j x, j < k → l[j]? = some x → ¬ isM a m x
  | [], a, m => .inl ⟨rfl, fun r hr => by simp at hr⟩
  | y :: l, a, m => by
    by_cases e : isM a m y
    · exact .inr ⟨0, y, by unfold findM; rw [if_pos e]; rfl, by simp, by simp, e, fun j x hj => by omega⟩
    · rcases findM_cases l a m with ⟨h1, h2⟩ | ⟨k, r, h1, h2, h3, h4, h5⟩
      · refine .inl ⟨by unfold findM; rw [if_neg e, h1]; simp, fun r hr => ?_⟩
        rcases List.mem_cons.1 hr with rfl | hr
        · exact e
        · exact h2 r hr
      · refine .inr ⟨k + 1, r, by unfold findM; rw [if_neg e, h1, if_neg (by omega)]; push_cast; rfl, by simp; omega, by simpa using h3, h4, fun j x hj hx => ?_⟩
        cases j with
        | zero => simp at hx; subst hx; exact e
        | succ j => exact h5 j x (by omega) (by simpa using hx)

set_option maxHeartbeats 2000000 in
set_option maxRecDepth 100000 in
theorem rmfind_any (a : Option Addr) (n cap : Nat) (hs : List Hdr) (ms : List Mon) (A M : Int) (w : World) (hn : n ≤ 1000000) (h : MonIn w a n cap hs ms) :
    Calls Try.prog 19 #[.slice a n cap, .int .i64 A, .int .i64 M] w fun e w' => e = .returned (.int .i64 (findM ms A M)) ∧ w = w' := by
  have HN := Lib.hid h.n_eq
  go_enter Try.func19, Try.ntmps19
  go_wp2_with fail
  go_loop [7] (fun i => ∃ k : Nat, i = .int .i64 k ∧ k ≤ n ∧ Hid (∀ j x, j < k → ms[j]? = some x → ¬ isM A M x)) (fun i => n - (intOf i).toNat)
  case atStart => exact ⟨0, rfl, by omega, fun j x hj => by omega⟩
  case round =>
    obtain ⟨k, rfl, hk, hnot⟩ := hrel
    by_cases hlt : k < n
    · obtain ⟨b, off, at_, ct, m, rfl, hbb, hm, -, ⟨c0, c1, c2, c3, c4, c5⟩, -⟩ := h.at hlt
      have HM := Lib.hid hm
      clear hm
      have hstep : ∀ hne : ¬ isM A M m, ∀ j x, j < k + 1 → ms[j]? = some x → ¬ isM A M x := fun hne j x hj hx => by
        by_cases ej : j = k
        · subst ej
          have := hx.symm.trans HM.out
          cases this
          exact hne
        · exact hnot.out j x (by omega) hx
      have HST := Lib.hid hstep
      clear hstep
      by_cases h1 : m.a = A
      · have z1 : (m.a == A) = true := by simpa using h1
        by_cases h2 : m.m = M
        · have z2 : (m.m == M) = true := by simpa using h2
          have HZ : Hid (isM A M m) := ⟨h1, h2⟩
          clear h1 h2
          go_wp2_with fail
          go_ret
          exact ⟨by rw [findM_at ms A M k m hnot.out HM.out HZ.out]; rfl, rfl⟩
        · have z2 : (m.m == M) = false := by simpa using h2
          have HZ : Hid (¬ isM A M m) := fun q => h2 q.2
          clear h1 h2
          go_wp2_with fail
          go_round
          case rel => exact ⟨k + 1, by go_num, by omega, HST.out HZ.out⟩
          case measure => simp [intOf]; omega
      · have z1 : (m.a == A) = false := by simpa using h1
        have HZ : Hid (¬ isM A M m) := fun q => h1 q.1
        clear h1
        go_wp2_with fail
        go_round
        case rel => exact ⟨k + 1, by go_num, by omega, HST.out HZ.out⟩
        case measure => simp [intOf]; omega
    · have hk' : k = n := by omega
      subst hk'
      go_wp2_with fail
      go_ret
      refine ⟨?_, rfl⟩
      rw [findM_none ms A M (fun r hr => by
        obtain ⟨j, hj⟩ := List.mem_iff_getElem?.1 hr
        exact hnot.out j r (by have := (List.getElem?_eq_some_iff.1 hj).1; have := HN.out; omega) hj)]
      rfl

/-! ### month.place -/
theorem eqIn_key (a m a' m' : Int) (w : World) : (Op.equalIn 10000 73 (kval a m) (kval a' m')).run Try.prog w = .ok (decide (a = a' ∧ m = m')) w := by
  unfold kval
  by_cases h1 : a = a'
  · by_cases h2 : m = m'
    · rw [decide_eq_true ⟨h1, h2⟩]; simp [go_sem, h1, h2]
    · rw [decide_eq_false (fun h => h2 h.2)]; simp [go_sem, h1, h2]
  · rw [decide_eq_false (fun h => h1 h.1)]; simp [go_sem, h1]

set_option maxHeartbeats 2000000 in
theorem place1_any (x : Mon) (hv : Value) (g : Nat) (A M : Int) (w : World) (h0 : w.cell? ⟨g, 0, none⟩ = some (.int .i64 A)) (h1 : w.cell? ⟨g, 1, none⟩ = some (.int .i64 M)) :
    Calls Try.prog 87 #[.agg #[.int .i64 x.a, .int .i64 x.m, .int .i64 x.t, .int .i64 x.c, hv, .bool x.z], .pointer (some ⟨g, 0, none⟩)] w fun e w' => e = .returned (.bool (decide (isM A M x))) ∧ Below w.heap.size w w' := by
  have mixed : Try.prog.follows .mixedOrders = true := by kernel_rfl
  have hgb := World.block_lt_of_cell? w _ h0
  obtain ⟨p, hp⟩ : ∃ p, decide (x.a = A ∧ x.m = M) = p := ⟨_, rfl⟩
  have ee : decide (isM A M x) = p := by rw [← hp, Bool.eq_iff_iff, decide_eq_true_iff, decide_eq_true_iff]; exact Iff.rfl
  rw [ee]
  have hq := fun W => eqIn_key x.a x.m A M W
  rw [hp] at hq
  unfold kval at hq
  clear hp ee
  go_enter Try.func87, Try.ntmps87
  go_upto_region 1 with fail
  have X0 : Hid ((w.alloc (.cells #[.int .i64 x.a, .int .i64 x.m, .int .i64 x.t, .int .i64 x.c, hv, .bool x.z] 27)).heap[w.heap.size]? = some (.cells #[.int .i64 x.a, .int .i64 x.m, .int .i64 x.t, .int .i64 x.c, hv, .bool x.z] 27 (0, 0))) := box_new w _
  have B0 : Hid (Below w.heap.size w (w.alloc (.cells #[.int .i64 x.a, .int .i64 x.m, .int .i64 x.t, .int .i64 x.c, hv, .bool x.z] 27))) := (Below.refl _ _).alloc (Nat.le_refl _) _
  have g0 := (B0.out.cell (p := ⟨g, 0, none⟩) hgb).trans h0
  have g1 := (B0.out.cell (p := ⟨g, 1, none⟩) hgb).trans h1
  obtain ⟨W, hW⟩ : ∃ W, w.alloc (.cells #[.int .i64 x.a, .int .i64 x.m, .int .i64 x.t, .int .i64 x.c, hv, .bool x.z] 27) = W := ⟨_, rfl⟩
  rw [hW] at X0 B0 g0 g1 ⊢
  clear hW h0 h1
  obtain ⟨y0, y1, y2, y3, y4, y5⟩ := box6_cells X0.out
  have Y0 := cell_regrown y0
  have Y1 := cell_regrown y1
  have Y2 := cell_regrown y2
  have Y3 := cell_regrown y3
  have Y4 := cell_regrown y4
  have Y5 := cell_regrown y5
  have G0 := cell_regrown g0
  have G1 := cell_regrown g1
  have q1 : ∀ nd osq, Calls Try.prog 36 #[.agg #[.int .i64 x.a, .int .i64 x.m, .int .i64 x.t, .int .i64 x.c, hv, .bool x.z]] (Go.Sort.grow (redrawn W nd) osq) fun e w' => e = .returned (.agg #[.int .i64 x.a, .int .i64 x.m]) ∧ Below (Go.Sort.grow (redrawn W nd) osq).heap.size (Go.Sort.grow (redrawn W nd) osq) w' := fun nd osq => of_any _ _ _ _ _ _ _
  clear y0 y1 y2 y3 y4 y5 g0 g1
  refine wp_region_quiet_below (by assumption) (by kernel_rfl) ?_
  repeat (go_big_quiet_step ((go_at_call 36; exact Calls.regrown_of (q1 _ _))))
  refine wpQuiet_nil ?_
  intro w9 hw9
  obtain ⟨⟨nd, osq⟩, rfl⟩ := hw9
  have hb9 := below_regrown W nd osq
  have HB9 : Hid (Below w.heap.size w (Go.Sort.grow (redrawn W nd) osq)) := B0.out.trans (hb9.mono B0.out.size)
  generalize Go.Sort.grow (redrawn W nd) osq = w9 at HB9 ⊢
  clear hb9
  go_wp2_with fail
  go_ret
  exact ⟨rfl, HB9.out⟩
end Go.Proofs.Ytbdkhgenkekioaa
