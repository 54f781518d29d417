/- Networks: slices.Repeat of one number, walked. -/
import Derived.Test.YtgfakkkiejeofaaNeS
import Derived.Laws.CopyOwn
import Derived.Laws.BitsLemmas
namespace Go.Proofs.Ytgfakkkiejeofaa.Ne
open Go.RowKit Go.V Go.Proofs Go.Sort

theorem u64_63 (n : Int) (h₀ : 0 ≤ n) (h₁ : n < 2 ^ 63) : IntKind.u64.wrap n = n := by rw [IntKind.wrap_u64]; omega
theorem low32 (k : Nat) (hk : k ≤ 4096) : bits .and .u64 (k : Int) 4294967295 = (k : Int) := by
  have h := bits_mask .u64 63 (by decide) u64_63 32 (by decide) (k : Int) (by omega) (by omega)
  have e : ((2 : Int) ^ 32 - 1) = 4294967295 := by decide
  have e2 : ((2 : Int) ^ 32) = 4294967296 := by decide
  rw [e, e2] at h
  rw [h]
  omega

set_option maxHeartbeats 1000000 in
theorem mul64_any (k : Nat) (hk : k ≤ 4096) (w : World) : Calls Try.prog 82 #[.int .u64 1, .int .u64 k] w fun e w' => e = .returned (.tuple #[.int .u64 0, .int .u64 k]) ∧ w = w' := by
  have b0 : bits .and .u64 0 4294967295 = 0 := by decide
  have b1 : bits .and .u64 1 4294967295 = 1 := by decide
  have bk := low32 k hk
  have d1 : (k : Int) / 4294967296 = 0 := by omega
  go_enter Try.func82, Try.ntmps82
  go_wp2
  go_ret2
  exact ⟨rfl, rfl⟩

set_option maxHeartbeats 1000000 in
theorem mul_any (k : Nat) (hk : k ≤ 4096) (w : World) : Calls Try.prog 71 #[.int .u64 1, .int .u64 k] w fun e w' => e = .returned (.tuple #[.int .u64 0, .int .u64 k]) ∧ w = w' := by
  go_enter Try.func71, Try.ntmps71
  go_wp2_with (go_at_call 82; refine (mul64_any k hk _).mono ?_; rintro e w1 ⟨rfl, rfl⟩)
  go_ret2
  exact ⟨rfl, rfl⟩

/-- The first n are X, the others 0. -/
def rep (X : Value) (n k : Nat) : List Value := List.replicate n X ++ List.replicate (k - n) (.int .i64 0)
theorem rep_len (X : Value) {n k : Nat} (h : n ≤ k) : (rep X n k).length = k := by simp [rep]; omega
theorem rep_splice (X : Value) (n k c : Nat) : splice (rep X n k) n (List.replicate c X) = rep X (n + c) k := by
  unfold splice rep
  have e1 : (List.replicate n X ++ List.replicate (k - n) (Value.int .i64 0)).take n = List.replicate n X := by
    rw [List.take_append_of_le_length (by simp)]; exact List.take_of_length_le (by simp)
  have e2 : (List.replicate n X ++ List.replicate (k - n) (Value.int .i64 0)).drop (n + (List.replicate c X).length) = List.replicate (k - (n + c)) (.int .i64 0) := by
    rw [List.drop_append]
    simp
    omega
  rw [e1, e2, ← List.append_assoc, List.replicate_append_replicate]
theorem rep_at (X : Value) {n k j : Nat} (h : j < n) : (rep X n k)[j]? = some X := by
  unfold rep
  rw [List.getElem?_append_left (by simpa using h)]
  simp [h]
theorem copy_run {P : Program} (w : World) (T ty elem : TypeId) (g o dLen dCap : Nat) (a : Addr) (sLen sCap : Nat) (cur : List Value) (t : TypeId) (cs : List Value) (c : Nat)
    (hu : P.underlying T = some (.slice elem)) (hs : (P.info? elem).map (·.size) = some 1)
    (hg : w.heap[g]? = some (.cells cur.toArray t (0, 0))) (hc : cs.length = c) (hn : c = Nat.min sLen dLen)
    (hsrc : ∀ j v, cs[j]? = some v → w.cell? (a.add j) = some v) (hfit : o + c ≤ cur.length) (h1 : ∀ v ∈ cs, v.oneCell' = true) {B : Nat} {w0 : World} (hb : Below B w0 w) (hB : B ≤ g) :
    ∃ w', (Builtin.copy_ #[T, T] ty #[.slice (some ⟨g, o, none⟩) dLen dCap, .slice (some a) sLen sCap]).run P w = .ok (.int .i64 c) w' ∧ w'.heap[g]? = some (.cells (splice cur o cs).toArray t (0, 0)) ∧ Below B w0 w' := by
  subst hc
  refine ⟨_, run_copy_row (P := P) w T T ty elem g o dLen dCap a sLen sCap cur.toArray t cs hu hs hg hn hsrc (by simpa using hfit) h1, ?_, below_setRow hb hB _⟩
  simpa [splice] using setRow_heap w g _ _ t _ hg
theorem infoI : (Try.prog.info? 3).map (fun i => (i.zero, i.size, i.bytes)) = some (some (.int .i64 0), 1, 8) := by kernel_rfl
theorem sizeI : (Try.prog.info? 3).map (·.size) = some 1 := by kernel_rfl
theorem rep_own {w : World} {B o n k : Nat} {x : Int} (h : w.heap[o]? = some (.cells (rep (.int .i64 x) n k).toArray 3 (0, 0))) (hb : B ≤ o) (hn : n = k) (hk : k ≤ 4096) : V.Own 3 icod B w (.slice (some ⟨o, 0, none⟩) k k) (List.replicate k x) := by
  subst hn
  have hf : ∀ m : Nat, (List.replicate m x).flatMap icod.enc = List.replicate m (Value.int .i64 x) := by
    intro m
    induction m with
    | zero => rfl
    | succ m ih => rw [List.replicate_succ, List.flatMap_cons, ih]; rfl
  refine ⟨?_, .inr ⟨o, n, _, ?_, hb, h, ?_, ?_, ?_, ?_⟩⟩
  · rw [hf]; simp [icod]
  · simp
  · simp
  · unfold maxLen; omega
  · simp [rep, icod]
  · rw [hf]; simp [rep, icod]

set_option maxHeartbeats 2000000 in
set_option maxRecDepth 100000 in
theorem repeat_any (w : World) (g k : Nat) (x : Int) (hx : w.cell? ⟨g, 0, none⟩ = some (.int .i64 x)) (h1 : 1 ≤ k) (hk : k ≤ 4096) :
    Calls Try.prog 51 #[.slice (some ⟨g, 0, none⟩) 1 1, .int .i64 k] w fun e w' => ∃ o, e = .returned (.slice (some ⟨o, 0, none⟩) k k) ∧ V.Own 3 icod w.heap.size w' (.slice (some ⟨o, 0, none⟩) k k) (List.replicate k x) ∧ Below w.heap.size w w' := by
  have hmk := run_make_row' (P := Try.prog) 26 3 (.int .i64 0) 8 Try.underlying26 infoI rfl .i64 .i64 k (by omega) (by omega)
  have mixed : Try.prog.follows .mixedOrders = true := by kernel_rfl
  have q1 : decide ((k : Int) < 0) = false := by simp
  have q2 : decide ((9223372036854775807 : Int) < (k : Int)) = false := by simp; omega
  have hgw := World.block_lt_of_cell? w _ hx
  have HR0 : Hid ((w.alloc (.cells (madeCells #[.int .i64 0] k) 3)).heap[w.heap.size]? = some (.cells (rep (.int .i64 x) 0 k).toArray 3 (0, 0))) := by
    show _ = _
    rw [heap_alloc_new]
    have : (rep (.int .i64 x) 0 k).toArray = madeCells #[.int .i64 0] k := by unfold rep; rw [List.replicate_zero, List.nil_append, Nat.sub_zero, ← toList_madeCells_one]
    rw [this]
  have HB0 : Hid (Below w.heap.size w (w.alloc (.cells (madeCells #[.int .i64 0] k) 3))) := (Below.refl _ _).alloc (Nat.le_refl _) _
  have HX := Lib.hid hx
  go_enter Try.func51, Try.ntmps51
  go_upto_region 7 with (go_at_call 71; refine (mul_any k hk _).mono ?_; rintro e w1 ⟨rfl, rfl⟩)
  obtain ⟨o, ho⟩ : ∃ o, w.heap.size = o := ⟨_, rfl⟩
  obtain ⟨W, hW⟩ : ∃ W, w.alloc (.cells (madeCells #[.int .i64 0] k) 3) = W := ⟨_, rfl⟩
  have HX1 : Hid (W.cell? ⟨g, 0, none⟩ = some (.int .i64 x)) := by show _ = _; rw [← hW]; exact (HB0.out.cell (p := ⟨g, 0, none⟩) hgw).trans HX.out
  rw [hW] at HR0 HB0 ⊢
  rw [ho] at HR0 HB0 ⊢
  have HO := Lib.hid ho
  clear hW ho hmk hx q2 HX hgw q1
  obtain ⟨X, hX⟩ : ∃ X : Value, X = .int .i64 x := ⟨_, rfl⟩
  have HXX := Lib.hid hX
  rw [← hX] at HR0 HX1
  have HONE : Hid (X.oneCell' = true) := by show _ = _; rw [hX]; rfl
  clear hX
  obtain ⟨w1, hcp, hg1, hb1⟩ := copy_run (P := Try.prog) W 26 3 3 o 0 k k ⟨g, 0, none⟩ 1 1 (rep X 0 k) 3 [X] 1 Try.underlying26 sizeI HR0.out rfl (Nat.min_eq_left h1).symm (fun j v hv => (by cases j with | zero => (simp at hv; subst hv; exact HX1.out) | succ j => simp at hv)) (by rw [rep_len X (Nat.zero_le k)]; exact h1) (fun v hv => by simp at hv; subst hv; exact HONE.out) HB0.out (Nat.le_refl _)
  have HB1 := Lib.hid hb1
  have HG1 := Lib.hid hg1
  clear hb1 hg1
  go_wp2_with fail
  clear hcp
  have HR1 : Hid (w1.heap[o]? = some (.cells (rep X 1 k).toArray 3 (0, 0))) := by
    have := HG1.out
    rw [show [X] = List.replicate 1 X from rfl, rep_splice X 0 k 1] at this
    exact this
  clear HG1 HR0 HB0 HX1
  go_loopw [8] (fun i wr => ∃ n : Nat, i = .int .i64 n ∧ 1 ≤ n ∧ n ≤ k ∧ Hid (wr.heap[o]? = some (.cells (rep X n k).toArray 3 (0, 0))) ∧ Hid (Below o w wr)) (fun i _ => k - (intOf i).toNat)
  case atStart => exact ⟨1, by go_num, by omega, h1, HR1.out, HB1.out⟩
  case round =>
    obtain ⟨n, rfl, hn1, hnk, HR, HB⟩ := hrel
    by_cases hlt : n < k
    · obtain ⟨c, hc⟩ : ∃ c, c = Nat.min n (k - n) := ⟨_, rfl⟩
      have HCM := Lib.hid hc
      have hc1 : 1 ≤ c ∧ c ≤ n ∧ n + c ≤ k := by rw [hc]; show 1 ≤ min n (k - n) ∧ min n (k - n) ≤ n ∧ n + min n (k - n) ≤ k; omega
      obtain ⟨hc2, hc3, hc4⟩ := hc1
      clear hc
      have HLC : Hid ((List.replicate c X).length = c) := List.length_replicate
      have b1 : (n : Int) ≤ (k : Int) := by omega
      have b2 : (0 : Int) ≤ (n : Int) := by omega
      have b3 : (n : Int) < (k : Int) := by omega
      obtain ⟨w4, hcp, hg4, hb4⟩ := copy_run (P := Try.prog) wr.drew 26 3 3 o n (k - n) (k - n) ⟨o, 0, none⟩ n k (rep X n k) 3 (List.replicate c X) c Try.underlying26 sizeI HR.out HLC.out HCM.out (fun j v hv => (by
        have hj : j < c := by have := (List.getElem?_eq_some_iff.1 hv).1; rwa [HLC.out] at this
        have hv2 : v = X := by rw [List.getElem?_replicate, if_pos hj] at hv; exact (Option.some.inj hv).symm
        have hr := HR.out
        rw [add_addr, Nat.zero_add, hv2]
        show wr.cell? ⟨o, j, none⟩ = some X
        simp [World.cell?, hr, rep_at X (show j < n by omega)])) (by rw [rep_len X hnk]; exact hc4) (fun v hv => by rw [List.eq_of_mem_replicate hv]; exact HONE.out) (HB.out.trans (Below.drew (Below.refl _ _))) (Nat.le_refl _)
      rw [rep_splice X n k c] at hg4
      have HG4 := Lib.hid hg4
      have HB4 := Lib.hid hb4
      clear hg4 hb4
      go_upto_region 9 with fail
      go_region
      all_goals
        go_wp2_with fail
        go_roundw
        case rel => exact ⟨n + c, by go_num, by omega, by omega, HG4.out, HB4.out⟩
        case measure => simp [intOf]; omega
    · have hnk2 : n = k := by omega
      go_wp2_with fail
      go_ret
      exact ⟨o, rfl, rep_own (by rw [← HXX.out]; exact HR.out) (Nat.le_of_eq HO.out) hnk2 hk, by rw [HO.out]; exact HB.out⟩
end Go.Proofs.Ytgfakkkiejeofaa.Ne
