/- Candidates: the document's words on samples: walked. -/
import Derived.Test.YtknbpnkonhniiaaCnA
import Derived.BigQuiet
import Derived.Deep.QuietTactic
namespace Go.Proofs.Ytknbpnkonhniiaa.Ne
open Go.RowKit Go.V Go.Proofs

set_option maxHeartbeats 4000000 in
theorem rsmay_any (s : Smp) (w : World) : Calls Try.prog 16 #[s.val] w fun e w' => e = .returned (.bool (smpB s)) ∧ Below w.heap.size w w' := by
  obtain ⟨st, sx, sy⟩ := s
  have HX := Lib.hid (box_new w (.cells #[.int .i64 st, .int .i64 sx, .int .i64 sy] 42))
  obtain ⟨c0, c1, c2, -, -, -⟩ := box3_cells HX.out
  have HB : Hid (Below w.heap.size w (w.alloc (.cells #[.int .i64 st, .int .i64 sx, .int .i64 sy] 42))) := (Below.refl _ _).alloc (Nat.le_refl _) _
  have HS : Hid (∀ b, (b = true ↔ (0 ≤ st ∧ st ≤ 1099511627776 ∧ 0 ≤ sx ∧ sx < 67108864 ∧ 0 ≤ sy ∧ sy < 67108864)) → b = smpB ⟨st, sx, sy⟩) := by
    intro b hb
    rw [Bool.eq_iff_iff, hb]
    unfold smpB wB
    simp only [Bool.and_eq_true, decide_eq_true_eq]
    omega
  by_cases h1 : 0 ≤ st
  · by_cases h2 : st ≤ 1099511627776
    · by_cases h3 : 0 ≤ sx
      · by_cases h4 : sx < 67108864
        · by_cases h5 : 0 ≤ sy
          all_goals
            go_enter Try.func16, Try.ntmps16
            go_wp2
            go_ret
            exact ⟨ret_bool (HS.out _ (by simp [*] <;> omega)), HB.out⟩
        · go_enter Try.func16, Try.ntmps16
          go_wp2
          go_ret
          exact ⟨ret_bool (HS.out _ (by simp [*] <;> omega)), HB.out⟩
      · go_enter Try.func16, Try.ntmps16
        go_wp2
        go_ret
        exact ⟨ret_bool (HS.out _ (by simp [*] <;> omega)), HB.out⟩
    · go_enter Try.func16, Try.ntmps16
      go_wp2
      go_ret
      exact ⟨ret_bool (HS.out _ (by simp [*] <;> omega)), HB.out⟩
  · go_enter Try.func16, Try.ntmps16
    go_wp2
    go_ret
    exact ⟨ret_bool (HS.out _ (by simp <;> omega)), HB.out⟩

/-- May a sample stand here? -/
def stepS (l : List Smp) (i : Nat) (s : Smp) : Bool := smpB s && (match i with | 0 => true | k + 1 => match l[k]? with | some p => decide (p.t < s.t) | none => true)
def rightN (l : List Smp) (k : Nat) : Bool := (List.range k).all fun i => match l[i]? with | some s => stepS l i s | none => true
def rightS (l : List Smp) : Bool := rightN l l.length
theorem rightN_snoc {l : List Smp} {k : Nat} {s : Smp} (h : l[k]? = some s) : rightN l (k + 1) = (rightN l k && stepS l k s) := by
  unfold rightN
  rw [List.range_succ, List.all_append]
  simp [h]
theorem rightN_bad {l : List Smp} {k : Nat} {s : Smp} (h : l[k]? = some s) (hs : stepS l k s = false) : rightS l = false := by
  have hk := (List.getElem?_eq_some_iff.1 h).1
  unfold rightS rightN
  rw [Bool.eq_false_iff]
  intro hh
  have := List.all_eq_true.1 hh k (List.mem_range.2 hk)
  rw [h] at this
  have this : stepS l k s = true := this
  rw [hs] at this; cases this
theorem right_may {l : List Smp} (h : rightS l = true) : ∀ s ∈ l, smpB s = true := by
  intro s hs
  obtain ⟨i, hi, rfl⟩ := List.getElem_of_mem hs
  have := List.all_eq_true.1 h i (List.mem_range.2 hi)
  rw [List.getElem?_eq_getElem hi] at this
  have this : stepS l i l[i] = true := this
  unfold stepS at this
  rw [Bool.and_eq_true] at this
  exact this.1

set_option maxHeartbeats 4000000 in
set_option maxRecDepth 100000 in
theorem right06_any (a : Option Addr) (n cap : Nat) (l : List Smp) (w : World) (hn : n ≤ 2048) (h : Sl Smp.cod w a n cap l) :
    Calls Try.prog 20 #[.slice a n cap] w fun e w' => e = .returned (.bool (rightS l)) ∧ Below w.heap.size w w' := by
  have HN := Lib.hid h.hlen
  have HS := Lib.hid h
  have mixed : Try.prog.follows .mixedOrders = true := by kernel_rfl
  clear h
  go_enter Try.func20, Try.ntmps20
  go_wp2
  go_loopw [3] (fun i wr => ∃ (k : Nat), k ≤ n ∧ i = .int .i64 k ∧ Hid (rightN l k = true) ∧ Hid (Below w.heap.size w wr)) (fun i _ => n - (intOf i).toNat)
  case atStart => exact ⟨0, by omega, rfl, rfl, Below.refl _ _⟩
  case round =>
    obtain ⟨k, hk, rfl, hok, hb⟩ := hrel
    by_cases hlt : k < n
    · have hltz : (k : Int) < (n : Int) := by omega
      obtain ⟨b, off, r, rfl, hbl, hr, c0, c1, c2⟩ := smp_at (HS.out.below hb.out) hlt
      have HR := Lib.hid hr
      have C0 := cell_regrown c0
      have C1 := cell_regrown c1
      have C2 := cell_regrown c2
      obtain ⟨bb, hbb⟩ : ∃ b, smpB r = b := ⟨_, rfl⟩
      have HBB := Lib.hid hbb
      have q1 : ∀ nd osq, Calls Try.prog 16 #[r.val] (Go.Sort.grow (redrawn wr nd) osq) fun e w' => e = .returned (.bool bb) ∧ Below (Go.Sort.grow (redrawn wr nd) osq).heap.size (Go.Sort.grow (redrawn wr nd) osq) w' := fun nd osq => (rsmay_any r _).mono fun e w' ⟨k1, k2⟩ => ⟨by rw [k1, hbb], k2⟩
      clear hr hbb c1 c2
      cases bb with
      | false =>
        clear c0
        go_upto_region 4 with fail
        refine wp_region_quiet_below (by assumption) (by kernel_rfl) ?_
        repeat (go_big_quiet_step ((go_at_call 16; exact Calls.regrown_of (q1 _ _))))
        refine wpQuiet_nil ?_
        intro w9 hw9
        obtain ⟨⟨nd, osq⟩, rfl⟩ := hw9
        have HB9 : Hid (Below w.heap.size w (Go.Sort.grow (redrawn wr nd) osq)) := hb.out.trans ((below_regrown wr nd osq).mono hb.out.size)
        clear C0 C1 C2 q1
        generalize Go.Sort.grow (redrawn wr nd) osq = w9 at HB9 ⊢
        go_wp2_with fail
        go_ret
        exact ⟨ret_bool (rightN_bad HR.out (by unfold stepS; rw [HBB.out]; rfl)).symm, HB9.out⟩
      | true =>
        cases k with
        | zero =>
          clear c0
          simp only [Nat.zero_mul, Nat.add_zero] at C0 C1 C2
          go_upto_region 4 with fail
          refine wp_region_quiet_below (by assumption) (by kernel_rfl) ?_
          repeat (go_big_quiet_step ((go_at_call 16; exact Calls.regrown_of (q1 _ _))))
          refine wpQuiet_nil ?_
          intro w9 hw9
          obtain ⟨⟨nd, osq⟩, rfl⟩ := hw9
          have HB9 : Hid (Below w.heap.size w (Go.Sort.grow (redrawn wr nd) osq)) := hb.out.trans ((below_regrown wr nd osq).mono hb.out.size)
          clear C0 C1 C2 q1
          generalize Go.Sort.grow (redrawn wr nd) osq = w9 at HB9 ⊢
          go_wp2_with fail
          go_roundw
          case rel => exact ⟨1, by omega, by go_num, by show _ = _; rw [rightN_snoc HR.out, hok.out, Bool.true_and]; unfold stepS; rw [HBB.out]; rfl, HB9.out⟩
          case measure => simp [intOf]; omega
        | succ j =>
          obtain ⟨b', off', p, hba, -, hp, d0, -, -⟩ := smp_at (HS.out.below hb.out) (i := j) (by omega)
          cases hba
          have D0 := cell_regrown d0
          have HP := Lib.hid hp
          have r1 : IntKind.i64.wrap ((↑(j + 1) : Int) - 1) = (j : Int) := by rw [IntKind.wrap_i64]; omega
          have b2 : (j : Int) < (n : Int) := by omega
          have b3 : (0 : Int) < (↑(j + 1) : Int) := by omega
          have HST : Hid (stepS l (j + 1) r = decide (p.t < r.t)) := by show _ = _; unfold stepS; simp only [HP.out, HBB.out, Bool.true_and]
          clear hp d0 c0
          by_cases hle : r.t ≤ p.t
          · go_upto_region 4 with fail
            refine wp_region_quiet_below (by assumption) (by kernel_rfl) ?_
            repeat (go_big_quiet_step ((go_at_call 16; exact Calls.regrown_of (q1 _ _))))
            refine wpQuiet_nil ?_
            intro w9 hw9
            obtain ⟨⟨nd, osq⟩, rfl⟩ := hw9
            have HB9 : Hid (Below w.heap.size w (Go.Sort.grow (redrawn wr nd) osq)) := hb.out.trans ((below_regrown wr nd osq).mono hb.out.size)
            clear C0 C1 C2 D0 q1
            generalize Go.Sort.grow (redrawn wr nd) osq = w9 at HB9 ⊢
            go_wp2_with fail
            go_ret
            exact ⟨ret_bool (rightN_bad HR.out (by rw [HST.out]; exact decide_eq_false (by omega))).symm, HB9.out⟩
          · go_upto_region 4 with fail
            refine wp_region_quiet_below (by assumption) (by kernel_rfl) ?_
            repeat (go_big_quiet_step ((go_at_call 16; exact Calls.regrown_of (q1 _ _))))
            refine wpQuiet_nil ?_
            intro w9 hw9
            obtain ⟨⟨nd, osq⟩, rfl⟩ := hw9
            have HB9 : Hid (Below w.heap.size w (Go.Sort.grow (redrawn wr nd) osq)) := hb.out.trans ((below_regrown wr nd osq).mono hb.out.size)
            clear C0 C1 C2 D0 q1
            generalize Go.Sort.grow (redrawn wr nd) osq = w9 at HB9 ⊢
            go_wp2_with fail
            go_roundw
            case rel => exact ⟨j + 1 + 1, by omega, by go_num, by show _ = _; rw [rightN_snoc HR.out, hok.out, Bool.true_and, HST.out]; exact decide_eq_true (by omega), HB9.out⟩
            case measure => simp [intOf]; omega
    · have hkn : k = n := by omega
      have HK := Lib.hid hkn
      clear hkn
      go_wp2_with fail
      go_ret
      exact ⟨ret_bool (by have := hok.out; rw [HK.out, HN.out] at this; exact this.symm), hb.out⟩
end Go.Proofs.Ytknbpnkonhniiaa.Ne
