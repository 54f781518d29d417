/- Months: where one is; are months one; a time's month: walked. -/
import Derived.Test.YtbdkhgenkekioaaMoE
import Derived.Deep.DeepFit
namespace Go.Proofs.Ytbdkhgenkekioaa
open Go.RowKit Go.V Go.Sort Go.Shelf Go.Proofs Go.Maps
open Go.Proofs.Ytbdkhgenkekioaa.Ne (box_alloc box_new box_cell box_below box_lt box2_cells)

set_option maxHeartbeats 2000000 in
set_option maxRecDepth 100000 in
theorem mindex_any (a : Option Addr) (n cap : Nat) (hs : List Hdr) (ms : List Mon) (g : Nat) (A M : Int) (w : World) (hn : n ≤ 1000000) (h : MonIn w a n cap hs ms) (h0 : w.cell? ⟨g, 0, none⟩ = some (.int .i64 A)) (h1 : w.cell? ⟨g, 1, none⟩ = some (.int .i64 M)) :
    Calls Try.prog 86 #[.slice a n cap, .func (.func 87) #[] #[.pointer (some ⟨g, 0, none⟩)]] w fun e w' => e = .returned (.int .i64 (findM ms A M)) ∧ Below w.heap.size w w' := by
  have HN := Lib.hid h.n_eq
  have hgb := World.block_lt_of_cell? w _ h0
  have H0 := Lib.hid h0
  have H1 := Lib.hid h1
  clear h0 h1
  go_enter Try.func86, Try.ntmps86
  go_wp2_with fail
  go_loopw [8] (fun i wr => ∃ k : Nat, i = .int .i64 k ∧ k ≤ n ∧ Hid (∀ j x, j < k → ms[j]? = some x → ¬ isM A M x) ∧ Hid (Below w.heap.size w wr)) (fun i _ => n - (intOf i).toNat)
  case atStart => exact ⟨0, rfl, by omega, fun j x hj => by omega, Below.refl _ _⟩
  case round =>
    obtain ⟨k, rfl, hk, hnot, hB⟩ := hrel
    by_cases hlt : k < n
    · obtain ⟨b, off, at_, ct, m, rfl, hbb, hm, -, ⟨c0, c1, c2, c3, c4, c5⟩, -⟩ := (h.below hB.out).at hlt
      have G0 := Lib.hid ((hB.out.cell (p := ⟨g, 0, none⟩) hgb).trans H0.out)
      have G1 := Lib.hid ((hB.out.cell (p := ⟨g, 1, none⟩) hgb).trans H1.out)
      have HM := Lib.hid hm
      clear hm
      obtain ⟨bb, hbb'⟩ : ∃ bb, decide (isM A M m) = bb := ⟨_, rfl⟩
      have HBB := Lib.hid hbb'
      clear hbb'
      cases bb with
      | true =>
        go_wp2_with (go_at_call 87; refine (place1_any m (.slice at_ m.rides.length ct) g A M _ G0.out G1.out).mono ?_; rintro e w1 ⟨rfl, hb1⟩; rw [HBB.out]; have HB1 := Lib.hid (hB.out.trans (hb1.mono hB.out.size)); clear hb1)
        go_ret
        exact ⟨by rw [findM_at ms A M k m hnot.out HM.out (of_decide_eq_true HBB.out)]; rfl, HB1.out⟩
      | false =>
        go_wp2_with (go_at_call 87; refine (place1_any m (.slice at_ m.rides.length ct) g A M _ G0.out G1.out).mono ?_; rintro e w1 ⟨rfl, hb1⟩; rw [HBB.out]; have HB1 := Lib.hid (hB.out.trans (hb1.mono hB.out.size)); clear hb1)
        go_roundw
        case rel =>
          refine ⟨k + 1, by go_num, by omega, fun j x hj hx => ?_, HB1.out⟩
          by_cases ej : j = k
          · subst ej
            have := hx.symm.trans HM.out
            cases this
            exact of_decide_eq_false HBB.out
          · exact hnot.out j x (by omega) hx
        case measure => simp [intOf]; omega
    · have hk' : k = n := by omega
      subst hk'
      go_wp2_with fail
      go_ret
      refine ⟨?_, hB.out⟩
      rw [findM_none ms A M (fun r hr => by
        obtain ⟨j, hj⟩ := List.mem_iff_getElem?.1 hr
        exact hnot.out j r (by have := (List.getElem?_eq_some_iff.1 hj).1; have := HN.out; omega) hj)]
      rfl

set_option maxHeartbeats 2000000 in
theorem mplace_any (a : Option Addr) (n cap : Nat) (hs : List Hdr) (ms : List Mon) (A M : Int) (w : World) (hn : n ≤ 1000000) (h : MonIn w a n cap hs ms) :
    Calls Try.prog 41 #[.slice a n cap, kval A M] w fun e w' => e = .returned (.int .i64 (findM ms A M)) ∧ Below w.heap.size w w' := by
  have B0 : Hid (Below w.heap.size w (w.alloc (.cells #[.int .i64 A, .int .i64 M] 73))) := (Below.refl _ _).alloc (Nat.le_refl _) _
  have X0 := Lib.hid (box_new w (.cells #[.int .i64 A, .int .i64 M] 73))
  unfold kval
  go_enter Try.func41, Try.ntmps41
  go_wp2_with (go_at_call 86; refine (mindex_any a n cap hs ms w.heap.size A M _ hn (h.below B0.out) (box_cell X0.out 0).1 (box_cell X0.out 1).1).mono ?_; rintro e w1 ⟨rfl, hb1⟩; have HB1 := Lib.hid (B0.out.trans (hb1.mono B0.out.size)); clear hb1)
  go_ret
  exact ⟨rfl, HB1.out⟩

/-! ### Of -/
def ofE (t s : Int) : Int := if 0 ≤ t ∧ t ≤ 1099511627776 ∧ 1 ≤ s ∧ s ≤ 1099511627776 then if 1048576 < t / s then 3 else 0 else 2
def ofV (t s : Int) : Int := if ofE t s = 0 then t / s else 0
set_option maxHeartbeats 2000000 in
theorem mof_any (t s : Int) (w : World) : Calls Try.prog 20 #[.int .i64 t, .int .i64 s] w fun e w' => e = .returned (.tuple #[.int .i64 (ofV t s), .int .i64 (ofE t s)]) ∧ w = w' := by
  obtain ⟨p1, hp1⟩ : ∃ p, inB t 0 1099511627776 = p := ⟨_, rfl⟩
  obtain ⟨p2, hp2⟩ : ∃ p, inB s 1 1099511627776 = p := ⟨_, rfl⟩
  have HP : Hid (inB t 0 1099511627776 = p1 ∧ inB s 1 1099511627776 = p2) := ⟨hp1, hp2⟩
  have hE : (p1 = true ∧ p2 = true) ↔ (0 ≤ t ∧ t ≤ 1099511627776 ∧ 1 ≤ s ∧ s ≤ 1099511627776) := by
    rw [← hp1, ← hp2]; unfold inB; simp only [decide_eq_true_eq]; exact ⟨fun h => ⟨h.1.1, h.1.2, h.2.1, h.2.2⟩, fun h => ⟨⟨h.1, h.2.1⟩, h.2.2.1, h.2.2.2⟩⟩
  have HE := Lib.hid hE
  clear hp1 hp2
  cases p1 with
  | false =>
    have e1 : ofE t s = 2 := by unfold ofE; rw [if_neg (fun q => by have := hE.2 q; cases this.1)]
    have e2 : ofV t s = 0 := by unfold ofV; rw [if_neg (by rw [e1]; decide)]
    rw [e1, e2]
    clear hE e1 e2
    go_enter Try.func20, Try.ntmps20
    go_wp2_with (go_at_call 54; go_fit (mwithin_any t 0 1099511627776 _); rintro e w2 ⟨rfl, rfl⟩; rw [HP.out.1])
    go_ret2
    exact ⟨rfl, rfl⟩
  | true =>
    cases p2 with
    | false =>
      have e1 : ofE t s = 2 := by unfold ofE; rw [if_neg (fun q => by have := hE.2 q; cases this.2)]
      have e2 : ofV t s = 0 := by unfold ofV; rw [if_neg (by rw [e1]; decide)]
      rw [e1, e2]
      clear hE e1 e2
      go_enter Try.func20, Try.ntmps20
      go_wp2_with (first
        | (go_at_call 54; go_fit (mwithin_any t 0 1099511627776 _); rintro e w2 ⟨rfl, rfl⟩; rw [HP.out.1])
        | (go_at_call 54; go_fit (mwithin_any s 1 1099511627776 _); rintro e w2 ⟨rfl, rfl⟩; rw [HP.out.2]))
      go_ret2
      exact ⟨rfl, rfl⟩
    | true =>
      have hin := hE.1 ⟨rfl, rfl⟩
      have h0 : ofE t s = if 1048576 < t / s then 3 else 0 := by unfold ofE; rw [if_pos hin]
      have q1 : t.tdiv s = t / s := Int.tdiv_eq_ediv_of_nonneg hin.1
      have q2 : 0 ≤ t / s ∧ t / s ≤ t := ⟨Int.ediv_nonneg hin.1 (by omega), Int.ediv_le_self _ hin.1⟩
      have hv : ofV t s = if ofE t s = 0 then t / s else 0 := rfl
      obtain ⟨d, hd⟩ : ∃ d, t / s = d := ⟨_, rfl⟩
      rw [hd] at q1 q2 h0 hv
      have r1 : IntKind.i64.wrap d = d := by rw [IntKind.wrap_i64]; omega
      have z1 : (s == 0) = false := by simp; omega
      have z2 : ¬ s = 0 := by omega
      clear hE hd
      by_cases hbig : 1048576 < d
      · rw [if_pos hbig] at h0
        rw [h0, if_neg (by decide)] at hv
        rw [h0, hv]
        clear h0 hv
        go_enter Try.func20, Try.ntmps20
        go_wp2_with (first
          | (go_at_call 54; go_fit (mwithin_any t 0 1099511627776 _); rintro e w2 ⟨rfl, rfl⟩; rw [HP.out.1])
          | (go_at_call 54; go_fit (mwithin_any s 1 1099511627776 _); rintro e w2 ⟨rfl, rfl⟩; rw [HP.out.2]))
        go_ret2
        exact ⟨rfl, rfl⟩
      · rw [if_neg hbig] at h0
        rw [h0, if_pos rfl] at hv
        rw [h0, hv]
        clear h0 hv
        go_enter Try.func20, Try.ntmps20
        go_wp2_with (first
          | (go_at_call 54; go_fit (mwithin_any t 0 1099511627776 _); rintro e w2 ⟨rfl, rfl⟩; rw [HP.out.1])
          | (go_at_call 54; go_fit (mwithin_any s 1 1099511627776 _); rintro e w2 ⟨rfl, rfl⟩; rw [HP.out.2]))
        go_ret2
        exact ⟨rfl, rfl⟩
end Go.Proofs.Ytbdkhgenkekioaa
