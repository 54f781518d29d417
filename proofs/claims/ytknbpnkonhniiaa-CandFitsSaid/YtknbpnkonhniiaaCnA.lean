/- Candidates: samples; which may be: walked. -/
import Derived.Test.YtknbpnkonhniiaaWgh
namespace Go.Proofs.Ytknbpnkonhniiaa.Ne
open Go.RowKit Go.V Go.Proofs

structure Smp where
  t : Int
  x : Int
  y : Int
deriving Inhabited
def Smp.enc (r : Smp) : List Value := [.int .i64 r.t, .int .i64 r.x, .int .i64 r.y]
def Smp.cod : Cod Smp := ⟨3, Smp.enc, fun _ => rfl, by simp [Smp.enc, Value.oneCell']⟩
abbrev Smp.val (r : Smp) : Value := .agg #[.int .i64 r.t, .int .i64 r.x, .int .i64 r.y]
def Smp.ok (r : Smp) : Prop := (Lit.int .i64 r.t).wf = true ∧ (Lit.int .i64 r.x).wf = true ∧ (Lit.int .i64 r.y).wf = true
theorem smp_at {w : World} {a : Option Addr} {n cap : Nat} {l : List Smp} (h : Sl Smp.cod w a n cap l) {i : Nat} (hi : i < n) :
   ∃ b off r, a = some ⟨b, off, none⟩ ∧ b < w.heap.size ∧ l[i]? = some r ∧ w.cell? ⟨b, off + i * 3, none⟩ = some (.int .i64 r.t) ∧ w.cell? ⟨b, off + i * 3 + 1, none⟩ = some (.int .i64 r.x) ∧ w.cell? ⟨b, off + i * 3 + 2, none⟩ = some (.int .i64 r.y) := by
  obtain ⟨b, off, rfl, hb, r, hr, hc⟩ := h.some hi
  exact ⟨b, off, r, rfl, hb, hr, hc 0 _ rfl, hc 1 _ rfl, hc 2 _ rfl⟩
def smpB (s : Smp) : Bool := wB s.t 0 1099511627776 && wB s.x 0 67108863 && wB s.y 0 67108863
theorem smp_may {s : Smp} (h : smpB s = true) : mayB s.x s.y = true := by
  unfold smpB at h
  simp only [Bool.and_eq_true] at h
  obtain ⟨⟨-, h1⟩, h2⟩ := h
  have h1 := of_decide_eq_true h1
  have h2 := of_decide_eq_true h2
  exact decide_eq_true (by omega)
set_option maxHeartbeats 400000 in
theorem swithin_any (n hi : Int) (w : World) :
    Calls Try.prog 36 #[.int .i64 n, .int .i64 hi] w fun e w' => e = .returned (.bool (wB n 0 hi)) ∧ w = w' := by
  by_cases h1 : 0 ≤ n
  all_goals
    go_enter Try.func36, Try.ntmps36
    go_wp2
    go_ret
    exact ⟨ret_bool (by unfold wB; rw [Bool.eq_iff_iff]; simp [*] <;> omega), rfl⟩
set_option maxHeartbeats 2000000 in
theorem smay_any (s : Smp) (w : World) : Calls Try.prog 19 #[s.val] w fun e w' => e = .returned (.bool (smpB s)) ∧ Below w.heap.size w w' := by
  obtain ⟨st, sx, sy⟩ := s
  have HX := Lib.hid (box_new w (.cells #[.int .i64 st, .int .i64 sx, .int .i64 sy] 42))
  obtain ⟨c0, c1, c2, -, -, -⟩ := box3_cells HX.out
  have HB : Hid (Below w.heap.size w (w.alloc (.cells #[.int .i64 st, .int .i64 sx, .int .i64 sy] 42))) := (Below.refl _ _).alloc (Nat.le_refl _) _
  obtain ⟨b1, e1⟩ : ∃ b, wB st 0 1099511627776 = b := ⟨_, rfl⟩
  obtain ⟨b2, e2⟩ : ∃ b, wB sx 0 67108863 = b := ⟨_, rfl⟩
  obtain ⟨b3, e3⟩ : ∃ b, wB sy 0 67108863 = b := ⟨_, rfl⟩
  have HM : Hid (smpB ⟨st, sx, sy⟩ = (b1 && b2 && b3)) := by show _ = _; unfold smpB; simp only []; rw [e1, e2, e3]
  have E1 := Lib.hid e1
  have E2 := Lib.hid e2
  have E3 := Lib.hid e3
  clear e1 e2 e3
  cases b1 <;> cases b2 <;> cases b3
  all_goals
    go_enter Try.func19, Try.ntmps19
    go_wp2_with (first
      | (go_at_call 36; go_fit (swithin_any st 1099511627776 _); rintro e w1 ⟨rfl, rfl⟩; rw [E1.out])
      | (go_at_call 36; go_fit (swithin_any sx 67108863 _); rintro e w1 ⟨rfl, rfl⟩; rw [E2.out])
      | (go_at_call 36; go_fit (swithin_any sy 67108863 _); rintro e w1 ⟨rfl, rfl⟩; rw [E3.out]))
    go_ret
    exact ⟨by rw [HM.out]; rfl, HB.out⟩
end Go.Proofs.Ytknbpnkonhniiaa.Ne
