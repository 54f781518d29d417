/- Networks: a table that is none; the greatest distance; two bytes. -/
import Derived.Test.YteihffnmgacfpaaNeZ
import Derived.Test.YteihffnmgacfpaaNoP
import Derived.Test.YteihffnmgacfpaaNeN
namespace Go.V
open Go.RowKit Go.ChangeShapes Go.WideShapes Go.ChangeAt
theorem u8_nat {n : Int} (h : (Lit.int .u8 n).wf = true) : ∃ p : Nat, n = p ∧ p ≤ 255 := by
  have h2 : 0 ≤ n ∧ n ≤ 255 := by
    have := h
    simp [Lit.wf, IntKind.min, IntKind.max, IntKind.signed, IntKind.bits] at this
    omega
  exact ⟨n.toNat, by omega, by omega⟩
end Go.V
namespace Go.Proofs.Yteihffnmgacfpaa.Ne
open Go.RowKit Go.V Go.Proofs Go.Sort Go.Maps

set_option maxHeartbeats 400000 in
theorem tis_nil (w : World) : Calls Try.prog 59 #[.pointer none] w fun e w' => e = .returned (.bool false) ∧ w = w' := by
  go_enter Try.func59, Try.ntmps59
  go_wp2
  go_ret
  exact ⟨rfl, rfl⟩
set_option maxHeartbeats 400000 in
theorem tlen_nil (w : World) : Calls Try.prog 19 #[.pointer none] w fun e w' => e = .returned (.int .i64 0) ∧ w = w' := by
  go_enter Try.func19, Try.ntmps19
  go_wp2_with (go_at_call 59; refine (tis_nil _).mono ?_; rintro e w1 ⟨rfl, rfl⟩)
  go_ret
  exact ⟨rfl, rfl⟩
set_option maxHeartbeats 400000 in
theorem tver_nil (w : World) : Calls Try.prog 20 #[.pointer none] w fun e w' => e = .returned (.int .i64 0) ∧ w = w' := by
  go_enter Try.func20, Try.ntmps20
  go_wp2_with (go_at_call 59; refine (tis_nil _).mono ?_; rintro e w1 ⟨rfl, rfl⟩)
  go_ret
  exact ⟨rfl, rfl⟩
set_option maxHeartbeats 400000 in
theorem tfar_nil (w : World) : Calls Try.prog 21 #[.pointer none, .int .i64 0, .int .i64 0] w fun e w' => e = .returned (.int .i64 (-1)) ∧ w = w' := by
  go_enter Try.func21, Try.ntmps21
  go_wp2_with (go_at_call 19; refine (tlen_nil _).mono ?_; rintro e w1 ⟨rfl, rfl⟩)
  go_ret
  exact ⟨rfl, rfl⟩
set_option maxHeartbeats 400000 in
theorem tround_nil (w : World) : Calls Try.prog 23 #[.pointer none] w fun e w' => e = .returned (.tuple #[.int .i64 0, .int .i64 0, .int .i64 0, .bool false]) ∧ w = w' := by
  go_enter Try.func23, Try.ntmps23
  go_wp2_with (go_at_call 19; refine (tlen_nil _).mono ?_; rintro e w1 ⟨rfl, rfl⟩)
  go_returns
  exact ⟨rfl, rfl⟩

theorem rin_ge (f : Nat → Nat → Int) (i : Nat) : ∀ (c j : Nat) (s : Pk), s.far ≤ (rin f i c j s).far ∧ ∀ p, j ≤ p → p < j + c → i ≤ p → f i p ≤ (rin f i c j s).far
  | 0, j, s => ⟨Int.le_refl _, fun p h1 h2 => by omega⟩
  | c + 1, j, s => by
    obtain ⟨h1, h2⟩ := rin_ge f i c (j + 1) (pkStep i j (f i j) s)
    have h3 : s.far ≤ (pkStep i j (f i j) s).far ∧ (i ≤ j → f i j ≤ (pkStep i j (f i j) s).far) := by
      unfold pkStep
      split
      · next h => exact ⟨Int.le_of_lt h.2, fun _ => Int.le_refl _⟩
      · next h => exact ⟨Int.le_refl _, fun hij => Int.not_lt.1 (fun q => h ⟨hij, q⟩)⟩
    refine ⟨Int.le_trans h3.1 h1, fun p hp1 hp2 hp3 => ?_⟩
    by_cases e : p = j
    · subst e; exact Int.le_trans (h3.2 hp3) h1
    · exact h2 p (by omega) (by omega) hp3
theorem rout_ge (f : Nat → Nat → Int) (k : Nat) : ∀ (c i : Nat) (s : Pk), s.far ≤ (rout f k c i s).far ∧ ∀ q p, i ≤ q → q < i + c → q ≤ p → p < k → f q p ≤ (rout f k c i s).far
  | 0, i, s => ⟨Int.le_refl _, fun q p h1 h2 => by omega⟩
  | c + 1, i, s => by
    obtain ⟨h1, h2⟩ := rout_ge f k c (i + 1) (rin f i k 0 s)
    obtain ⟨h3, h4⟩ := rin_ge f i k 0 s
    refine ⟨Int.le_trans h3 h1, fun q p hq1 hq2 hqp hp => ?_⟩
    by_cases e : q = i
    · subst e; exact Int.le_trans (h4 p (by omega) (by omega) hqp) h1
    · exact h2 q p (by omega) (by omega) hqp hp
theorem round_most {n : Net} {k : Nat} (hok : checkE n = 0) (hk : k = n.stops.length) (h0 : 0 < k) (h5 : k ≤ 512) (a b : Int) : 0 ≤ (roundE n.links k).far ∧ tfarE n k a b ≤ (roundE n.links k).far := by
  have hr : roundE n.links k = rout (fun i j => far n.links k i j) k k 0 ⟨0, 0, 0⟩ := by unfold roundE; rw [if_neg (by omega)]
  obtain ⟨h1, h2⟩ := rout_ge (fun i j => far n.links k i j) k k 0 ⟨0, 0, 0⟩
  rw [hr]
  refine ⟨h1, ?_⟩
  by_cases h : 0 ≤ a ∧ a < k ∧ 0 ≤ b ∧ b < k
  · have key : ∀ x y : Nat, x ≤ y → y < k → tfarE n k x y ≤ (rout (fun i j => far n.links k i j) k k 0 ⟨0, 0, 0⟩).far := fun x y hxy hy => by
      unfold tfarE
      rw [if_pos ⟨by omega, by omega, by omega, by omega⟩]
      exact h2 x y (by omega) (by omega) hxy hy
    obtain ⟨x, rfl⟩ : ∃ x : Nat, a = x := ⟨a.toNat, by omega⟩
    obtain ⟨y, rfl⟩ : ∃ y : Nat, b = y := ⟨b.toNat, by omega⟩
    by_cases hxy : x ≤ y
    · exact key x y hxy (by omega)
    · rw [tfar_symm hok hk (y : Int) (x : Int)]; exact key y x (by omega) (by omega)
  · unfold tfarE
    rw [if_neg h]
    simp only [] at h1
    omega

/-- Two bytes. -/
structure B2 where
  a : Nat
  b : Nat
def b2cod : Cod B2 := ⟨2, fun p => [.int .u8 p.a, .int .u8 p.b], fun _ => rfl, by simp [Value.oneCell']⟩
def B2.ok (p : B2) : Prop := p.a ≤ 255 ∧ p.b ≤ 255
theorem b2_at {w : World} {a : Option Addr} {n cap : Nat} {l : List B2} (h : Sl b2cod w a n cap l) {i : Nat} (hi : i < n) :
   ∃ b off r, a = some ⟨b, off, none⟩ ∧ b < w.heap.size ∧ l[i]? = some r ∧ w.cell? ⟨b, off + i * 2, none⟩ = some (.int .u8 r.a) ∧ w.cell? ⟨b, off + i * 2 + 1, none⟩ = some (.int .u8 r.b) := by
  obtain ⟨b, off, rfl, hb, r, hr, hc⟩ := h.some hi
  exact ⟨b, off, r, rfl, hb, hr, hc 0 _ rfl, hc 1 _ rfl⟩
theorem b2_opened {H : Type} {enc : TypeId × Value → H} {w : World} {b0 : Nat} {spare : Nat → Bool} {held : Bool} (n : Nat) (cs : List Value) (y : DataW H × List MemPlace) (h : DataW.trod enc Try.prog w b0 spare held n 84 cs = some y) : ∃ x, cs = b2cod.enc x ∧ B2.ok x := by
  obtain ⟨xs, m, -, -, hl, hxl, hx⟩ := DataW.trod_array Try.underlying84 h
  have hc : Try.prog.cellsOf 5 = 1 := by kernel_rfl
  have hl' : cs.length = 2 := by rw [hl]; kernel_rfl
  obtain ⟨v0, v1, rfl⟩ := list2 hl'
  have h0 := hx 0 (by omega)
  have h1 := hx 1 (by omega)
  obtain ⟨y0, y1, rfl⟩ := list2 hxl
  simp [hc] at h0 h1
  obtain ⟨n0, e0, -, w0⟩ := DataW.trod_int Try.underlying5 h0
  obtain ⟨n1, e1, -, w1⟩ := DataW.trod_int Try.underlying5 h1
  simp at e0 e1
  subst e0; subst e1
  obtain ⟨p, rfl, hp⟩ := u8_nat w0
  obtain ⟨q, rfl, hq⟩ := u8_nat w1
  exact ⟨⟨p, q⟩, rfl, hp, hq⟩
end Go.Proofs.Yteihffnmgacfpaa.Ne
