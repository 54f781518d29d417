/- Fields: the document's reader, walked. -/
/- Bytes compared: bytes.Equal, walked. -/
import Derived.Test.YtbdkhgenkekioaaWiJ
import Derived.Lib.QuietBelow
import Derived.Lib.Bytes
namespace Go.Proofs.Ytbdkhgenkekioaa.Wi
open Go.RowKit Go.V Go.Proofs Go.Sort
open Go.Proofs.Ytbdkhgenkekioaa.Ne (box_alloc box_new box_cell box_below box_lt box3_cells)

theorem brun_upto {w : World} {a : Option Addr} {n cap q : Nat} {xs : List Int} (h : Sl bcod w a n cap xs) (hq : q ≤ n) (W : World) : (Instr.slice 47 (.slice a n cap) none (some (.int .i64 (q : Int))) none).run Try.prog W = .ok (.slice a q cap) W := by
  have hc := h.hcap
  rw [run_slice_h W 47 a n cap (by kernel_rfl) .i64 (q : Int) (by omega) (by omega)]
  have e : (sizeOf (Try.prog.elem 47)).run Try.prog W = .ok 1 W := by kernel_rfl
  rw [e]
  show Result.ok (sliced a 0 (q : Int).toNat cap 1) W = _
  unfold sliced
  rw [Int.toNat_natCast, map_add0 h, ite_self]; rfl
theorem brun_from {w : World} {a : Option Addr} {n cap q : Nat} {xs : List Int} (h : Sl bcod w a n cap xs) (hq : q ≤ n) (W : World) : (Instr.slice 47 (.slice a n cap) (some (.int .i64 (q : Int))) none none).run Try.prog W = .ok (.slice (if cap = q then a else a.map (·.add (q * bcod.k))) (n - q) (cap - q)) W := by
  have hc := h.hcap
  rw [run_slice_l W 47 a n cap (by kernel_rfl) .i64 (q : Int) (by omega) (by omega)]
  have e : (sizeOf (Try.prog.elem 47)).run Try.prog W = .ok 1 W := by kernel_rfl
  rw [e]
  show Result.ok (sliced a (q : Int).toNat n cap 1) W = _
  unfold sliced
  rw [Int.toNat_natCast]; rfl

theorem brun_piece {w : World} {a : Option Addr} {n cap lo hi : Nat} {xs : List Int} (h : Sl bcod w a n cap xs) (h1 : lo ≤ hi) (h2 : hi ≤ n) (W : World) : (Instr.slice 47 (.slice a n cap) (some (.int .i64 (lo : Int))) (some (.int .i64 (hi : Int))) none).run Try.prog W = .ok (.slice (if cap = lo then a else a.map (·.add (lo * bcod.k))) (hi - lo) (cap - lo)) W := by
  have hc := h.hcap
  rw [run_slice_lh W 47 a n cap (by kernel_rfl) .i64 .i64 (lo : Int) (hi : Int) (by omega) (by omega) (by omega)]
  have e : (sizeOf (Try.prog.elem 47)).run Try.prog W = .ok 1 W := by kernel_rfl
  rw [e]
  show Result.ok (sliced a (lo : Int).toNat (hi : Int).toNat cap 1) W = _
  unfold sliced
  rw [Int.toNat_natCast, Int.toNat_natCast]; rfl

/-- A reader of the document's: its box. -/
def Rb (w : World) (g : Nat) (a : Option Addr) (n cap : Nat) (at_ : Nat) (bad : Int) : Prop := w.heap[g]? = some (.cells #[.slice a n cap, .int .i64 (at_ : Int), .int .i64 bad] 148 (0, 0))
theorem rread_any (a : Option Addr) (n cap : Nat) (w : World) : Calls Try.prog 66 #[.slice a n cap] w fun e w' => e = .returned (.pointer (some ⟨w.heap.size, 0, none⟩)) ∧ Rb w' w.heap.size a n cap 0 0 ∧ Below w.heap.size w w' := by
  go_enter Try.func66, Try.ntmps66
  go_wp2
  go_ret
  exact ⟨rfl, box_new w _, (Below.refl _ _).alloc (Nat.le_refl _) _⟩
end Go.Proofs.Ytbdkhgenkekioaa.Wi

namespace Go.Proofs.Ytbdkhgenkekioaa.Wi
open Go.RowKit Go.V Go.Proofs Go.Sort

theorem conv_sl {w : World} {a : Option Addr} {n cap : Nat} {xs : List Int} (h : Sl bcod w a n cap xs) : (convert 47 9 (.slice a n cap)).run Try.prog w = .ok (.string (strOfNums xs)) w := by
  cases a with
  | none =>
    obtain ⟨rfl, rfl⟩ := h.hnil rfl
    have hx : xs = [] := List.eq_nil_of_length_eq_zero h.hlen.symm
    subst hx
    exact run_convert_bytes_nil w 47 5 Try.underlying47 Try.underlying5 0 0 9 Try.underlying9
  | some d =>
    by_cases hc : 0 < cap
    case neg =>
      have hn : n = 0 := by have := h.hcap; omega
      subst hn
      have hx : xs = [] := List.eq_nil_of_length_eq_zero h.hlen.symm
      subst hx
      rw [run_convert_bytes_string w 47 9 5 _ 0 cap Try.underlying47 Try.underlying5 Try.underlying9]
      simp [Conv.bytesToString, loadCells]
      rfl
    obtain ⟨h1, h2, h3⟩ := h.hat d rfl hc
    obtain ⟨b, off, sp⟩ := d
    simp at h1; subst h1
    refine run_convert_bytes_arg w 47 5 Try.underlying47 Try.underlying5 b off n cap xs h.hlen.symm (fun i hi => ?_) 9 Try.underlying9
    obtain ⟨b', off', r, e, -, hr, hc⟩ := byte_at h hi
    cases e
    rw [hc, List.getD, hr]; rfl
/-- Pieces of a slice of bytes: their values, and what they read as. -/
theorem bpiece {w : World} {a : Option Addr} {n cap lo hi : Nat} {xs : List Int} (h : Sl bcod w a n cap xs) (h1 : lo ≤ hi) (h2 : hi ≤ n) :
    ∃ pa pc, (∀ W, (Instr.slice 47 (.slice a n cap) (some (.int .i64 (lo : Int))) (some (.int .i64 (hi : Int))) none).run Try.prog W = .ok (.slice pa (hi - lo) pc) W) ∧ Sl bcod w pa (hi - lo) pc ((xs.take hi).drop lo) := by
  refine ⟨_, _, fun W => brun_piece h h1 h2 W, ?_⟩
  have := (sl_from h (show lo ≤ n by omega)).upto (show hi - lo ≤ n - lo by omega)
  rwa [← List.drop_take] at this
theorem bfrom {w : World} {a : Option Addr} {n cap lo : Nat} {xs : List Int} (h : Sl bcod w a n cap xs) (h1 : lo ≤ n) :
    ∃ pa pc, (∀ W, (Instr.slice 47 (.slice a n cap) (some (.int .i64 (lo : Int))) none none).run Try.prog W = .ok (.slice pa (n - lo) pc) W) ∧ Sl bcod w pa (n - lo) pc (xs.drop lo) :=
  ⟨_, _, fun W => brun_from h h1 W, sl_from h h1⟩
theorem bupto {w : World} {a : Option Addr} {n cap hi : Nat} {xs : List Int} (h : Sl bcod w a n cap xs) (h1 : hi ≤ n) :
    (∀ W, (Instr.slice 47 (.slice a n cap) none (some (.int .i64 (hi : Int))) none).run Try.prog W = .ok (.slice a hi cap) W) ∧ Sl bcod w a hi cap (xs.take hi) :=
  ⟨fun W => brun_upto h h1 W, h.upto h1⟩

theorem bytesOf_inj : ∀ {xs ys : List Int}, Byt xs → Byt ys → Lib.bytesOf xs = Lib.bytesOf ys → xs = ys
  | [], [], _, _, _ => rfl
  | [], _ :: _, _, _, h => by simp [Lib.bytesOf] at h
  | _ :: _, [], _, _, h => by simp [Lib.bytesOf] at h
  | x :: xs, y :: ys, hx, hy, h => by
    have h1 : UInt8.ofNat x.toNat = UInt8.ofNat y.toNat ∧ Lib.bytesOf xs = Lib.bytesOf ys := List.cons_eq_cons.1 h
    have hx1 := hx x (by simp)
    have hy1 := hy y (by simp)
    have h2 := congrArg UInt8.toNat h1.1
    simp at h2
    rw [bytesOf_inj (fun z hz => hx z (by simp [hz])) (fun z hz => hy z (by simp [hz])) h1.2]
    congr 1
    omega
theorem bytesOf_eq {xs ys : List Int} (hx : Byt xs) (hy : Byt ys) : ((strOfNums xs).toList == (strOfNums ys).toList) = decide (xs = ys) := by
  rw [Lib.strOfNums_toList, Lib.strOfNums_toList]
  by_cases h : xs = ys
  · subst h; simp
  · rw [decide_eq_false h, beq_eq_false_iff_ne]
    exact fun e => h (bytesOf_inj hx hy e)

theorem bequal_any (a : Option Addr) (n cap : Nat) (xs : List Int) (a2 : Option Addr) (n2 cap2 : Nat) (ys : List Int) (w : World) (h : Sl bcod w a n cap xs) (h2 : Sl bcod w a2 n2 cap2 ys) (hx : Byt xs) (hy : Byt ys) :
    Calls Try.prog 141 #[.slice a n cap, .slice a2 n2 cap2] w fun e w' => e = .returned (.bool (decide (xs = ys))) ∧ w' = w := by
  rw [← bytesOf_eq hx hy]
  have c1 := conv_sl h
  have c2 := conv_sl h2
  go_enter Try.func141, Try.ntmps141
  go_wp2
  go_ret
  exact ⟨rfl, rfl⟩
end Go.Proofs.Ytbdkhgenkekioaa.Wi
