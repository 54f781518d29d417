/- Bytes compared: bytes.Equal, walked. -/
import Derived.Test.YtnjgonplojpcnaaWiM
import Derived.Lib.Bytes
namespace Go.Proofs.Ytnjgonplojpcnaa.Wi
open Go.RowKit Go.V Go.Proofs Go.Sort

theorem conv_sl {w : World} {a : Option Addr} {n cap : Nat} {xs : List Int} (h : Sl bcod w a n cap xs) : (convert 23 9 (.slice a n cap)).run Try.prog w = .ok (.string (strOfNums xs)) w := by
  cases a with
  | none =>
    obtain ⟨rfl, rfl⟩ := h.hnil rfl
    have hx : xs = [] := List.eq_nil_of_length_eq_zero h.hlen.symm
    subst hx
    exact run_convert_bytes_nil w 23 5 Try.underlying23 Try.underlying5 0 0 9 Try.underlying9
  | some d =>
    obtain ⟨h1, h2, h3⟩ := h.hat d rfl
    obtain ⟨b, off, sp⟩ := d
    simp at h1; subst h1
    refine run_convert_bytes_arg w 23 5 Try.underlying23 Try.underlying5 b off n cap xs h.hlen.symm (fun i hi => ?_) 9 Try.underlying9
    obtain ⟨b', off', r, e, -, hr, hc⟩ := byte_at h hi
    cases e
    rw [hc, List.getD, hr]; rfl
/-- Pieces of a slice of bytes: their values, and what they read as. -/
theorem bpiece {w : World} {a : Option Addr} {n cap lo hi : Nat} {xs : List Int} (h : Sl bcod w a n cap xs) (h1 : lo ≤ hi) (h2 : hi ≤ n) :
    ∃ pa pc, (∀ W, (Instr.slice 23 (.slice a n cap) (some (.int .i64 (lo : Int))) (some (.int .i64 (hi : Int))) none).run Try.prog W = .ok (.slice pa (hi - lo) pc) W) ∧ Sl bcod w pa (hi - lo) pc ((xs.take hi).drop lo) := by
  refine ⟨_, _, fun W => brun_piece h h1 h2 W, ?_⟩
  have := (sl_from h (show lo ≤ n by omega)).upto (show hi - lo ≤ n - lo by omega)
  rwa [← List.drop_take] at this
theorem bfrom {w : World} {a : Option Addr} {n cap lo : Nat} {xs : List Int} (h : Sl bcod w a n cap xs) (h1 : lo ≤ n) :
    ∃ pa pc, (∀ W, (Instr.slice 23 (.slice a n cap) (some (.int .i64 (lo : Int))) none none).run Try.prog W = .ok (.slice pa (n - lo) pc) W) ∧ Sl bcod w pa (n - lo) pc (xs.drop lo) :=
  ⟨_, _, fun W => brun_from h h1 W, sl_from h h1⟩
theorem bupto {w : World} {a : Option Addr} {n cap hi : Nat} {xs : List Int} (h : Sl bcod w a n cap xs) (h1 : hi ≤ n) :
    (∀ W, (Instr.slice 23 (.slice a n cap) none (some (.int .i64 (hi : Int))) none).run Try.prog W = .ok (.slice a hi cap) W) ∧ Sl bcod w a hi cap (xs.take hi) :=
  ⟨fun W => brun_upto h h1 W, h.upto h1⟩

theorem bytesOf_inj : ∀ {xs ys : List Int}, Byt xs → Byt ys → Lib.bytesOf xs = Lib.bytesOf ys → xs = ys
  | [], [], _, _, _ => rfl
  | [], _ :: _, _, _, h => by simp [Lib.bytesOf] at h
  | _ :: _, [], _, _, h => by simp [Lib.bytesOf] at h
  | x :: xs, y :: ys, hx, hy, h => by
    have h1 : UInt8.ofNat x.toNat = UInt8.ofNat y.toNat ∧ Lib.bytesOf xs = Lib.bytesOf ys := List.cons_eq_cons.1 h
    have hx1 := hx x (by simp)
    have hy1 := hy y (by simp)
    have h2 := congrArg UInt8.toNat h1.1
    simp at h2
    rw [bytesOf_inj (fun z hz => hx z (by simp [hz])) (fun z hz => hy z (by simp [hz])) h1.2]
    congr 1
    omega
theorem bytesOf_eq {xs ys : List Int} (hx : Byt xs) (hy : Byt ys) : ((strOfNums xs).toList == (strOfNums ys).toList) = decide (xs = ys) := by
  rw [Lib.strOfNums_toList, Lib.strOfNums_toList]
  by_cases h : xs = ys
  · subst h; simp
  · rw [decide_eq_false h, beq_eq_false_iff_ne]
    exact fun e => h (bytesOf_inj hx hy e)

theorem bequal_any (a : Option Addr) (n cap : Nat) (xs : List Int) (a2 : Option Addr) (n2 cap2 : Nat) (ys : List Int) (w : World) (h : Sl bcod w a n cap xs) (h2 : Sl bcod w a2 n2 cap2 ys) (hx : Byt xs) (hy : Byt ys) :
    Calls Try.prog 91 #[.slice a n cap, .slice a2 n2 cap2] w fun e w' => e = .returned (.bool (decide (xs = ys))) ∧ w' = w := by
  rw [← bytesOf_eq hx hy]
  have c1 := conv_sl h
  have c2 := conv_sl h2
  go_enter Try.func91, Try.ntmps91
  go_wp2
  go_ret
  exact ⟨rfl, rfl⟩
end Go.Proofs.Ytnjgonplojpcnaa.Wi
