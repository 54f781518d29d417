/- Rows of numbers of one's own. -/
import Derived.Test.YtknbpnkonhniiaaBase6
import Derived.Test.YtknbpnkonhniiaaBx
import Derived.Deep.OwnRows
namespace Go.Proofs.Ytknbpnkonhniiaa.Ir
open Go.RowKit Go.V Go.Proofs
open Go.Proofs.Ytknbpnkonhniiaa.Ne (icod)

theorem infoI : (Try.prog.info? 3).map (fun i => (i.zero, i.size, i.bytes)) = some (some (.int .i64 0), 1, 8) := by kernel_rfl
theorem eltI : Elt Try.prog 44 3 icod 8 := Elt.of Try.underlying44 infoI rfl (by decide)
theorem own_below {α : Type} {c : Cod α} {T : TypeId} {base : Nat} {w w1 : World} {v : Value} {xs : List α} (h : V.Own T c base w v xs) (hg : w.grownBy w1 v.ownBlock) (hb : base ≤ w.heap.size) : Below base w w1 :=
  ⟨hg.os, hg.tape, hg.output, hg.size, fun k hk => hg.block k (by omega) (fun q => by
    have := (World.ownsRow.lt h k q.symm).1
    omega)⟩
theorem iflat_set : ∀ (xs : List Int) (i : Nat) (d : Int), (xs.flatMap icod.enc).set i (.int .i64 d) = (xs.set i d).flatMap icod.enc
  | [], _, _ => rfl
  | x :: xs, 0, d => rfl
  | x :: xs, i + 1, d => by
    have ih := iflat_set xs i d
    rw [List.set_cons_succ, List.flatMap_cons, List.flatMap_cons, ← ih]
    rfl
/-- One of a row of numbers is put anew. -/
theorem iset {T : TypeId} {base : Nat} {w : World} {b n cap : Nat} {xs : List Int} (h : V.Own T icod base w (.slice (some ⟨b, 0, none⟩) n cap) xs) (hn : n = xs.length) (i : Nat) (d : Int) :
    V.Own T icod base (w.setCell ⟨b, i, none⟩ (.int .i64 d)) (.slice (some ⟨b, 0, none⟩) n cap) (xs.set i d) ∧ w.grownBy (w.setCell ⟨b, i, none⟩ (.int .i64 d)) (some b) :=
  h.put hn i _ _ (by simp) (iflat_set xs i d)
theorem icells {T : TypeId} {base : Nat} {w : World} {b n cap : Nat} {xs : List Int} (h : V.Own T icod base w (.slice (some ⟨b, 0, none⟩) n cap) xs) (hn : n = xs.length) {i : Nat} (hi : i < n) :
    ∃ d, xs[i]? = some d ∧ w.cell? ⟨b, i, none⟩ = some (.int .i64 d) ∧ w.frozen? ⟨b, i, none⟩ = false ∧ b < w.heap.size := by
  have hx : xs[i]? = some xs[i] := by simp
  obtain ⟨h1, h2⟩ := h.at hn hx
  refine ⟨_, hx, ?_, h2 _, (World.ownsRow.lt h b rfl).2⟩
  have := h1 0 _ rfl
  simpa [icod] using this
theorem rep_flat (n : Nat) : (List.replicate n (0 : Int)).flatMap icod.enc = List.replicate n (Value.int .i64 0) := by
  induction n with
  | zero => rfl
  | succ n ih => rw [List.replicate_succ, List.flatMap_cons, ih]; rfl
/-- make([]int, n). -/
theorem own_made (w : World) (n base : Nat) (hb : base ≤ w.heap.size) (hm : n ≤ maxLen) :
    V.Own 3 icod base (w.alloc (.cells (madeCells #[.int .i64 0] n) 3)) (.slice (some ⟨w.heap.size, 0, none⟩) n n) (List.replicate n 0) :=
  own_new (c := icod) w _ 3 base (List.replicate n 0) n (by simp) hb hm (by rw [rep_flat, toList_madeCells_one])
theorem make_any (n : Nat) (hn : n ≤ 1000000) : ∀ w, (Instr.makeSlice 44 (.int .i64 (n : Int)) (.int .i64 (n : Int))).run Try.prog w = .ok (.slice (some ⟨w.heap.size, 0, none⟩) n n) (w.alloc (.cells (madeCells #[.int .i64 0] n) 3)) :=
  fun w => run_make_row' (P := Try.prog) 44 3 (.int .i64 0) 8 Try.underlying44 infoI rfl .i64 .i64 n (by omega) (by omega) w
end Go.Proofs.Ytknbpnkonhniiaa.Ir
