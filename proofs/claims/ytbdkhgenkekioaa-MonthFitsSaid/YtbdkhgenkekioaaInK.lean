/- The builtin copy at rows of things of several cells: laws of no program. -/
import Derived.Test.YtbdkhgenkekioaaBy
import Derived.Lib.AppendZerosOnto
import Derived.Lib.Overlaps
import Derived.Lib.Walk
import Derived.Laws.Externs
import Derived.Laws.NewBlocks
import Derived.Laws.CopyRow
import Derived.Deep.RegionHeld3
namespace Go.Proofs.Ytbdkhgenkekioaa.In
open Go.RowKit Go.V Go.Proofs
open Go.Proofs.Ytbdkhgenkekioaa.Ne (box_alloc box_new box_cell box_below box_lt)

/-- The row cur, cs written over it from place o on. -/
def spl (cur : List Value) (o : Nat) (cs : List Value) : List Value := cur.take o ++ cs ++ cur.drop (o + cs.length)
theorem spl_len {cur cs : List Value} {o : Nat} (h : o + cs.length ≤ cur.length) : (spl cur o cs).length = cur.length := by
  unfold spl
  simp only [List.length_append, List.length_take, List.length_drop]
  omega
theorem spl_at {cur cs : List Value} {o j : Nat} {v : Value} (h : o + cs.length ≤ cur.length) (hj : cs[j]? = some v) : (spl cur o cs)[o + j]? = some v := by
  have hl := (List.getElem?_eq_some_iff.1 hj).1
  unfold spl
  rw [List.append_assoc, List.getElem?_append_right (by rw [List.length_take]; omega), List.length_take, Nat.min_eq_left (by omega), Nat.add_sub_cancel_left, List.getElem?_append_left hl]
  exact hj
theorem spl_lo {cur cs : List Value} {o j : Nat} (h : o + cs.length ≤ cur.length) (hj : j < o) : (spl cur o cs)[j]? = cur[j]? := by
  unfold spl
  rw [List.append_assoc, List.getElem?_append_left (by rw [List.length_take]; omega), List.getElem?_take_of_lt hj]
theorem setRow_grown {w : World} {g : Nat} {old cs : Array Value} {t : TypeId} {fr : Nat × Nat} (_ : w.heap[g]? = some (.cells old t fr)) : w.grownBy (w.setRow g cs) (some g) :=
  ⟨rfl, rfl, rfl, by simp [World.setRow], fun k _ hk => setRow_other w g k cs (fun e => hk (by rw [e]))⟩
theorem copy_runK {P : Program} (w : World) (T ty elem : TypeId) (g o dLen dCap : Nat) (a : Addr) (sLen sCap : Nat) (cur : List Value) (t : TypeId) (cs : List Value) (c K : Nat)
    (hu : P.underlying T = some (.slice elem)) (hs : (P.info? elem).map (·.size) = some K)
    (hg : w.heap[g]? = some (.cells cur.toArray t (0, 0))) (hm : c = Nat.min sLen dLen) (hc : cs.length = c * K)
    (hsrc : ∀ j v, cs[j]? = some v → w.cell? (a.add j) = some v) (hfit : o + c * K ≤ cur.length) (h1 : ∀ v ∈ cs, v.oneCell' = true) :
    (Builtin.copy_ #[T, T] ty #[.slice (some ⟨g, o, none⟩) dLen dCap, .slice (some a) sLen sCap]).run P w = .ok (.int .i64 c) (w.setRow g (spl cur o cs).toArray) := by
  have hl := run_loadCells_list (P := P) w a cs hsrc
  have hst := run_storeCells_at P g o t cs 0 cur.toArray w hg (by simpa [hc] using hfit) h1
  cases hq : P.info? elem with
  | none => simp [hq] at hs
  | some i =>
    have hi : i.size = K := by simpa [hq] using hs
    rw [hc] at hl
    simp only [Nat.add_zero] at hst
    simp [Builtin.copy_, run_underlying hu, Builtin.lenOf, Builtin.firstCells, sizeOf, typeInfo, hq, hi, ← hm, hl, hst, spl, goInt]
theorem spl_heap {w : World} {g : Nat} {cur : List Value} {t : TypeId} (o : Nat) (cs : List Value) (hg : w.heap[g]? = some (.cells cur.toArray t (0, 0))) : (w.setRow g (spl cur o cs).toArray).heap[g]? = some (.cells (spl cur o cs).toArray t (0, 0)) := setRow_heap w g _ _ t _ hg
theorem row_cell {w : World} {g : Nat} {cur : List Value} {t : TypeId} (hg : w.heap[g]? = some (.cells cur.toArray t (0, 0))) (j : Nat) : w.cell? ⟨g, j, none⟩ = cur[j]? := by
  simp [World.cell?, hg]
/-- Room made at i, and x put there. -/
theorem spl_shift {A X D : List Value} {cur R : List Value} {i k : Nat} (hA : A.length = i) (hX : X.length = k) (hc : cur = A ++ D ++ R) (hR : k ≤ R.length) :
    ((spl (spl cur (i + k) D) i X).take (i + k + D.length)) = A ++ X ++ D := by
  subst hc
  have e1 : spl (A ++ D ++ R) (i + k) D = (A ++ D ++ R).take (i + k) ++ D ++ (A ++ D ++ R).drop (i + k + D.length) := rfl
  have e2 : ((A ++ D ++ R).take (i + k)).take i = A := by
    rw [List.take_take, Nat.min_eq_left (by omega), List.append_assoc, List.take_append_of_le_length (by omega), List.take_of_length_le (by omega)]
  have hl : ((A ++ D ++ R).take (i + k)).length = i + k := by
    rw [List.length_take]; simp only [List.length_append]; omega
  have e3 : spl (spl (A ++ D ++ R) (i + k) D) i X = A ++ X ++ (D ++ (A ++ D ++ R).drop (i + k + D.length)) := by
    rw [e1]
    show List.take i _ ++ X ++ List.drop (i + X.length) _ = _
    rw [List.append_assoc (List.take (i + k) _), List.take_append_of_le_length (by omega), e2, hX, List.drop_append, List.drop_eq_nil_of_le (by omega), hl, Nat.sub_self]
    rfl
  rw [e3]
  have e4 : A ++ X ++ (D ++ (A ++ D ++ R).drop (i + k + D.length)) = (A ++ X ++ D) ++ (A ++ D ++ R).drop (i + k + D.length) := by simp
  rw [e4, List.take_append_of_le_length (by simp; omega), List.take_of_length_le (by simp; omega)]
theorem spl_two {A X D Z : List Value} {i n K : Nat} (hA : A.length = i * K) (hX : X.length = K) (hD : D.length = (n - i) * K) (hi : i ≤ n) :
    (spl (spl (A ++ Z) (i * K) X) ((i + 1) * K) D).take ((n + 1) * K) = A ++ X ++ D := by
  have e0 : (i + 1) * K = i * K + K := by rw [Nat.add_mul, Nat.one_mul]
  have e5 : (n + 1) * K = (A ++ X ++ D).length := by
    rw [List.length_append, List.length_append, hA, hX, hD, Nat.sub_mul, Nat.add_mul, Nat.one_mul]
    have := Nat.mul_le_mul_right K hi
    omega
  have e1 : spl (A ++ Z) (i * K) X = A ++ X ++ (A ++ Z).drop (i * K + X.length) := by
    unfold spl
    rw [← hA, List.take_append_of_le_length (Nat.le_refl _), List.take_of_length_le (Nat.le_refl _)]
  have e2 : spl (A ++ X ++ (A ++ Z).drop (i * K + X.length)) ((i + 1) * K) D = A ++ X ++ D ++ (A ++ X ++ (A ++ Z).drop (i * K + X.length)).drop ((i + 1) * K + D.length) := by
    show List.take ((i + 1) * K) _ ++ D ++ _ = _
    rw [List.take_append_of_le_length (by rw [List.length_append, hA, hX, e0]; exact Nat.le_refl _), List.take_of_length_le (by rw [List.length_append, hA, hX, e0]; exact Nat.le_refl _)]
  rw [e1, e2, e5, List.take_append_of_le_length (Nat.le_refl _), List.take_of_length_le (Nat.le_refl _)]
end Go.Proofs.Ytbdkhgenkekioaa.In
