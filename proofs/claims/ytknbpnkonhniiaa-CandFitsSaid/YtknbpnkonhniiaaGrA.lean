/- Grids: maps with struct keys: 'm[k] = append(m[k], x)': the entry and its store; a cell as a key. -/
import Derived.Test.YtknbpnkonhniiaaBase6
import Derived.Test.YtknbpnkonhniiaaBx
import Derived.Maps.OwnSet
import Derived.Maps.OwnOps
import Derived.WideKeyEntry
import Derived.DeepKeys4
namespace Go.Proofs.Ytknbpnkonhniiaa.Gr
open Go.RowKit Go.V Go.Proofs Go.Maps Go.WideElems Go.WideMaps
open Go.ChangeMaps (setBlock heap_setBlock_same heap_setBlock_other)

/-- What a map has, as it lies. -/
def heldR (v : Value) : Option (DataW Value × List MemPlace) := some (.held v, [])
theorem setBlock_grown {w : World} {b : Nat} {es : Array MapEntry} {clock : Nat} (hb : w.heap[b]? = some (.map es clock)) (o : Obj) : w.grownBy (setBlock w b o) (some b) :=
  ⟨rfl, rfl, rfl, by simp [setBlock], fun i _ hi => heap_setBlock_other hb _ (fun e => hi (by rw [e]))⟩
/-- The entry is taken, something is done elsewhere, the entry is stored. -/
theorem entry_own {P : Program} {k t e : TypeId} {w : World} {b n : Nat} {D : DataW Value} (L : KeyLaw P k) (ht : P.underlying t = some (.map k e)) {z : Value} (hz : ∀ u : World, (zeroValue e).run P u = .ok z u) (h : w.ownsMap P k heldR b n D) (hn : n < maxLen) {key : Value} {kl : Lit} (hkey : keyOf P k key = some kl) :
    ∃ (v0 : Value) (st : Nat) (w1 : World), (Instr.mapEntry t (.map (some b)) key).run P w = .ok (.tuple #[v0, goInt st]) w1 ∧ D.atKey kl (.held z) = .held v0 ∧ (Maps.has D kl = false → v0 = z) ∧ w.grownBy w1 (some b) ∧
      ∀ (w2 : World) (val : Value), w2.heap[b]? = w1.heap[b]? → ∃ w3, (Instr.entryStore t (.map (some b)) (goInt st) val).run P w2 = .ok () w3 ∧ w3.ownsMap P k heldR b (n + 1) (D.put kl (.held val)) ∧ w2.grownBy w3 (some b) := by
  have K := Keyed.of_law L
  have h0 := h
  obtain ⟨es, clock, hb, F, hs, hD⟩ := h
  obtain ⟨v0, st, es1, clock1, hrun, hcase, hstore⟩ := entry_then_store L ht hz hb F hkey
  have hb1 : (setBlock w b (.map es1 clock1)).heap[b]? = some (.map es1 clock1) := heap_setBlock_same hb _
  refine ⟨v0, st, _, hrun, ?_, ?_, setBlock_grown hb _, fun w2 val hw2 => ?_⟩
  · rw [hD]
    rcases hcase with ⟨e0, hm0, hk0, rfl⟩ | ⟨hno, rfl⟩
    · obtain ⟨y, hy⟩ := F.reads e0 hm0
      obtain ⟨zz, hz1, hz2⟩ := rd_val hy
      have m1 := rd_key hy
      rw [hk0, hkey] at m1
      have hat := Go.WideShapes.atKey_sorted (es.toList.map (rg P k heldR)) (fit_rising K F) kl (K.key hkey)
      have := hat.2 (rg P k heldR e0) (List.mem_map.2 ⟨e0, hm0, rfl⟩) (by rw [rg_of hy]; exact (Option.some.inj m1).symm) (.held z)
      rw [this, rg_of hy, hz2]
      unfold heldR at hz1
      cases hz1
      rfl
    · rcases Maps.fit_look false K ht (hz w) hb F hkey with ⟨-, -, hat⟩ | ⟨e0, y, h1, h2, -⟩
      · exact hat _
      · exact absurd h2 (hno e0 h1)
  · intro hh
    rcases hcase with ⟨e0, hm0, hk0, rfl⟩ | ⟨-, h2⟩
    · exfalso
      obtain ⟨y, hy⟩ := F.reads e0 hm0
      have m1 := rd_key hy
      rw [hk0, hkey] at m1
      have hat := Go.WideShapes.atKey_sorted (es.toList.map (rg P k heldR)) (fit_rising K F) kl (K.key hkey)
      have hu := fun zz => hat.2 (rg P k heldR e0) (List.mem_map.2 ⟨e0, hm0, rfl⟩) (by rw [rg_of hy]; exact (Option.some.inj m1).symm) zz
      have a1 := hu .nil
      have a2 := hu (.held z)
      rw [← hD, Maps.atKey_of_not_has hh] at a1 a2
      rw [← a1] at a2
      cases a2
    · exact h2
  · rw [hb1] at hw2
    obtain ⟨es', clock', hr1, hr2⟩ := hstore w2 val hw2
    obtain ⟨w', hu1, hu2, -⟩ := h0.update K ht hn hkey (show heldR val = some (.held val, []) from rfl)
    rw [hr2] at hu1
    have he : setBlock w b (.map es' clock') = w' := by cases hu1; rfl
    have hbb : (setBlock w b (.map es' clock')).heap[b]? = some (.map es' clock') := heap_setBlock_same hb _
    refine ⟨_, hr1, ?_, setBlock_grown hw2 _⟩
    obtain ⟨fs, c, q1, q2, q3, q4⟩ := hu2
    rw [← he, hbb] at q1
    cases q1
    exact ⟨_, _, heap_setBlock_same hw2 _, q2, q3, q4⟩
/-! ### A cell as a key -/
theorem laidOut : laidOutB Try.prog = true := by kernel_rfl
set_option maxRecDepth 100000 in
theorem rowCell : (67 : TypeId) < Try.prog.types.size := of_decide_eq_true (by kernel_rfl)
theorem wideCell : (match Try.prog.underlying 67 with | some (.array _ _) | some (.struct _) => true | _ => false) = true := by rw [Try.underlying67]
set_option maxRecDepth 100000 in
theorem lawCell : KeyLaw Try.prog 67 := deep_law_laid laidOut (m := 3) (by omega) rowCell (by kernel_rfl) wideCell
abbrev cellV (x y : Int) : Value := .agg #[.int .i64 x, .int .i64 y]
def cellK (x y : Int) : Lit := .string (keyBytes [.int .i64 x, .int .i64 y])
set_option maxRecDepth 100000 in
theorem keyOf_cell {x y : Int} (wx : (Lit.int .i64 x).wf = true) (wy : (Lit.int .i64 y).wf = true) : keyOf Try.prog 67 (cellV x y) = some (cellK x y) := by
  have hkt : Try.prog.keyType 67 = true := by kernel_rfl
  have hf : (cellV x y).formed Try.prog 67 = true := by
    have hc : Try.prog.cellsOf 67 = 2 := by kernel_rfl
    simp [Value.formed, Try.underlying67, hc]
  obtain ⟨m, hm⟩ : ∃ m, Try.prog.types.size = m + 1 := ⟨_, (Nat.succ_pred_eq_of_pos (Nat.lt_of_le_of_lt (Nat.zero_le _) rowCell)).symm⟩
  unfold keyOf
  simp only [Try.underlying67]
  rw [if_pos (by rw [hkt, hf]; rfl), hm]
  have hci : Try.prog.cellsOf 3 = 1 := by kernel_rfl
  have hc : Try.prog.cellsOf 67 = 2 := by kernel_rfl
  unfold Program.keyLits
  simp only [Try.underlying67, Value.cells]
  rw [if_pos (by simp [hc])]
  simp [hci, Program.keyLits, Try.underlying3, wx, wy, cellK]
set_option maxRecDepth 100000 in
theorem cellK_inj {x y x' y' : Int} (wx : (Lit.int .i64 x).wf = true) (wy : (Lit.int .i64 y).wf = true) (wx' : (Lit.int .i64 x').wf = true) (wy' : (Lit.int .i64 y').wf = true) (h : cellK x y = cellK x' y') : x = x' ∧ y = y' := by
  have h1 := keyOf_cell wx wy
  have h2 := keyOf_cell wx' wy'
  rw [← h] at h2
  have := (Keyed.of_law lawCell).inj h1 h2
  simp at this
  exact this
end Go.Proofs.Ytknbpnkonhniiaa.Gr
