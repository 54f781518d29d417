/- Grids: the map of rows: as it is written, as it is read. -/
import Derived.Test.YtknbpnkonhniiaaGrE
import Derived.Maps.Views
namespace Go.Proofs.Ytknbpnkonhniiaa.Ne
open Go.RowKit Go.V Go.Proofs
open Go.Maps (Keyed)

theorem gi64_wf {x : Int} (h1 : -4611686018427387904 ≤ x) (h2 : x ≤ 4611686018427387904) : Iok x := by
  simp [Iok, Lit.wf, IntKind.min, IntKind.max, IntKind.signed, IntKind.bits]
  omega
def gK (x y : Int) : Lit := Gr.cellK x y
abbrev noRow : Value := .slice none 0 0
theorem grb_trans {w w1 w2 : World} {r : Option Nat} (h : w.grownBy w1 r) (h' : w1.grownBy w2 r) : w.grownBy w2 r :=
  ⟨h'.os.trans h.os, h'.tape.trans h.tape, h'.output.trans h.output, Nat.le_trans h.size h'.size, fun i hi hne => (h'.block i (Nat.lt_of_lt_of_le hi h.size) hne).trans (h.block i hi hne)⟩
theorem grb_below {w w1 w2 : World} {r : Option Nat} (h : w.grownBy w1 r) (h' : Below w1.heap.size w1 w2) : w.grownBy w2 r :=
  grb_trans h ⟨h'.os, h'.tape, h'.output, h'.size, fun i hi _ => h'.block i hi⟩
theorem grb_lower {w w1 w2 : World} {B b : Nat} (h : Below B w w1) (h' : w1.grownBy w2 (some b)) (hb : B ≤ b) (hB : B ≤ w1.heap.size) : Below B w w2 :=
  ⟨h'.os.trans h.os, h'.tape.trans h.tape, h'.output.trans h.output, Nat.le_trans h.size h'.size, fun i hi => (h'.block i (Nat.lt_of_lt_of_le hi hB) (fun e => by have := Option.some.inj e; omega)).trans (h.block i hi)⟩
/-- The map as it is written: rows of the call's own, side by side. -/
def GMapO (B : Nat) (w : World) (b n : Nat) (f : Int → Int → List Int) : Prop :=
  ∃ (D : DataW Value) (U : Int → Int → Value), w.ownsMap Try.prog 67 Gr.heldR b n D ∧
    (∀ x y, Iok x → Iok y → D.atKey (gK x y) (.held noRow) = .held (U x y) ∧ Go.V.Own 3 icod B w (U x y) (f x y)) ∧
    (∀ x y x' y', Iok x → Iok y → Iok x' → Iok y' → ¬ (x = x' ∧ y = y') → Apart (U x y) (U x' y'))
/-- The map as it is read. -/
def GMap (w : World) (b : Nat) (f : Int → Int → List Int) : Prop :=
  ∃ (n : Nat) (D : DataW Value) (U : Int → Int → Hdr), w.ownsMap Try.prog 67 Gr.heldR b n D ∧
    ∀ x y, Iok x → Iok y → D.atKey (gK x y) (.held noRow) = .held (.slice (U x y).a (U x y).n (U x y).cap) ∧ Sl icod w (U x y).a (U x y).n (U x y).cap (f x y)
theorem GMap.below {w w' : World} {b : Nat} {f : Int → Int → List Int} (h : GMap w b f) (hb : Below w.heap.size w w') : GMap w' b f := by
  obtain ⟨n, D, U, h1, h2⟩ := h
  exact ⟨n, D, U, h1.kept (row := none) ⟨hb.os, hb.tape, hb.output, hb.size, fun i hi _ => hb.block i hi⟩ (by simp), fun x y hx hy => ⟨(h2 x y hx hy).1, (h2 x y hx hy).2.below hb⟩⟩
theorem own_ne_map {α : Type} {c : Cod α} {e : TypeId} {B : Nat} {w : World} {u : Value} {xs : List α} (ho : Go.V.Own e c B w u xs) {b : Nat} {es : Array MapEntry} {clock : Nat} (hb : w.heap[b]? = some (.map es clock)) : u.ownBlock ≠ some b := by
  intro hu
  obtain ⟨h1, h2⟩ := ho
  rcases h2 with ⟨rfl, -⟩ | ⟨g, cap, cur, rfl, -, hg, -⟩
  · cases hu
  · cases hu
    rw [hb] at hg; cases hg
theorem ownsMap_is {w : World} {b n : Nat} {D : DataW Value} (h : w.ownsMap Try.prog 67 Gr.heldR b n D) : ∃ es clock, w.heap[b]? = some (.map es clock) := by
  obtain ⟨es, clock, hb, -⟩ := h
  exact ⟨es, clock, hb⟩
theorem ownsMap_map {w : World} {b n : Nat} {D : DataW Value} (h : w.ownsMap Try.prog 67 Gr.heldR b n D) : Maps.IsMap D := by
  obtain ⟨es, clock, -, -, -, rfl⟩ := h
  exact ⟨_, rfl⟩
theorem GMapO.close {B : Nat} {w : World} {b n : Nat} {f : Int → Int → List Int} (h : GMapO B w b n f) : GMap w b f := by
  obtain ⟨D, U, h1, h2, -⟩ := h
  have hU : ∀ x y, ∃ q : Hdr, Iok x → Iok y → U x y = .slice q.a q.n q.cap ∧ Sl icod w q.a q.n q.cap (f x y) := by
    intro x y
    by_cases hx : Iok x ∧ Iok y
    · obtain ⟨a, cap, e, hs, -⟩ := (h2 x y hx.1 hx.2).2.slice
      exact ⟨⟨a, _, cap⟩, fun _ _ => ⟨e, hs⟩⟩
    · exact ⟨⟨none, 0, 0⟩, fun h1 h2 => absurd ⟨h1, h2⟩ hx⟩
  refine ⟨n, D, fun x y => (hU x y).choose, h1, fun x y hx hy => ?_⟩
  have hq := (hU x y).choose_spec hx hy
  exact ⟨by rw [(h2 x y hx hy).1, hq.1], hq.2⟩
theorem GMapO.made (B : Nat) (w : World) : GMapO B (w.alloc (.map #[] 0)) w.heap.size 0 (fun _ _ => []) :=
  ⟨.map [], fun _ _ => noRow, World.ownsMap_made _ _ _ _, fun _ _ _ _ => ⟨rfl, World.ownsRow_nil _ _ _ _⟩, fun _ _ _ _ _ _ _ _ _ => Apart.nil⟩
theorem GMapO.kept {B : Nat} {w w' : World} {b n : Nat} {f : Int → Int → List Int} (h : GMapO B w b n f) (hb : Below w.heap.size w w') : GMapO B w' b n f := by
  obtain ⟨D, U, h1, h2, h3⟩ := h
  exact ⟨D, U, h1.kept (row := none) ⟨hb.os, hb.tape, hb.output, hb.size, fun i hi _ => hb.block i hi⟩ (by simp), fun x y hx hy => ⟨(h2 x y hx hy).1, (h2 x y hx hy).2.below hb⟩, h3⟩
theorem key_of {x y : Int} (hx : Iok x) (hy : Iok y) : keyOf Try.prog 67 (Gr.cellV x y) = some (gK x y) := Gr.keyOf_cell hx hy
set_option maxRecDepth 100000 in
theorem zero_ints (u : World) : (zeroValue 44).run Try.prog u = .ok noRow u := by kernel_rfl
theorem GMap.look {w : World} {b : Nat} {f : Int → Int → List Int} (h : GMap w b f) {x y : Int} (hx : Iok x) (hy : Iok y) :
    ∃ q : Hdr, (Instr.lookup 64 (.map (some b)) (Gr.cellV x y) false).run Try.prog w = .ok (.slice q.a q.n q.cap) w ∧ Sl icod w q.a q.n q.cap (f x y) := by
  obtain ⟨n, D, U, h1, h2⟩ := h
  obtain ⟨v, ps, r1, r2⟩ := h1.lookup (Keyed.of_law Gr.lawCell) Try.underlying64 (zero_ints w) (show Gr.heldR noRow = some (.held noRow, []) from rfl) (key_of hx hy)
  obtain ⟨h3, h4⟩ := h2 x y hx hy
  rw [h3] at r2
  unfold Gr.heldR at r2
  cases r2
  exact ⟨_, r1, h4⟩
/-- The entry of a cell is taken; its row grows by one; it is stored. -/
theorem GMapO.entry {B : Nat} {w : World} {b n : Nat} {f : Int → Int → List Int} (h : GMapO B w b n f) (hn : n < maxLen) {x y : Int} (hx : Iok x) (hy : Iok y) :
    ∃ (v0 : Value) (st : Nat) (w1 : World), (Instr.mapEntry 64 (.map (some b)) (Gr.cellV x y)).run Try.prog w = .ok (.tuple #[v0, goInt st]) w1 ∧ Go.V.Own 3 icod B w1 v0 (f x y) ∧ w.grownBy w1 (some b) ∧
      ∀ (w1' w2 : World) (v' : Value) (i : Int), Below w1.heap.size w1 w1' → Go.V.Own 3 icod B w2 v' (f x y ++ [i]) → w1'.grownBy w2 v0.ownBlock → (v'.ownBlock = v0.ownBlock ∨ v'.ownBlock = some w1'.heap.size) →
        ∃ w3, (Instr.entryStore 64 (.map (some b)) (goInt st) v').run Try.prog w2 = .ok () w3 ∧ GMapO B w3 b (n + 1) (fun x' y' => if x' = x ∧ y' = y then f x y ++ [i] else f x' y') ∧ ∀ wb : World, wb.heap.size ≤ B → wb.grownBy w (some b) → wb.grownBy w3 (some b) := by
  obtain ⟨D, U, h1, h2, h3⟩ := h
  obtain ⟨v0, st, w1, r1, r2, -, r4, r5⟩ := Gr.entry_own Gr.lawCell Try.underlying64 zero_ints h1 hn (key_of hx hy)
  obtain ⟨g1, g2⟩ := h2 x y hx hy
  have hv : v0 = U x y := by
    have : (DataW.held v0 : DataW Value) = .held (U x y) := by rw [← r2]; exact g1
    cases this; rfl
  subst hv
  obtain ⟨es, clock, hbm⟩ := ownsMap_is h1
  have hk : ∀ {x' y'}, Iok x' → Iok y' → Go.V.Own 3 icod B w1 (U x' y') (f x' y') := fun hx' hy' => (h2 _ _ hx' hy').2.kept r4 (.inr (own_ne_map (h2 _ _ hx' hy').2 hbm))
  refine ⟨_, st, w1, r1, hk hx hy, r4, fun w1' w2 v' i b1 ho' gr hat => ?_⟩
  have hne : (U x y).ownBlock ≠ some b := own_ne_map g2 hbm
  have hbl : b < w1.heap.size := Nat.lt_of_lt_of_le h1.lt r4.size
  have hbb : w2.heap[b]? = w1.heap[b]? := by
    rw [gr.block b (Nat.lt_of_lt_of_le hbl b1.size) (fun e => hne e.symm)]
    exact b1.block b hbl
  obtain ⟨w3, s1, s2, s3⟩ := r5 w2 v' hbb
  refine ⟨w3, s1, ⟨_, fun x' y' => if x' = x ∧ y' = y then v' else U x' y', s2, fun x' y' hx' hy' => ?_, fun x1 y1 x2 y2 hx1 hy1 hx2 hy2 hne2 => ?_⟩, fun wb hB q => ?_⟩
  · by_cases hh : x' = x ∧ y' = y
    · obtain ⟨rfl, rfl⟩ := hh
      simp only [and_self, if_true]
      refine ⟨Maps.atKey_put_same (ownsMap_map h1) ((Keyed.of_law Gr.lawCell).key (key_of hx hy)) _ _, ?_⟩
      refine ho'.kept s3 (.inr fun e => ?_)
      rcases hat with k | k
      · exact hne (k ▸ e)
      · rw [k] at e
        have := Option.some.inj e
        have := b1.size
        omega
    · simp only [if_neg hh]
      refine ⟨?_, ?_⟩
      · rw [Maps.atKey_put_other (show gK x' y' ≠ gK x y from fun e => hh (Gr.cellK_inj hx' hy' hx hy e))]
        exact (h2 x' y' hx' hy').1
      · have k1 := (hk hx' hy').below b1
        have k2 := k1.kept gr (h3 x' y' x y hx' hy' hx hy hh)
        exact k2.kept s3 (.inr (own_ne_map (h2 _ _ hx' hy').2 hbm))
  · by_cases q1 : x1 = x ∧ y1 = y
    · by_cases q2 : x2 = x ∧ y2 = y
      · exact absurd ⟨q1.1.trans q2.1.symm, q1.2.trans q2.2.symm⟩ hne2
      · simp only [if_pos q1, if_neg q2]
        exact (h3 x y x2 y2 hx hy hx2 hy2 (fun e => q2 ⟨e.1.symm, e.2.symm⟩)).next hat ((hk hx2 hy2).below b1)
    · by_cases q2 : x2 = x ∧ y2 = y
      · simp only [if_pos q2, if_neg q1]
        exact ((h3 x y x1 y1 hx hy hx1 hy1 (fun e => q1 ⟨e.1.symm, e.2.symm⟩)).next hat ((hk hx1 hy1).below b1)).symm
      · simp only [if_neg q1, if_neg q2]
        exact h3 x1 y1 x2 y2 hx1 hy1 hx2 hy2 hne2
  · have q1 := grb_below (grb_trans q r4) b1
    have hs1 := q1.size
    have q2 : wb.grownBy w2 (some b) := ⟨gr.os.trans q1.os, gr.tape.trans q1.tape, gr.output.trans q1.output, Nat.le_trans q1.size gr.size, fun i hi hne => (gr.block i (by omega) (fun e => by
      have := (World.ownsRow.lt (hk hx hy) i e.symm).1
      omega)).trans (q1.block i hi hne)⟩
    exact grb_trans q2 s3
end Go.Proofs.Ytknbpnkonhniiaa.Ne
