/- Grids: cells, lengths; the document's square: walked. -/
/- Rows of numbers of one's own. -/
/- Grids: the document's square; clones; which grids may be; cells by definition. -/
/- Grids: the stops of a cell, by definition. -/
/- Grids: the map of rows: as it is written, as it is read. -/
import Derived.Test.YtlfbbahihenilaaGreatMg03
import Derived.Test.YtlfbbahihenilaaGreatMg05
import Derived.Test.YtlfbbahihenilaaGreatMg00
import Derived.Deep.OwnRows
import Derived.Maps.Views
namespace Go.Proofs.YtlfbbahihenilaaGreat.Ne
open Go.RowKit Go.V Go.Proofs

theorem box_drew {w : World} {g : Nat} {o : Obj} (h : w.heap[g]? = some o) : w.drew.heap[g]? = some o := h
theorem box2_put {w : World} {g : Nat} {e : TypeId} {u0 u1 : Value} (h : w.heap[g]? = some (.cells #[u0, u1] e (0, 0))) (v0 v1 : Value) : ((w.setCell ⟨g, 0, none⟩ v0).setCell ⟨g, 1, none⟩ v1).heap[g]? = some (.cells #[v0, v1] e (0, 0)) := by
  have h1 := heap_setCell_same w g 0 _ e v0 h
  have h2 := heap_setCell_same _ g 1 _ e v1 h1
  rw [h2]; rfl
theorem below_put2 {w wr : World} {B g : Nat} (hb : Below B w wr) (hg : B ≤ g) (v0 v1 : Value) : Below B w ((wr.setCell ⟨g, 0, none⟩ v0).setCell ⟨g, 1, none⟩ v1) :=
  (hb.setCell (p := ⟨g, 0, none⟩) hg v0).setCell (p := ⟨g, 1, none⟩) hg v1
def GBox (w : World) (g : Nat) (hs : Hdr) (z : Int) (b : Nat) : Prop := w.heap[g]? = some (.cells #[.slice hs.a hs.n hs.cap, .int .i64 z, .map (some b)] 150 (0, 0))
theorem GBox.below {w w' : World} {g : Nat} {hs : Hdr} {z : Int} {b : Nat} (h : GBox w g hs z b) (hb : Below w.heap.size w w') : GBox w' g hs z b := box_below h hb
theorem GBox.cells {w : World} {g : Nat} {hs : Hdr} {z : Int} {b : Nat} (h : GBox w g hs z b) : g < w.heap.size ∧ w.cell? ⟨g, 0, none⟩ = some (.slice hs.a hs.n hs.cap) ∧ w.cell? ⟨g, 1, none⟩ = some (.int .i64 z) ∧ w.cell? ⟨g, 2, none⟩ = some (.map (some b)) :=
  ⟨box_lt h, (box_cell h 0).1, (box_cell h 1).1, (box_cell h 2).1⟩
abbrev gP (g : Nat) : Value := .pointer (some ⟨g, 0, none⟩)

set_option maxHeartbeats 400000 in
theorem gris_any (g : Nat) (hs : Hdr) (z : Int) (b : Nat) (w : World) (h : GBox w g hs z b) :
    Calls Tryz.prog 104 #[gP g] w fun e w' => e = .returned (.bool true) ∧ w = w' := by
  obtain ⟨h0, h1, h2, h3⟩ := h.cells
  have qT : ∀ (w : World) (r : Option Nat), (binOp .neq 148 (.map r) (.map none)).run Tryz.prog w = .ok (.bool (!r.isNone)) w := fun w r => run_neq_map_nil w _ _ _ r Tryz.underlying148
  go_enter Tryz.func104, Tryz.ntmps104
  go_wp2_with fail
  go_ret
  exact ⟨rfl, rfl⟩
set_option maxHeartbeats 400000 in
theorem grisn_any (w : World) :
    Calls Tryz.prog 104 #[.pointer none] w fun e w' => e = .returned (.bool false) ∧ w = w' := by
  go_enter Tryz.func104, Tryz.ntmps104
  go_wp2_with fail
  go_ret
  exact ⟨rfl, rfl⟩
set_option maxHeartbeats 400000 in
theorem grlen_any (g : Nat) (hs : Hdr) (z : Int) (b : Nat) (w : World) (h : GBox w g hs z b) :
    Calls Tryz.prog 83 #[gP g] w fun e w' => e = .returned (.int .i64 hs.n) ∧ w = w' := by
  obtain ⟨h0, h1, h2, h3⟩ := h.cells
  go_enter Tryz.func83, Tryz.ntmps83
  go_wp2_with (go_at_call 104; refine (gris_any g hs z b _ h).mono ?_; rintro e w1 ⟨rfl, rfl⟩)
  go_ret
  exact ⟨rfl, rfl⟩
set_option maxHeartbeats 400000 in
theorem grlenn_any (w : World) :
    Calls Tryz.prog 83 #[.pointer none] w fun e w' => e = .returned (.int .i64 0) ∧ w = w' := by
  go_enter Tryz.func83, Tryz.ntmps83
  go_wp2_with (go_at_call 104; refine (grisn_any _).mono ?_; rintro e w1 ⟨rfl, rfl⟩)
  go_ret
  exact ⟨rfl, rfl⟩
set_option maxHeartbeats 1000000 in
theorem grat_any (g : Nat) (hs : Hdr) (z : Int) (b : Nat) (x y : Int) (w : World) (h : GBox w g hs z b) (hz : 1 ≤ z) (hx : 0 ≤ x ∧ x < 67108864) (hy : 0 ≤ y ∧ y < 67108864) :
    Calls Tryz.prog 82 #[gP g, .int .i64 x, .int .i64 y] w fun e w' => e = .returned (.agg #[.int .i64 (x / z), .int .i64 (y / z)]) ∧ Below w.heap.size w w' := by
  obtain ⟨h0, h1, h2, h3⟩ := h.cells
  obtain ⟨x0, x1⟩ := hx
  obtain ⟨y0, y1⟩ := hy
  have HB0 : Hid (Below w.heap.size w (w.alloc (.cells #[.int .i64 0, .int .i64 0] 151))) := (Below.refl _ _).alloc (Nat.le_refl _) _
  have HX0 := Lib.hid (box_new w (.cells #[.int .i64 0, .int .i64 0] 151))
  have hz0 : z ≠ 0 := by omega
  obtain ⟨cx, hcx⟩ : ∃ c, x / z = c := ⟨_, rfl⟩
  obtain ⟨cy, hcy⟩ : ∃ c, y / z = c := ⟨_, rfl⟩
  have bx : 0 ≤ cx ∧ cx < 67108864 := by rw [← hcx]; exact ⟨Int.ediv_nonneg x0 (by omega), by have := Int.ediv_le_self z x0; omega⟩
  have bY : 0 ≤ cy ∧ cy < 67108864 := by rw [← hcy]; exact ⟨Int.ediv_nonneg y0 (by omega), by have := Int.ediv_le_self z y0; omega⟩
  have hwx : IntKind.i64.wrap (x.tdiv z) = cx := by rw [Int.tdiv_eq_ediv_of_nonneg x0, hcx, IntKind.wrap_i64]; omega
  have hwy : IntKind.i64.wrap (y.tdiv z) = cy := by rw [Int.tdiv_eq_ediv_of_nonneg y0, hcy, IntKind.wrap_i64]; omega
  have hn1 := World.new_ne w ⟨g, 1, none⟩ h2
  go_enter Tryz.func82, Tryz.ntmps82
  go_upto_region 1 with fail
  go_region_held3 (fun w' => w'.cell? ⟨g, 1, none⟩ = some (.int .i64 z)) (go_keep) (fail)
  all_goals
    go_wp2_with fail
    try simp only [hwx, hwy]
    refine bodyPost_ret (results_cell_row rfl _ _ w.heap.size _ _ _ _ rfl (box_drew (box_new w _)) Tryz.underlying151 rfl (by kernel_rfl)) rfl ?_
    exact ⟨rfl, Below.drew ((Below.refl _ _).alloc (Nat.le_refl _) _)⟩
end Go.Proofs.YtlfbbahihenilaaGreat.Ne

namespace Go.Proofs.YtlfbbahihenilaaGreat.Ir
open Go.RowKit Go.V Go.Proofs
open Go.Proofs.YtlfbbahihenilaaGreat.Ne (icod)

theorem infoI : (Tryz.prog.info? 3).map (fun i => (i.zero, i.size, i.bytes)) = some (some (.int .i64 0), 1, 8) := by kernel_rfl
theorem eltI : Elt Tryz.prog 35 3 icod 8 := Elt.of Tryz.underlying35 infoI rfl (by decide)
theorem own_below {α : Type} {c : Cod α} {T : TypeId} {base : Nat} {w w1 : World} {v : Value} {xs : List α} (h : V.Own T c base w v xs) (hg : w.grownBy w1 v.ownBlock) (hb : base ≤ w.heap.size) : Below base w w1 :=
  ⟨hg.os, hg.tape, hg.output, hg.size, fun k hk => hg.block k (by omega) (fun q => by
    have := (World.ownsRow.lt h k q.symm).1
    omega)⟩
theorem iflat_set : ∀ (xs : List Int) (i : Nat) (d : Int), (xs.flatMap icod.enc).set i (.int .i64 d) = (xs.set i d).flatMap icod.enc
  | [], _, _ => rfl
  | x :: xs, 0, d => rfl
  | x :: xs, i + 1, d => by
    have ih := iflat_set xs i d
    rw [List.set_cons_succ, List.flatMap_cons, List.flatMap_cons, ← ih]
    rfl
/-- One of a row of numbers is put anew. -/
theorem iset {T : TypeId} {base : Nat} {w : World} {b n cap : Nat} {xs : List Int} (h : V.Own T icod base w (.slice (some ⟨b, 0, none⟩) n cap) xs) (hn : n = xs.length) (i : Nat) (d : Int) :
    V.Own T icod base (w.setCell ⟨b, i, none⟩ (.int .i64 d)) (.slice (some ⟨b, 0, none⟩) n cap) (xs.set i d) ∧ w.grownBy (w.setCell ⟨b, i, none⟩ (.int .i64 d)) (some b) :=
  h.put hn i _ _ (by simp) (iflat_set xs i d)
theorem icells {T : TypeId} {base : Nat} {w : World} {b n cap : Nat} {xs : List Int} (h : V.Own T icod base w (.slice (some ⟨b, 0, none⟩) n cap) xs) (hn : n = xs.length) {i : Nat} (hi : i < n) :
    ∃ d, xs[i]? = some d ∧ w.cell? ⟨b, i, none⟩ = some (.int .i64 d) ∧ w.frozen? ⟨b, i, none⟩ = false ∧ b < w.heap.size := by
  have hx : xs[i]? = some xs[i] := by simp
  obtain ⟨h1, h2⟩ := h.at hn hx
  refine ⟨_, hx, ?_, h2 _, (World.ownsRow.lt h b rfl).2⟩
  have := h1 0 _ rfl
  simpa [icod] using this
theorem rep_flat (n : Nat) : (List.replicate n (0 : Int)).flatMap icod.enc = List.replicate n (Value.int .i64 0) := by
  induction n with
  | zero => rfl
  | succ n ih => rw [List.replicate_succ, List.flatMap_cons, ih]; rfl
/-- make([]int, n). -/
theorem own_made (w : World) (n base : Nat) (hb : base ≤ w.heap.size) (hm : n ≤ maxLen) :
    V.Own 3 icod base (w.alloc (.cells (madeCells #[.int .i64 0] n) 3)) (.slice (some ⟨w.heap.size, 0, none⟩) n n) (List.replicate n 0) :=
  own_new (c := icod) w _ 3 base (List.replicate n 0) n (by simp) hb hm (by rw [rep_flat, toList_madeCells_one])
theorem make_any (n : Nat) (hn : n ≤ 1000000) : ∀ w, (Instr.makeSlice 35 (.int .i64 (n : Int)) (.int .i64 (n : Int))).run Tryz.prog w = .ok (.slice (some ⟨w.heap.size, 0, none⟩) n n) (w.alloc (.cells (madeCells #[.int .i64 0] n) 3)) :=
  fun w => run_make_row' (P := Tryz.prog) 35 3 (.int .i64 0) 8 Tryz.underlying35 infoI rfl .i64 .i64 n (by omega) (by omega) w
end Go.Proofs.YtlfbbahihenilaaGreat.Ir

namespace Go.Proofs.YtlfbbahihenilaaGreat.Ne
open Go.RowKit Go.V Go.Proofs

set_option maxHeartbeats 1000000 in
set_option maxRecDepth 100000 in
theorem rsq_any (p q : Stp) (w : World) :
    Calls Tryz.prog 91 #[p.val, q.val] w fun e w' => e = .returned (.int .i64 (sqG p q)) ∧ Below w.heap.size w w' := by
  have HX0 := Lib.hid (box_alloc (o := .cells #[.int .i64 q.x, .int .i64 q.y] 70) (box_new w (.cells #[.int .i64 p.x, .int .i64 p.y] 70)))
  have HY0 := Lib.hid (box_new (w.alloc (.cells #[.int .i64 p.x, .int .i64 p.y] 70)) (.cells #[.int .i64 q.x, .int .i64 q.y] 70))
  rw [World.size_alloc] at HY0
  have HB0 : Hid (Below w.heap.size w ((w.alloc (.cells #[.int .i64 p.x, .int .i64 p.y] 70)).alloc (.cells #[.int .i64 q.x, .int .i64 q.y] 70))) := ((Below.refl _ _).alloc (Nat.le_refl _) _).alloc (by simp) _
  obtain ⟨r, hr⟩ : ∃ r, sqG p q = r := ⟨_, rfl⟩
  have HR := Lib.hid hr
  rw [hr]
  clear hr
  obtain ⟨bp, hbp⟩ : ∃ b, stpB p = b := ⟨_, rfl⟩
  obtain ⟨bq, hbq⟩ : ∃ b, stpB q = b := ⟨_, rfl⟩
  have HP := Lib.hid hbp
  have HQ := Lib.hid hbq
  clear hbp hbq
  cases bp with
  | false =>
    have hz : 0 = r := by rw [← HR.out, sqG, if_neg (fun h => by rw [HP.out] at h; cases h.1)]
    subst hz
    go_enter Tryz.func91, Tryz.ntmps91
    go_wp2_with (go_at_call 58; refine (rmay_any p.x p.y _).mono ?_; rintro e w1 ⟨rfl, rfl⟩; rw [stp_may, HP.out])
    go_ret
    exact ⟨rfl, HB0.out⟩
  | true =>
    cases bq with
    | false =>
      have hz : 0 = r := by rw [← HR.out, sqG, if_neg (fun h => by rw [HQ.out] at h; cases h.2)]
      subst hz
      go_enter Tryz.func91, Tryz.ntmps91
      go_wp2_with (first
        | (go_at_call 58; go_fit (rmay_any p.x p.y _); rintro e w1 ⟨rfl, rfl⟩; rw [stp_may, HP.out])
        | (go_at_call 58; go_fit (rmay_any q.x q.y _); rintro e w2 ⟨rfl, rfl⟩; rw [stp_may, HQ.out]))
      go_ret
      exact ⟨rfl, HB0.out⟩
    | true =>
      have h1 := of_decide_eq_true HP.out
      have h2 := of_decide_eq_true HQ.out
      obtain ⟨m, hm⟩ : ∃ m, (p.x - q.x) * (p.x - q.x) = m := ⟨_, rfl⟩
      obtain ⟨k, hk⟩ : ∃ k, (p.y - q.y) * (p.y - q.y) = k := ⟨_, rfl⟩
      have hmm := sq_in ⟨h1.1, h1.2.1⟩ ⟨h2.1, h2.2.1⟩
      have hkk := sq_in ⟨h1.2.2.1, h1.2.2.2⟩ ⟨h2.2.2.1, h2.2.2.2⟩
      rw [hm] at hmm
      rw [hk] at hkk
      have hz : m + k = r := by rw [← HR.out, sqG, if_pos ⟨HP.out, HQ.out⟩, hm, hk]
      obtain ⟨a0, a1, a2, a3⟩ := h1
      obtain ⟨b0, b1, b2, b3⟩ := h2
      obtain ⟨dx, hdx⟩ : ∃ dx, p.x - q.x = dx := ⟨_, rfl⟩
      obtain ⟨dy, hdy⟩ : ∃ dy, p.y - q.y = dy := ⟨_, rfl⟩
      rw [hdx] at hm
      rw [hdy] at hk
      have hwx : IntKind.i64.wrap (p.x - q.x) = dx := by rw [hdx, IntKind.wrap_i64]; omega
      have hwy : IntKind.i64.wrap (p.y - q.y) = dy := by rw [hdy, IntKind.wrap_i64]; omega
      have HZ := Lib.hid hz
      clear hz
      go_enter Tryz.func91, Tryz.ntmps91
      go_wp2_with (first
        | (go_at_call 58; go_fit (rmay_any p.x p.y _); rintro e w1 ⟨rfl, rfl⟩; rw [stp_may, HP.out])
        | (go_at_call 58; go_fit (rmay_any q.x q.y _); rintro e w2 ⟨rfl, rfl⟩; rw [stp_may, HQ.out]))
      go_ret
      exact ⟨ret_int HZ.out, HB0.out⟩

theorem infoS : (Tryz.prog.info? 70).map (fun i => (i.zero, i.size, i.bytes)) = some (some (.agg #[.int .i64 0, .int .i64 0]), 2, 16) := by kernel_rfl
theorem eltStp : Elt Tryz.prog 22 70 Stp.cod 16 := Elt.of Tryz.underlying22 infoS rfl (by decide)

set_option maxHeartbeats 1000000 in
theorem sclone_any (a : Option Addr) (n cap : Nat) (xs : List Stp) (w : World) (hn : n ≤ 1000000000) (h : Sl Stp.cod w a n cap xs) :
    Calls Tryz.prog 81 #[.slice a n cap] w fun e w' => ∃ v, e = .returned v ∧ V.Own 70 Stp.cod w.heap.size w' v xs ∧ Below w.heap.size w w' := by
  have hq := fun w a n c => Lib.run_eql_slice_nil (P := Tryz.prog) w 22 70 a n c 0 0 Tryz.underlying22
  cases a with
  | none =>
    obtain ⟨rfl, rfl⟩ := h.hnil rfl
    have hx : xs = [] := by have := h.hlen; exact List.eq_nil_of_length_eq_zero this.symm
    subst hx
    go_enter Tryz.func81, Tryz.ntmps81
    go_wp2
    go_ret
    exact ⟨_, rfl, World.ownsRow_nil _ _ _ _, Below.refl _ _⟩
  | some d =>
    have HS := Lib.hid h
    have HM1 : Hid (([] : List Stp).length + n ≤ maxLen) := by show _ ≤ _; unfold maxLen; simp; omega
    have HM2 : Hid ((([] : List Stp).length + n) * 16 ≤ 140737488355328) := by show _ ≤ _; simp; omega
    clear h
    go_enter Tryz.func81, Tryz.ntmps81
    go_wp2_with (at_builtin; go_loud (refine wpList_app eltStp rfl (.tmp 5) (.tmp 6) rfl (base := w.heap.size) _ [] rfl (own_new (c := Stp.cod) w #[] 70 w.heap.size [] 0 rfl (Nat.le_refl _) (by unfold maxLen; omega) rfl) _ n cap xs rfl (HS.out.below ((Below.refl _ _).alloc (Nat.le_refl _) _)) HM1.out HM2.out (by simp) ?_); intro v1 w1 ho hg; have HO1 := Lib.hid ho; have HG1 := Lib.hid hg; clear ho hg)
    go_ret
    exact ⟨_, rfl, HO1.out, ((Below.refl _ _).alloc (Nat.le_refl _) _).trans (Ir.own_below (own_new (c := Stp.cod) w #[] 70 w.heap.size [] 0 rfl (Nat.le_refl _) (by unfold maxLen; omega) rfl) HG1.out (by simp))⟩

/-- May there be such a grid? -/
def rightE (S : List Stp) (z : Int) : Int := if z < 1 ∨ 67108864 < z then 2 else if S.all stpB = true then 0 else 2
theorem all_not {S : List Stp} {k : Nat} {s : Stp} (h : S[k]? = some s) (hs : stpB s = false) : S.all stpB = false := by
  rw [← Bool.not_eq_true]
  intro hh
  rw [List.all_eq_true] at hh
  have := hh s (List.mem_of_getElem? h)
  rw [hs] at this; cases this
end Go.Proofs.YtlfbbahihenilaaGreat.Ne

namespace Go.Proofs.YtlfbbahihenilaaGreat.Ne
open Go.RowKit Go.V Go.Proofs

/-- The numbers of the stops of a cell. -/
def inC (z X Y : Int) (q : Stp × Nat) : Bool := decide (q.1.x / z = X ∧ q.1.y / z = Y)
def idxs (S : List Stp) (z X Y : Int) : List Int := ((S.zipIdx).filter (inC z X Y)).map fun q => (q.2 : Int)
theorem idxs_snoc (S : List Stp) (z X Y : Int) {k : Nat} {s : Stp} (h : S[k]? = some s) : idxs (S.take (k + 1)) z X Y = if s.x / z = X ∧ s.y / z = Y then idxs (S.take k) z X Y ++ [(k : Int)] else idxs (S.take k) z X Y := by
  have hk := (List.getElem?_eq_some_iff.1 h).1
  have hl : (S.take k).length = k := by rw [List.length_take]; omega
  unfold idxs
  rw [take_at h, List.zipIdx_append, List.filter_append, List.map_append, hl]
  by_cases hh : s.x / z = X ∧ s.y / z = Y
  · rw [if_pos hh]
    simp [inC, hh]
  · rw [if_neg hh]
    simp [inC, hh]
theorem mem_idxs {S : List Stp} {z X Y : Int} {i : Int} : i ∈ idxs S z X Y ↔ ∃ (k : Nat) (s : Stp), i = k ∧ S[k]? = some s ∧ s.x / z = X ∧ s.y / z = Y := by
  unfold idxs
  rw [List.mem_map]
  constructor
  · rintro ⟨q, hq, rfl⟩
    rw [List.mem_filter] at hq
    obtain ⟨h1, h2⟩ := hq
    have := List.mem_zipIdx_iff_getElem?.1 h1
    have h2 := of_decide_eq_true h2
    exact ⟨q.2, q.1, rfl, this, h2.1, h2.2⟩
  · rintro ⟨k, s, rfl, h1, h2, h3⟩
    exact ⟨(s, k), List.mem_filter.2 ⟨List.mem_zipIdx_iff_getElem?.2 h1, decide_eq_true ⟨h2, h3⟩⟩, rfl⟩
theorem idxs_len (S : List Stp) (z X Y : Int) : (idxs S z X Y).length ≤ S.length := by
  unfold idxs
  rw [List.length_map]
  have := List.length_filter_le (inC z X Y) S.zipIdx
  rwa [List.length_zipIdx] at this
theorem quo_in {a z : Int} (ha : 0 ≤ a ∧ a < 67108864) (hz : 1 ≤ z) : IntKind.i64.wrap (a.tdiv z) = a / z ∧ 0 ≤ a / z ∧ a / z < 67108864 := by
  have h1 : 0 ≤ a / z := Int.ediv_nonneg ha.1 (by omega)
  have h2 := Int.ediv_le_self z ha.1
  refine ⟨?_, h1, by omega⟩
  rw [Int.tdiv_eq_ediv_of_nonneg ha.1, IntKind.wrap_i64]; omega

end Go.Proofs.YtlfbbahihenilaaGreat.Ne

namespace Go.Proofs.YtlfbbahihenilaaGreat.Ne
open Go.RowKit Go.V Go.Proofs
open Go.Maps (Keyed)

theorem gi64_wf {x : Int} (h1 : -4611686018427387904 ≤ x) (h2 : x ≤ 4611686018427387904) : Iok x := by
  simp [Iok, Lit.wf, IntKind.min, IntKind.max, IntKind.signed, IntKind.bits]
  omega
def gK (x y : Int) : Lit := Gr.cellK x y
abbrev noRow : Value := .slice none 0 0
theorem grb_trans {w w1 w2 : World} {r : Option Nat} (h : w.grownBy w1 r) (h' : w1.grownBy w2 r) : w.grownBy w2 r :=
  ⟨h'.os.trans h.os, h'.tape.trans h.tape, h'.output.trans h.output, Nat.le_trans h.size h'.size, fun i hi hne => (h'.block i (Nat.lt_of_lt_of_le hi h.size) hne).trans (h.block i hi hne)⟩
theorem grb_below {w w1 w2 : World} {r : Option Nat} (h : w.grownBy w1 r) (h' : Below w1.heap.size w1 w2) : w.grownBy w2 r :=
  grb_trans h ⟨h'.os, h'.tape, h'.output, h'.size, fun i hi _ => h'.block i hi⟩
theorem grb_lower {w w1 w2 : World} {B b : Nat} (h : Below B w w1) (h' : w1.grownBy w2 (some b)) (hb : B ≤ b) (hB : B ≤ w1.heap.size) : Below B w w2 :=
  ⟨h'.os.trans h.os, h'.tape.trans h.tape, h'.output.trans h.output, Nat.le_trans h.size h'.size, fun i hi => (h'.block i (Nat.lt_of_lt_of_le hi hB) (fun e => by have := Option.some.inj e; omega)).trans (h.block i hi)⟩
/-- The map as it is written: rows of the call's own, side by side. -/
def GMapO (B : Nat) (w : World) (b n : Nat) (f : Int → Int → List Int) : Prop :=
  ∃ (D : DataW Value) (U : Int → Int → Value), w.ownsMap Tryz.prog 151 Gr.heldG b n D ∧
    (∀ x y, Iok x → Iok y → D.atKey (gK x y) (.held noRow) = .held (U x y) ∧ Go.V.Own 3 icod B w (U x y) (f x y)) ∧
    (∀ x y x' y', Iok x → Iok y → Iok x' → Iok y' → ¬ (x = x' ∧ y = y') → Apart (U x y) (U x' y'))
/-- The map as it is read. -/
def GMap (w : World) (b : Nat) (f : Int → Int → List Int) : Prop :=
  ∃ (n : Nat) (D : DataW Value) (U : Int → Int → Hdr), w.ownsMap Tryz.prog 151 Gr.heldG b n D ∧
    ∀ x y, Iok x → Iok y → D.atKey (gK x y) (.held noRow) = .held (.slice (U x y).a (U x y).n (U x y).cap) ∧ Sl icod w (U x y).a (U x y).n (U x y).cap (f x y)
theorem GMap.below {w w' : World} {b : Nat} {f : Int → Int → List Int} (h : GMap w b f) (hb : Below w.heap.size w w') : GMap w' b f := by
  obtain ⟨n, D, U, h1, h2⟩ := h
  exact ⟨n, D, U, h1.kept (row := none) ⟨hb.os, hb.tape, hb.output, hb.size, fun i hi _ => hb.block i hi⟩ (by simp), fun x y hx hy => ⟨(h2 x y hx hy).1, (h2 x y hx hy).2.below hb⟩⟩
theorem own_ne_map {α : Type} {c : Cod α} {e : TypeId} {B : Nat} {w : World} {u : Value} {xs : List α} (ho : Go.V.Own e c B w u xs) {b : Nat} {es : Array MapEntry} {clock : Nat} (hb : w.heap[b]? = some (.map es clock)) : u.ownBlock ≠ some b := by
  intro hu
  obtain ⟨h1, h2⟩ := ho
  rcases h2 with ⟨rfl, -⟩ | ⟨g, cap, cur, rfl, -, hg, -⟩
  · cases hu
  · cases hu
    rw [hb] at hg; cases hg
theorem ownsMap_is {w : World} {b n : Nat} {D : DataW Value} (h : w.ownsMap Tryz.prog 151 Gr.heldG b n D) : ∃ es clock, w.heap[b]? = some (.map es clock) := by
  obtain ⟨es, clock, hb, -⟩ := h
  exact ⟨es, clock, hb⟩
theorem ownsMap_map {w : World} {b n : Nat} {D : DataW Value} (h : w.ownsMap Tryz.prog 151 Gr.heldG b n D) : Maps.IsMap D := by
  obtain ⟨es, clock, -, -, -, rfl⟩ := h
  exact ⟨_, rfl⟩
theorem GMapO.close {B : Nat} {w : World} {b n : Nat} {f : Int → Int → List Int} (h : GMapO B w b n f) : GMap w b f := by
  obtain ⟨D, U, h1, h2, -⟩ := h
  have hU : ∀ x y, ∃ q : Hdr, Iok x → Iok y → U x y = .slice q.a q.n q.cap ∧ Sl icod w q.a q.n q.cap (f x y) := by
    intro x y
    by_cases hx : Iok x ∧ Iok y
    · obtain ⟨a, cap, e, hs, -⟩ := (h2 x y hx.1 hx.2).2.slice
      exact ⟨⟨a, _, cap⟩, fun _ _ => ⟨e, hs⟩⟩
    · exact ⟨⟨none, 0, 0⟩, fun h1 h2 => absurd ⟨h1, h2⟩ hx⟩
  refine ⟨n, D, fun x y => (hU x y).choose, h1, fun x y hx hy => ?_⟩
  have hq := (hU x y).choose_spec hx hy
  exact ⟨by rw [(h2 x y hx hy).1, hq.1], hq.2⟩
theorem GMapO.made (B : Nat) (w : World) : GMapO B (w.alloc (.map #[] 0)) w.heap.size 0 (fun _ _ => []) :=
  ⟨.map [], fun _ _ => noRow, World.ownsMap_made _ _ _ _, fun _ _ _ _ => ⟨rfl, World.ownsRow_nil _ _ _ _⟩, fun _ _ _ _ _ _ _ _ _ => Apart.nil⟩
theorem GMapO.kept {B : Nat} {w w' : World} {b n : Nat} {f : Int → Int → List Int} (h : GMapO B w b n f) (hb : Below w.heap.size w w') : GMapO B w' b n f := by
  obtain ⟨D, U, h1, h2, h3⟩ := h
  exact ⟨D, U, h1.kept (row := none) ⟨hb.os, hb.tape, hb.output, hb.size, fun i hi _ => hb.block i hi⟩ (by simp), fun x y hx hy => ⟨(h2 x y hx hy).1, (h2 x y hx hy).2.below hb⟩, h3⟩
theorem key_of {x y : Int} (hx : Iok x) (hy : Iok y) : keyOf Tryz.prog 151 (Gr.cellV x y) = some (gK x y) := Gr.keyOf_cell hx hy
set_option maxRecDepth 100000 in
theorem zero_ints (u : World) : (zeroValue 35).run Tryz.prog u = .ok noRow u := by kernel_rfl
theorem GMap.look {w : World} {b : Nat} {f : Int → Int → List Int} (h : GMap w b f) {x y : Int} (hx : Iok x) (hy : Iok y) :
    ∃ q : Hdr, (Instr.lookup 148 (.map (some b)) (Gr.cellV x y) false).run Tryz.prog w = .ok (.slice q.a q.n q.cap) w ∧ Sl icod w q.a q.n q.cap (f x y) := by
  obtain ⟨n, D, U, h1, h2⟩ := h
  obtain ⟨v, ps, r1, r2⟩ := h1.lookup (Keyed.of_law Gr.lawCell) Tryz.underlying148 (zero_ints w) (show Gr.heldG noRow = some (.held noRow, []) from rfl) (key_of hx hy)
  obtain ⟨h3, h4⟩ := h2 x y hx hy
  rw [h3] at r2
  unfold Gr.heldG at r2
  cases r2
  exact ⟨_, r1, h4⟩
/-- The entry of a cell is taken; its row grows by one; it is stored. -/
theorem GMapO.entry {B : Nat} {w : World} {b n : Nat} {f : Int → Int → List Int} (h : GMapO B w b n f) (hn : n < maxLen) {x y : Int} (hx : Iok x) (hy : Iok y) :
    ∃ (v0 : Value) (st : Nat) (w1 : World), (Instr.mapEntry 148 (.map (some b)) (Gr.cellV x y)).run Tryz.prog w = .ok (.tuple #[v0, goInt st]) w1 ∧ Go.V.Own 3 icod B w1 v0 (f x y) ∧ w.grownBy w1 (some b) ∧
      ∀ (w1' w2 : World) (v' : Value) (i : Int), Below w1.heap.size w1 w1' → Go.V.Own 3 icod B w2 v' (f x y ++ [i]) → w1'.grownBy w2 v0.ownBlock → (v'.ownBlock = v0.ownBlock ∨ v'.ownBlock = some w1'.heap.size) →
        ∃ w3, (Instr.entryStore 148 (.map (some b)) (goInt st) v').run Tryz.prog w2 = .ok () w3 ∧ GMapO B w3 b (n + 1) (fun x' y' => if x' = x ∧ y' = y then f x y ++ [i] else f x' y') ∧ ∀ wb : World, wb.heap.size ≤ B → wb.grownBy w (some b) → wb.grownBy w3 (some b) := by
  obtain ⟨D, U, h1, h2, h3⟩ := h
  obtain ⟨v0, st, w1, r1, r2, -, r4, r5⟩ := Gr.entry_own Gr.lawCell Tryz.underlying148 zero_ints h1 hn (key_of hx hy)
  obtain ⟨g1, g2⟩ := h2 x y hx hy
  have hv : v0 = U x y := by
    have : (DataW.held v0 : DataW Value) = .held (U x y) := by rw [← r2]; exact g1
    cases this; rfl
  subst hv
  obtain ⟨es, clock, hbm⟩ := ownsMap_is h1
  have hk : ∀ {x' y'}, Iok x' → Iok y' → Go.V.Own 3 icod B w1 (U x' y') (f x' y') := fun hx' hy' => (h2 _ _ hx' hy').2.kept r4 (.inr (own_ne_map (h2 _ _ hx' hy').2 hbm))
  refine ⟨_, st, w1, r1, hk hx hy, r4, fun w1' w2 v' i b1 ho' gr hat => ?_⟩
  have hne : (U x y).ownBlock ≠ some b := own_ne_map g2 hbm
  have hbl : b < w1.heap.size := Nat.lt_of_lt_of_le h1.lt r4.size
  have hbb : w2.heap[b]? = w1.heap[b]? := by
    rw [gr.block b (Nat.lt_of_lt_of_le hbl b1.size) (fun e => hne e.symm)]
    exact b1.block b hbl
  obtain ⟨w3, s1, s2, s3⟩ := r5 w2 v' hbb
  refine ⟨w3, s1, ⟨_, fun x' y' => if x' = x ∧ y' = y then v' else U x' y', s2, fun x' y' hx' hy' => ?_, fun x1 y1 x2 y2 hx1 hy1 hx2 hy2 hne2 => ?_⟩, fun wb hB q => ?_⟩
  · by_cases hh : x' = x ∧ y' = y
    · obtain ⟨rfl, rfl⟩ := hh
      simp only [and_self, if_true]
      refine ⟨Maps.atKey_put_same (ownsMap_map h1) ((Keyed.of_law Gr.lawCell).key (key_of hx hy)) _ _, ?_⟩
      refine ho'.kept s3 (.inr fun e => ?_)
      rcases hat with k | k
      · exact hne (k ▸ e)
      · rw [k] at e
        have := Option.some.inj e
        have := b1.size
        omega
    · simp only [if_neg hh]
      refine ⟨?_, ?_⟩
      · rw [Maps.atKey_put_other (show gK x' y' ≠ gK x y from fun e => hh (Gr.cellK_inj hx' hy' hx hy e))]
        exact (h2 x' y' hx' hy').1
      · have k1 := (hk hx' hy').below b1
        have k2 := k1.kept gr (h3 x' y' x y hx' hy' hx hy hh)
        exact k2.kept s3 (.inr (own_ne_map (h2 _ _ hx' hy').2 hbm))
  · by_cases q1 : x1 = x ∧ y1 = y
    · by_cases q2 : x2 = x ∧ y2 = y
      · exact absurd ⟨q1.1.trans q2.1.symm, q1.2.trans q2.2.symm⟩ hne2
      · simp only [if_pos q1, if_neg q2]
        exact (h3 x y x2 y2 hx hy hx2 hy2 (fun e => q2 ⟨e.1.symm, e.2.symm⟩)).next hat ((hk hx2 hy2).below b1)
    · by_cases q2 : x2 = x ∧ y2 = y
      · simp only [if_pos q2, if_neg q1]
        exact ((h3 x y x1 y1 hx hy hx1 hy1 (fun e => q1 ⟨e.1.symm, e.2.symm⟩)).next hat ((hk hx1 hy1).below b1)).symm
      · simp only [if_neg q1, if_neg q2]
        exact h3 x1 y1 x2 y2 hx1 hy1 hx2 hy2 hne2
  · have q1 := grb_below (grb_trans q r4) b1
    have hs1 := q1.size
    have q2 : wb.grownBy w2 (some b) := ⟨gr.os.trans q1.os, gr.tape.trans q1.tape, gr.output.trans q1.output, Nat.le_trans q1.size gr.size, fun i hi hne => (gr.block i (by omega) (fun e => by
      have := (World.ownsRow.lt (hk hx hy) i e.symm).1
      omega)).trans (q1.block i hi hne)⟩
    exact grb_trans q2 s3
end Go.Proofs.YtlfbbahihenilaaGreat.Ne
