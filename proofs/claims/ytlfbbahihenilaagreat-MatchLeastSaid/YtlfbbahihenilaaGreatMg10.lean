/- Grids: Nearest: walked. -/
/- Grids: the next one is looked for again and again, plain. -/
/- Grids: ref14.Near: walked. -/
import Derived.Test.YtlfbbahihenilaaGreatMg09
namespace Go.Proofs.YtlfbbahihenilaaGreat.Ne
open Go.RowKit Go.V Go.Proofs Go.Sort

theorem below_grow (w : World) (q : Nat) (os : Array Obj) : Below w.heap.size w (grow (w.drewN q) os) := by
  unfold grow
  refine ⟨rfl, rfl, rfl, by simp [World.drewN], fun i hi => ?_⟩
  simp only [World.drewN]
  rw [Array.getElem?_append_left hi]
theorem order_b (x y : Fnd) (w : World) (c : Int) (hc : cmpF x y = c) :
    Calls Tryz.prog 107 #[x.val, y.val] w fun e w' => e = .returned (.int .i64 c) ∧ Below w.heap.size w w' :=
  (order_any x y w).mono fun e w' ⟨h1, q, os, h2⟩ => ⟨by rw [h1, hc], h2 ▸ below_grow w q os⟩
theorem cmpF_neg (x y : Fnd) : cmpF x y < 0 ↔ ltF x y := by
  rw [← cmpF_lt]
  unfold ltOf
  rw [decide_eq_true_iff]
/-- The best one of the first ones. -/
def BestF (p : Stp) (S : List Stp) (k : Nat) (r : Fnd) : Prop := (∃ i : Nat, i < S.length ∧ r = fnd p S (i : Int)) ∧ ∀ i : Nat, i < k → ¬ ltF (fnd p S (i : Int)) r
theorem best_head {p : Stp} {S : List Stp} {m : Int} {r : Fnd} (h : BestF p S S.length r) (hm : ∀ i : Nat, i < S.length → (fnd p S (i : Int)).sq ≤ m) : nearL p S m 1 = [r.stop] := by
  obtain ⟨⟨i, hi, rfl⟩, h2⟩ := h
  have hmem : fnd p S (i : Int) ∈ nearF p S m := ((near_good p S m).2 _).2 ⟨i, hi, rfl, hm i hi⟩
  unfold nearL
  cases hn : nearF p S m with
  | nil => rw [hn] at hmem; simp at hmem
  | cons f l =>
    have hs := near_sorted p S m
    rw [hn] at hs hmem
    have hf : f ∈ nearF p S m := by rw [hn]; exact List.mem_cons_self
    obtain ⟨k, hk, rfl, -⟩ := ((near_good p S m).2 f).1 hf
    rcases List.mem_cons.1 hmem with e | e
    · rw [e]; rfl
    · exact (h2 k hk ((List.pairwise_cons.1 hs).1 _ e)).elim
theorem fnd_get {p : Stp} {S : List Stp} {i : Nat} {s : Stp} (h : S[i]? = some s) : fnd p S (i : Int) = ⟨i, sqG p s⟩ := by
  unfold fnd
  rw [Int.toNat_natCast, List.getD_eq_getElem?_getD, h]; rfl


end Go.Proofs.YtlfbbahihenilaaGreat.Ne

namespace Go.Proofs.YtlfbbahihenilaaGreat.Ne
open Go.RowKit Go.V Go.Proofs

section
variable {p : Stp} {S : List Stp} {M : Int}
abbrev fi (p : Stp) (S : List Stp) (i : Nat) : Fnd := fnd p S (i : Int)
theorem fi_inj {i j : Nat} (h : fi p S i = fi p S j) : i = j := by
  have := congrArg Fnd.stop h
  have : (i : Int) = (j : Int) := this
  omega
theorem fi_mem {i : Nat} : fi p S i ∈ nearF p S M ↔ i < S.length ∧ (fi p S i).sq ≤ M := by
  rw [(near_good p S M).2]
  constructor
  · rintro ⟨k, hk, e, h⟩
    have := fi_inj e
    subst this
    exact ⟨hk, h⟩
  · rintro ⟨h1, h2⟩; exact ⟨i, h1, rfl, h2⟩
theorem fi_of {f : Fnd} (h : f ∈ nearF p S M) : ∃ i : Nat, i < S.length ∧ f = fi p S i := by
  obtain ⟨k, hk, e, -⟩ := ((near_good p S M).2 f).1 h
  exact ⟨k, hk, e⟩
theorem fi_stop {t i : Nat} : (i : Int) ∈ ((nearF p S M).take t).map Fnd.stop ↔ fi p S i ∈ (nearF p S M).take t := by
  rw [List.mem_map]
  constructor
  · rintro ⟨f, hf, e⟩
    obtain ⟨k, -, rfl⟩ := fi_of (List.mem_of_mem_take hf)
    have : k = i := by have : (k : Int) = (i : Int) := e; omega
    subst this
    exact hf
  · intro h; exact ⟨_, h, rfl⟩
theorem cand_iff {t i : Nat} : fi p S i ∈ (nearF p S M).drop t ↔ fi p S i ∈ nearF p S M ∧ fi p S i ∉ (nearF p S M).take t := by
  have hn := (near_good p S M).1
  have e := List.take_append_drop t (nearF p S M)
  constructor
  · intro h
    refine ⟨List.mem_of_mem_drop h, fun h2 => ?_⟩
    rw [← e, List.nodup_append] at hn
    exact hn.2.2 _ h2 _ h rfl
  · rintro ⟨h1, h2⟩
    rw [← e, List.mem_append] at h1
    rcases h1 with h1 | h1
    · exact absurd h1 h2
    · exact h1
def doneL (p : Stp) (S : List Stp) (M : Int) (t : Nat) : List Bool := (List.range S.length).map fun i : Nat => decide ((i : Int) ∈ ((nearF p S M).take t).map Fnd.stop)
theorem done_at {t i : Nat} (hi : i < S.length) : (doneL p S M t)[i]? = some (decide ((i : Int) ∈ ((nearF p S M).take t).map Fnd.stop)) := by
  unfold doneL
  rw [List.getElem?_map, List.getElem?_range hi]; rfl
theorem cand_done {t i : Nat} (hi : i < S.length) : fi p S i ∈ (nearF p S M).drop t ↔ decide ((i : Int) ∈ ((nearF p S M).take t).map Fnd.stop) = false ∧ (fi p S i).sq ≤ M := by
  rw [cand_iff, fi_mem, decide_eq_false_iff_not, fi_stop]
  constructor
  · rintro ⟨⟨-, h1⟩, h2⟩; exact ⟨h2, h1⟩
  · rintro ⟨h2, h1⟩; exact ⟨⟨hi, h1⟩, h2⟩
/-- The best one of those that are left, among the first i. -/
def BestR (p : Stp) (S : List Stp) (M : Int) (t i : Nat) (best : Int) : Prop :=
  (best = -1 ∧ ∀ j : Nat, j < i → fi p S j ∉ (nearF p S M).drop t) ∨ ∃ b : Nat, best = b ∧ b < i ∧ fi p S b ∈ (nearF p S M).drop t ∧ ∀ j : Nat, j < i → fi p S j ∈ (nearF p S M).drop t → ¬ ltF (fi p S j) (fi p S b)
theorem br_start {t : Nat} : BestR p S M t 0 (-1) := .inl ⟨rfl, fun _j hj => absurd hj (Nat.not_lt_zero _)⟩
theorem br_skip {t i : Nat} {best : Int} (hc : fi p S i ∉ (nearF p S M).drop t) (h : BestR p S M t i best) : BestR p S M t (i + 1) best := by
  rcases h with ⟨h1, h2⟩ | ⟨b, h1, h2, h3, h4⟩
  · refine .inl ⟨h1, fun j hj => ?_⟩
    rcases Nat.lt_or_ge j i with q | q
    · exact h2 j q
    · have : j = i := by omega
      subst this; exact hc
  · refine .inr ⟨b, h1, by omega, h3, fun j hj hm => ?_⟩
    rcases Nat.lt_or_ge j i with q | q
    · exact h4 j q hm
    · have : j = i := by omega
      subst this; exact absurd hm hc
theorem br_first {t i : Nat} {best : Int} (hc : fi p S i ∈ (nearF p S M).drop t) (h : BestR p S M t i best) (hb : best < 0) : BestR p S M t (i + 1) (i : Int) := by
  rcases h with ⟨h1, h2⟩ | ⟨b, h1, -⟩
  · refine .inr ⟨i, rfl, by omega, hc, fun j hj hm => ?_⟩
    rcases Nat.lt_or_ge j i with q | q
    · exact absurd hm (h2 j q)
    · have : j = i := by omega
      subst this; exact ltF_irr
  · omega
theorem br_num {t i : Nat} {best : Int} (h : BestR p S M t i best) (hb : ¬ best < 0) : ∃ b : Nat, best = b ∧ b < i := by
  rcases h with ⟨h1, h2⟩ | ⟨b, h1, h2, -⟩
  · omega
  · exact ⟨b, h1, h2⟩
theorem br_less {t i b : Nat} (hc : fi p S i ∈ (nearF p S M).drop t) (h : BestR p S M t i (b : Int)) (hs : (fi p S i).sq < (fi p S b).sq) : BestR p S M t (i + 1) (i : Int) := by
  rcases h with ⟨h1, h2⟩ | ⟨b', h1, h2, h3, h4⟩
  · omega
  · have : b' = b := by omega
    subst this
    refine .inr ⟨i, rfl, by omega, hc, fun j hj hm hl => ?_⟩
    rcases Nat.lt_or_ge j i with q | q
    · refine h4 j q hm ?_
      unfold ltF at *; omega
    · have : j = i := by omega
      subst this; exact ltF_irr hl
theorem br_keep {t i b : Nat} (h : BestR p S M t i (b : Int)) (hs : ¬ (fi p S i).sq < (fi p S b).sq) : BestR p S M t (i + 1) (b : Int) := by
  rcases h with ⟨h1, h2⟩ | ⟨b', h1, h2, h3, h4⟩
  · omega
  · have : b' = b := by omega
    subst this
    refine .inr ⟨b', rfl, by omega, h3, fun j hj hm hl => ?_⟩
    rcases Nat.lt_or_ge j i with q | q
    · exact h4 j q hm hl
    · have : j = i := by omega
      subst this
      have e1 : (fi p S j).stop = (j : Int) := rfl
      have e2 : (fi p S b').stop = (b' : Int) := rfl
      unfold ltF at hl
      rw [e1, e2] at hl
      omega
theorem br_none {t : Nat} {best : Int} (h : BestR p S M t S.length best) (hb : best < 0) : (nearF p S M).length ≤ t := by
  rcases h with ⟨h1, h2⟩ | ⟨b, h1, -⟩
  · rcases Nat.lt_or_ge t (nearF p S M).length with q | q
    · exfalso
      have hd : (nearF p S M).drop t ≠ [] := by
        intro e
        have := List.length_drop (i := t) (l := nearF p S M)
        rw [e] at this
        simp at this
        omega
      obtain ⟨f, l, hl⟩ := List.exists_cons_of_ne_nil hd
      have hf : f ∈ (nearF p S M).drop t := by rw [hl]; exact List.mem_cons_self
      obtain ⟨k, hk, rfl⟩ := fi_of (List.mem_of_mem_drop hf)
      exact h2 k hk hf
    · exact q
  · omega
theorem br_some {t b : Nat} (h : BestR p S M t S.length (b : Int)) : b < S.length ∧ t < (nearF p S M).length ∧ ((nearF p S M).take (t + 1)).map Fnd.stop = ((nearF p S M).take t).map Fnd.stop ++ [(b : Int)] := by
  rcases h with ⟨h1, -⟩ | ⟨b', h1, h2, h3, h4⟩
  · omega
  · have : b' = b := by omega
    subst this
    have hs := near_sorted p S M
    rw [← List.take_append_drop t (nearF p S M), List.pairwise_append] at hs
    have hs := hs.2.1
    cases hd : (nearF p S M).drop t with
    | nil => rw [hd] at h3; simp at h3
    | cons f l =>
      have ht : t < (nearF p S M).length := by
        rcases Nat.lt_or_ge t (nearF p S M).length with q | q
        · exact q
        · rw [List.drop_eq_nil_of_le q] at hd; cases hd
      have hf : f ∈ (nearF p S M).drop t := by rw [hd]; exact List.mem_cons_self
      obtain ⟨k, hk, rfl⟩ := fi_of (List.mem_of_mem_drop hf)
      have hkb : fi p S k = fi p S b' := by
        rw [hd] at h3 hs
        rcases List.mem_cons.1 h3 with e | e
        · exact e.symm
        · exact (h4 k hk hf ((List.pairwise_cons.1 hs).1 _ e)).elim
      have hg : (nearF p S M)[t]? = some (fi p S b') := by
        have : ((nearF p S M).drop t)[0]? = some (fi p S k) := by rw [hd]; rfl
        rw [List.getElem?_drop, Nat.add_zero] at this
        rw [this, hkb]
      refine ⟨h2, ht, ?_⟩
      rw [take_at hg, List.map_append]; rfl
theorem done_set {t b : Nat} (h : ((nearF p S M).take (t + 1)).map Fnd.stop = ((nearF p S M).take t).map Fnd.stop ++ [(b : Int)]) : (doneL p S M t).set b true = doneL p S M (t + 1) := by
  refine List.ext_getElem (by simp [doneL]) fun i h1 h2 => ?_
  have hi : i < S.length := by simpa [doneL] using h2
  rw [List.getElem_set]
  simp only [doneL, List.getElem_map, List.getElem_range]
  rw [h]
  by_cases e : b = i
  · subst e; simp
  · rw [if_neg e]
    have e' : ¬ (i : Int) = (b : Int) := by omega
    simp only [List.mem_append, List.mem_singleton, e', or_false]
theorem done_zero : doneL p S M 0 = List.replicate S.length false := by
  refine List.ext_getElem (by simp [doneL]) fun i h1 h2 => ?_
  simp [doneL]
theorem done_len (t : Nat) : (doneL p S M t).length = S.length := by simp [doneL]
end
end Go.Proofs.YtlfbbahihenilaaGreat.Ne

namespace Go.Proofs.YtlfbbahihenilaaGreat.Ne
open Go.RowKit Go.V Go.Proofs

def bocod : Cod Bool := ⟨1, fun x => [.bool x], fun _ => rfl, by simp [Value.oneCell']⟩
theorem infoBo : (Tryz.prog.info? 4).map (fun i => (i.zero, i.size, i.bytes)) = some (some (.bool false), 1, 1) := by kernel_rfl
theorem boflat_set : ∀ (xs : List Bool) (i : Nat) (d : Bool), (xs.flatMap bocod.enc).set i (.bool d) = (xs.set i d).flatMap bocod.enc
  | [], _, _ => rfl
  | x :: xs, 0, d => rfl
  | x :: xs, i + 1, d => by
    have ih := boflat_set xs i d
    rw [List.set_cons_succ, List.flatMap_cons, List.flatMap_cons, ← ih]
    rfl
theorem boset {base : Nat} {w : World} {b n cap : Nat} {xs : List Bool} (h : Go.V.Own 4 bocod base w (.slice (some ⟨b, 0, none⟩) n cap) xs) (hn : n = xs.length) (i : Nat) (d : Bool) :
    Go.V.Own 4 bocod base (w.setCell ⟨b, i, none⟩ (.bool d)) (.slice (some ⟨b, 0, none⟩) n cap) (xs.set i d) ∧ w.grownBy (w.setCell ⟨b, i, none⟩ (.bool d)) (some b) :=
  h.put hn i _ _ (by simp) (boflat_set xs i d)
theorem bocells {base : Nat} {w : World} {b n cap : Nat} {xs : List Bool} (h : Go.V.Own 4 bocod base w (.slice (some ⟨b, 0, none⟩) n cap) xs) (hn : n = xs.length) {i : Nat} {d : Bool} (hx : xs[i]? = some d) :
    w.cell? ⟨b, i, none⟩ = some (.bool d) ∧ w.frozen? ⟨b, i, none⟩ = false ∧ b < w.heap.size := by
  obtain ⟨h1, h2⟩ := h.at hn hx
  refine ⟨?_, h2 _, (World.ownsRow.lt h b rfl).2⟩
  have := h1 0 _ rfl
  simpa [bocod] using this
theorem bomade (w : World) (n base : Nat) (hb : base ≤ w.heap.size) (hm : n ≤ maxLen) :
    Go.V.Own 4 bocod base (w.alloc (.cells (madeCells #[.bool false] n) 4)) (.slice (some ⟨w.heap.size, 0, none⟩) n n) (List.replicate n false) :=
  own_new (c := bocod) w _ 4 base (List.replicate n false) n (by simp) hb hm (by
    rw [toList_madeCells_one]
    induction n with
    | zero => rfl
    | succ n ih => rw [List.replicate_succ, List.replicate_succ, List.flatMap_cons, ← ih (by omega)]; rfl)
theorem bomake (n : Nat) (hn : n ≤ 1000000) : ∀ w, (Instr.makeSlice 176 (.int .i64 (n : Int)) (.int .i64 (n : Int))).run Tryz.prog w = .ok (.slice (some ⟨w.heap.size, 0, none⟩) n n) (w.alloc (.cells (madeCells #[.bool false] n) 4)) :=
  fun w => run_make_row' (P := Tryz.prog) 176 4 (.bool false) 1 Tryz.underlying176 infoBo rfl .i64 .i64 n (by omega) (by omega) w

set_option maxHeartbeats 8000000 in
set_option maxRecDepth 100000 in
theorem rnear_any (a : Option Addr) (n cap : Nat) (S : List Stp) (p : Stp) (reach : Int) (mk : Nat) (w : World) (hn : n ≤ 200) (hr : 0 ≤ reach ∧ reach ≤ 134217728) (h : Sl Stp.cod w a n cap S) :
    Calls Tryz.prog 90 #[.slice a n cap, .int .i64 p.x, .int .i64 p.y, .int .i64 reach, .int .i64 (mk : Int)] w fun e w' => ∃ v, e = .returned v ∧ V.Own 3 icod w.heap.size w' v (nearL p S (reach * reach) mk) ∧ Below w.heap.size w w' := by
  have HN := Lib.hid h.hlen
  have HS := Lib.hid h
  obtain ⟨hr1, hr2⟩ := hr
  have hmm : 0 ≤ reach * reach ∧ reach * reach ≤ 18014398509481984 := ⟨Int.mul_nonneg hr1 hr1, by have := Int.mul_le_mul hr2 hr2 hr1 (by decide); omega⟩
  obtain ⟨M, hM⟩ : ∃ M, reach * reach = M := ⟨_, rfl⟩
  have hw3 : IntKind.i64.wrap (reach * reach) = M := by rw [hM, IntKind.wrap_i64]; omega
  rw [hM]
  clear h hM hmm
  have mixed : Tryz.prog.follows .mixedOrders = true := by kernel_rfl
  have hmk := bomake n (by omega)
  have HX0 : Hid ((w.alloc (.cells #[.int .i64 p.x, .int .i64 p.y] 70)).heap[w.heap.size]? = some (.cells #[.int .i64 p.x, .int .i64 p.y] 70 (0, 0))) := box_new _ _
  have HX1 : Hid (((w.alloc (.cells #[.int .i64 p.x, .int .i64 p.y] 70)).alloc (.cells (madeCells #[.bool false] n) 4)).heap[w.heap.size]? = some (.cells #[.int .i64 p.x, .int .i64 p.y] 70 (0, 0))) := box_alloc HX0.out
  have HB1 : Hid (Below w.heap.size w ((w.alloc (.cells #[.int .i64 p.x, .int .i64 p.y] 70)).alloc (.cells (madeCells #[.bool false] n) 4))) := ((Below.refl _ _).alloc (Nat.le_refl _) _).alloc (by simp) _
  have HD1 : Hid (V.Own 4 bocod (w.heap.size + 1) ((w.alloc (.cells #[.int .i64 p.x, .int .i64 p.y] 70)).alloc (.cells (madeCells #[.bool false] n) 4)) (.slice (some ⟨w.heap.size + 1, 0, none⟩) n n) (doneL p S M 0)) := by
    have := bomade (w.alloc (.cells #[.int .i64 p.x, .int .i64 p.y] 70)) n (w.heap.size + 1) (by simp) (by unfold maxLen; omega)
    rw [World.size_alloc, HN.out, ← done_zero (p := p) (M := M)] at this
    rw [HN.out]
    exact this
  have HFN : Hid ((nearF p S M).length ≤ n) := by rw [HN.out]; exact near_len p S M
  go_enter Tryz.func90, Tryz.ntmps90
  go_wp2_with fail
  go_loopg [12] 300 (fun kx v wr => ∃ (t : Nat) (oa : Option Addr) (oc : Nat), v = .slice oa t oc ∧ t ≤ mk ∧ t ≤ n ∧ n - t ≤ kx ∧ kx ≤ 300 ∧ Hid (t ≤ (nearF p S M).length) ∧ Hid (V.Own 3 icod (w.heap.size + 2) wr (.slice oa t oc) (((nearF p S M).take t).map Fnd.stop)) ∧ Hid (V.Own 4 bocod (w.heap.size + 1) wr (.slice (some ⟨w.heap.size + 1, 0, none⟩) n n) (doneL p S M t)) ∧ Hid (wr.heap[w.heap.size]? = some (.cells #[.int .i64 p.x, .int .i64 p.y] 70 (0, 0))) ∧ Hid (Below w.heap.size w wr) ∧ w.heap.size + 2 ≤ wr.heap.size)
  case atStart => exact ⟨0, none, 0, rfl, by omega, by omega, by omega, by omega, by show _ ≤ _; omega, World.ownsRow_nil _ _ _ _, HD1.out, HX1.out, HB1.out, by simp⟩
  case round =>
    obtain ⟨t, oa, oc, rfl, htm, htn, hkx, hk3, hF, ho, hd, hx, hb, hwl⟩ := hrel
    by_cases hlt : t < mk
    · have hltz : (t : Int) < (mk : Int) := by omega
      obtain ⟨wo, hwo⟩ : ∃ wo, wo = wr := ⟨_, rfl⟩
      subst hwo
      go_wp2_with fail
      go_loopw [14, 15] (fun bst i wr => ∃ (j : Nat) (B : Int), j ≤ n ∧ i = .int .i64 j ∧ bst = .int .i64 B ∧ Hid (BestR p S M t j B) ∧ Hid (Below wo.heap.size wo wr)) (fun _ i _ => n - (intOf i).toNat)
      case atStart => exact ⟨0, -1, by omega, rfl, rfl, br_start, Below.refl _ _⟩
      case round =>
        obtain ⟨j, B, hj, rfl, rfl, hbr, hb2⟩ := hrel
        have HB2 : Hid (Below w.heap.size w wr) := hb.out.trans (hb2.out.mono hb.out.size)
        have HX2 := Lib.hid (box_below hx.out hb2.out)
        have HD2 := Lib.hid (hd.out.below hb2.out)
        have hws : wo.heap.size ≤ wr.heap.size := hb2.out.size
        by_cases hjn : j < n
        · have hjz : (j : Int) < (n : Int) := by omega
          obtain ⟨bs, off, r, rfl, hbs, hrj, c0, c1⟩ := stp_at (HS.out.below HB2.out) hjn
          obtain ⟨y0, y1, -, -⟩ := box2_cells HX2.out
          have hjS : j < S.length := by rw [← HN.out]; exact hjn
          obtain ⟨q, hq⟩ : ∃ q, sqG p r = q := ⟨_, rfl⟩
          have HQ := Lib.hid hq
          have HFJ : Hid (fi p S j = ⟨j, q⟩) := by show _ = _; rw [fi, fnd_get hrj, hq]
          obtain ⟨dn, hdn⟩ : ∃ dn, decide ((j : Int) ∈ ((nearF p S M).take t).map Fnd.stop) = dn := ⟨_, rfl⟩
          have hda := done_at (p := p) (S := S) (M := M) (t := t) hjS
          rw [hdn] at hda
          have HCD : Hid (fi p S j ∈ (nearF p S M).drop t ↔ dn = false ∧ q ≤ M) := by
            show _ ↔ _
            rw [cand_done hjS, hdn, HFJ.out]
          obtain ⟨e0, -, e2⟩ := bocells HD2.out (by rw [done_len]; exact HN.out) hda
          have HK : Hid (∀ w', Below wr.heap.size wr w' → w'.cell? ⟨w.heap.size, 0, none⟩ = some (.int .i64 p.x) ∧ w'.cell? ⟨w.heap.size, 1, none⟩ = some (.int .i64 p.y) ∧ w'.cell? ⟨bs, off + j * 2, none⟩ = some (.int .i64 r.x) ∧ w'.cell? ⟨bs, off + j * 2 + 1, none⟩ = some (.int .i64 r.y)) := fun w' hb => ⟨(hb.cell (p := ⟨w.heap.size, 0, none⟩) (box_lt HX2.out)).trans y0, (hb.cell (p := ⟨w.heap.size, 1, none⟩) (box_lt HX2.out)).trans y1, (hb.cell (p := ⟨bs, off + j * 2, none⟩) hbs).trans c0, (hb.cell (p := ⟨bs, off + j * 2 + 1, none⟩) hbs).trans c1⟩
          have hjb : wo.heap.size ≤ wr.heap.size := hws
          clear hdn hda hq
          go_upto_region 9 with fail
          go_region_held3 (fun w' => w'.cell? ⟨w.heap.size, 0, none⟩ = some (.int .i64 p.x) ∧ w'.cell? ⟨w.heap.size, 1, none⟩ = some (.int .i64 p.y) ∧ w'.cell? ⟨bs, off + j * 2, none⟩ = some (.int .i64 r.x) ∧ w'.cell? ⟨bs, off + j * 2 + 1, none⟩ = some (.int .i64 r.y)) (first | exact HK.out _ (Below.refl _ _) | exact HK.out _ (Below.drew (Below.refl _ _)) | exact HK.out _ ((Below.drew (Below.refl _ _)).trans HC1.out)) (first | (go_at_call 91; go_fit (rsq_any p r _); rintro e w3 ⟨rfl, hb3⟩; rw [HQ.out]; have HC1 := Lib.hid hb3; clear hb3))
          all_goals
            have HW3 : Hid (Below wr.heap.size wr w3) := (Below.drew (Below.refl _ _)).trans HC1.out
            have HBQ : Hid (Below wo.heap.size wo w3) := hb2.out.trans (HW3.out.mono hws)
            have e3 := (HW3.out.cell (p := ⟨w.heap.size + 1, j, none⟩) e2).trans e0
            have hs3 : wr.heap.size ≤ w3.heap.size := HW3.out.size
            clear y0 y1 c0 c1 e0
            cases dn with
            | true =>
              have HCN : Hid (fi p S j ∉ (nearF p S M).drop t) := fun hh => by have := (HCD.out.1 hh).1; cases this
              go_wp2_with fail
              go_roundw
              case rel => exact ⟨j + 1, B, by omega, by go_num, rfl, br_skip HCN.out hbr.out, HBQ.out⟩
              case measure => simp [intOf]; omega
            | false =>
              by_cases hqm : M < q
              · have HCN : Hid (fi p S j ∉ (nearF p S M).drop t) := fun hh => by have := (HCD.out.1 hh).2; omega
                go_wp2_with fail
                go_roundw
                case rel => exact ⟨j + 1, B, by omega, by go_num, rfl, br_skip HCN.out hbr.out, HBQ.out⟩
                case measure => simp [intOf]; omega
              · have HCY : Hid (fi p S j ∈ (nearF p S M).drop t) := HCD.out.2 ⟨rfl, by omega⟩
                by_cases hB : B < 0
                · go_upto_region 11 with fail
                  refine wp_region_quiet_below (by assumption) (by kernel_rfl) ?_
                  repeat (go_big_quiet_step (fail))
                  refine wpQuiet_nil ?_
                  intro w9 hw9
                  obtain ⟨⟨nd, osq⟩, rfl⟩ := hw9
                  have hb9 := below_regrown w3 nd osq
                  have HB9 : Hid (Below wo.heap.size wo (Go.Sort.grow (redrawn w3 nd) osq)) := HBQ.out.trans (hb9.mono HBQ.out.size)
                  clear e3
                  generalize Go.Sort.grow (redrawn w3 nd) osq = w9 at HB9 ⊢
                  clear hb9
                  go_wp2_with fail
                  go_roundw
                  case rel => exact ⟨j + 1, j, by omega, by go_num, rfl, br_first HCY.out hbr.out hB, HB9.out⟩
                  case measure => simp [intOf]; omega
                · obtain ⟨b, hBb, hbj⟩ := br_num hbr.out hB
                  subst hBb
                  have hbz : (b : Int) < (n : Int) := by omega
                  obtain ⟨bs', off', sb, hba, hbs', hrb, g0, g1⟩ := stp_at (HS.out.below (HB2.out.trans (HW3.out.mono HB2.out.size))) (i := b) (by omega)
                  cases hba
                  obtain ⟨y0, y1, -, -⟩ := box2_cells (box_below HX2.out HW3.out)
                  have G0 := cell_regrown g0
                  have G1 := cell_regrown g1
                  have Y0 := cell_regrown y0
                  have Y1 := cell_regrown y1
                  obtain ⟨qb, hqb⟩ : ∃ q, sqG p sb = q := ⟨_, rfl⟩
                  have HFB : Hid (fi p S b = ⟨b, qb⟩) := by show _ = _; rw [fi, fnd_get hrb, hqb]
                  have q1 : ∀ nd osq, Calls Tryz.prog 91 #[p.val, sb.val] (Go.Sort.grow (redrawn w3 nd) osq) fun e w' => e = .returned (.int .i64 qb) ∧ Below (Go.Sort.grow (redrawn w3 nd) osq).heap.size (Go.Sort.grow (redrawn w3 nd) osq) w' := fun nd osq => (rsq_any p sb _).mono fun e w' ⟨k1, k2⟩ => ⟨by rw [k1, hqb], k2⟩
                  clear g0 g1 y0 y1 hrb hqb
                  go_upto_region 11 with fail
                  refine wp_region_quiet_below (by assumption) (by kernel_rfl) ?_
                  repeat (go_big_quiet_step ((go_at_call 91; exact Calls.regrown_of (q1 _ _))))
                  refine wpQuiet_nil ?_
                  intro w9 hw9
                  obtain ⟨⟨nd, osq⟩, rfl⟩ := hw9
                  have hb9 := below_regrown w3 nd osq
                  have HB9 : Hid (Below wo.heap.size wo (Go.Sort.grow (redrawn w3 nd) osq)) := HBQ.out.trans (hb9.mono HBQ.out.size)
                  clear e3 G0 G1 Y0 Y1 q1
                  generalize Go.Sort.grow (redrawn w3 nd) osq = w9 at HB9 ⊢
                  clear hb9
                  by_cases hlq : q < qb
                  · go_wp2_with fail
                    go_roundw
                    case rel => exact ⟨j + 1, j, by omega, by go_num, rfl, br_less HCY.out hbr.out (by rw [HFJ.out, HFB.out]; exact hlq), HB9.out⟩
                    case measure => simp [intOf]; omega
                  · go_wp2_with fail
                    go_roundw
                    case rel => exact ⟨j + 1, b, by omega, by go_num, rfl, br_keep hbr.out (by rw [HFJ.out, HFB.out]; exact hlq), HB9.out⟩
                    case measure => simp [intOf]; omega
        · have hjn' : j = n := by omega
          subst hjn'
          have hbr' : BestR p S M t S.length B := by rw [← HN.out]; exact hbr.out
          have HBR := Lib.hid hbr'
          clear hbr'
          by_cases hB : B < 0
          · go_wp2_with fail
            go_ret
            refine ⟨_, rfl, ?_, HB2.out⟩
            have hle := br_none HBR.out hB
            have o := ho.out.below hb2.out
            rw [List.take_of_length_le hle] at o
            unfold nearL
            rw [List.take_of_length_le (by omega)]
            exact o.lower (by omega)
          · obtain ⟨b, hBb, hbj⟩ := br_num HBR.out hB
            subst hBb
            obtain ⟨hbS, htF, hsn⟩ := br_some HBR.out
            have HSN := Lib.hid hsn
            have hbz : (b : Int) < (j : Int) := by rw [HN.out]; omega
            have hbjn : b < j := by omega
            obtain ⟨e0, e1, e2⟩ := bocells HD2.out (by rw [done_len]; exact HN.out) (done_at (p := p) (S := S) (M := M) (t := t) hbS)
            have hst := boset HD2.out (by rw [done_len]; exact HN.out) b true
            rw [done_set hsn] at hst
            have HST := Lib.hid hst
            have HO2 : Hid (V.Own 3 icod (w.heap.size + 2) (wr.setCell ⟨w.heap.size + 1, b, none⟩ (.bool true)) (.slice oa t oc) (((nearF p S M).take t).map Fnd.stop)) := (ho.out.below hb2.out).kept hst.2 (.inr fun e => by have := (World.ownsRow.lt ho.out _ e).1; omega)
            have HBS : Hid (Below w.heap.size w (wr.setCell ⟨w.heap.size + 1, b, none⟩ (.bool true))) := HB2.out.trans (below_of_grb hst.2 (fun k hk => by cases hk; omega) (by omega))
            have HXS : Hid ((wr.setCell ⟨w.heap.size + 1, b, none⟩ (.bool true)).heap[w.heap.size]? = some (.cells #[.int .i64 p.x, .int .i64 p.y] 70 (0, 0))) := grb_box hst.2 HX2.out (fun e => by have := Option.some.inj e; omega)
            have hlen : (((nearF p S M).take t).map Fnd.stop).length ≤ 200 := by rw [List.length_map, List.length_take]; omega
            have HM1 : Hid ((((nearF p S M).take t).map Fnd.stop).length + 1 ≤ maxLen) := by show _ ≤ _; unfold maxLen; omega
            have HM2 : Hid (((((nearF p S M).take t).map Fnd.stop).length + 1) * 8 ≤ 140737488355328) := by show _ ≤ _; omega
            have hss : wr.heap.size ≤ (wr.setCell ⟨w.heap.size + 1, b, none⟩ (.bool true)).heap.size := hst.2.size
            clear hsn hst hlen
            have HSW : Hid (Sl icod ((wr.setCell ⟨w.heap.size + 1, b, none⟩ (.bool true)).alloc (.cells #[.int .i64 (b : Int)] 3)) (some ⟨wr.heap.size, 0, none⟩) 1 1 [(b : Int)]) := by
              have q := sl_new (c := icod) (wr.setCell ⟨w.heap.size + 1, b, none⟩ (.bool true)) #[.int .i64 (b : Int)] 3 [(b : Int)] 1 rfl (by unfold maxLen; omega) rfl
              rw [show (wr.setCell ⟨w.heap.size + 1, b, none⟩ (.bool true)).heap.size = wr.heap.size from by simp] at q
              exact q
            go_wp2_with (at_builtin; go_loud (refine wpList_app Ir.eltI rfl (.tmp 69) (.tmp 71) rfl (base := w.heap.size + 2) _ _ rfl (HO2.out.alloc _) _ 1 1 [(b : Int)] rfl HSW.out HM1.out HM2.out (by simp; omega) ?_); intro v5 w5 ho5 hg5; have HO5 := Lib.hid ho5; have HG5 := Lib.hid hg5; clear ho5 hg5)
            have hlen5 : (((nearF p S M).take t).map Fnd.stop ++ [(b : Int)]).length = t + 1 := by rw [List.length_append, List.length_map, List.length_take, Nat.min_eq_left hF.out]; rfl
            obtain ⟨oa5, oc5, e5, -, -⟩ := HO5.out.slice
            rw [hlen5] at e5
            subst e5
            have hbo : Below (w.heap.size + 2) ((wr.setCell ⟨w.heap.size + 1, b, none⟩ (.bool true)).alloc (.cells #[.int .i64 (b : Int)] 3)) w5 := Ir.own_below (HO2.out.alloc _) HG5.out (by simp; omega)
            have htj : t + 1 ≤ j := by have := HFN.out; omega
            go_roundg (j - (t + 1))
            case measure => omega
            case rel =>
              refine ⟨t + 1, oa5, oc5, rfl, by omega, by omega, Nat.le_refl _, by omega, htF, ?_, ?_, ?_, ?_, ?_⟩
              · show V.Own _ _ _ _ _ _
                rw [HSN.out]; exact HO5.out
              · refine (HST.out.1.alloc _).kept HG5.out (.inr fun e => ?_)
                have h2 : w.heap.size + 2 ≤ w.heap.size + 1 := (World.ownsRow.lt (HO2.out.alloc (.cells #[.int .i64 (b : Int)] 3)) _ e.symm).1
                omega
              · exact (hbo.block _ (by omega)).trans (box_alloc HXS.out)
              · exact (HBS.out.alloc (by simp; omega) _).trans (hbo.mono (by omega))
              · have := hbo.size
                simp at this
                omega
    · have htk : t = mk := by omega
      have HTK := Lib.hid htk
      clear htk
      go_wp2_with fail
      go_ret
      refine ⟨_, rfl, ?_, hb.out⟩
      have o := ho.out
      rw [HTK.out] at o
      rw [HTK.out]
      unfold nearL
      exact o.lower (by omega)
end Go.Proofs.YtlfbbahihenilaaGreat.Ne
