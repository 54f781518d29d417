/- Grids: a greater reach keeps the first ones, plain. -/
/- Candidates: more reach, more of them: plain. -/
/- Ways: what a trace's way is; rows of points in two codings: plain. -/
/- Ways: the stages: walked. -/
import Derived.Test.YtlfbbahihenilaaGreatMg08
import Derived.Test.YtlfbbahihenilaaGreatMg28
import Derived.Test.YtlfbbahihenilaaGreatMg05
import Derived.Test.YtlfbbahihenilaaGreatMg12
import Derived.Test.YtlfbbahihenilaaGreatMhMtF
import Derived.Test.YtlfbbahihenilaaGreatMg14
import Derived.Test.YtlfbbahihenilaaGreatMg25
import Derived.OwnWalk
namespace Go.Proofs.YtlfbbahihenilaaGreat.Ne
open Go.RowKit Go.V Go.Proofs

theorem take_filter {P : Fnd → Bool} (hP : ∀ x y, ltF x y → P y = true → P x = true) : ∀ {L : List Fnd}, L.Pairwise ltF → L.take (L.filter P).length = L.filter P
  | [], _ => rfl
  | x :: L, h => by
    obtain ⟨h1, h2⟩ := List.pairwise_cons.1 h
    cases hx : P x with
    | true => rw [List.filter_cons_of_pos hx, List.length_cons, List.take_succ_cons, take_filter hP h2]
    | false =>
      have e : L.filter P = [] := List.filter_eq_nil_iff.2 fun y hy hh => by
        rw [hP x y (h1 y hy) hh] at hx; cases hx
      rw [List.filter_cons_of_neg (by rw [hx]; decide), e]; rfl
theorem near_sub {p : Stp} {S : List Stp} {m m' : Int} (h : m ≤ m') : (nearF p S m').filter (fun f => decide (f.sq ≤ m)) = nearF p S m := by
  refine near_uniq ⟨List.Nodup.sublist List.filter_sublist (near_good p S m').1, fun f => ?_⟩ (List.Pairwise.sublist List.filter_sublist (near_sorted p S m'))
  rw [List.mem_filter, (near_good p S m').2 f, decide_eq_true_iff]
  constructor
  · rintro ⟨⟨k, hk, e, -⟩, h2⟩; exact ⟨k, hk, e, h2⟩
  · rintro ⟨k, hk, e, h2⟩; exact ⟨⟨k, hk, e, by omega⟩, h2⟩
theorem near_full {p : Stp} {S : List Stp} {m : Int} {k : Nat} (h : S.length ≤ k) : nearL p S m k = (nearF p S m).map Fnd.stop := by
  unfold nearL
  rw [List.take_of_length_le (Nat.le_trans (near_len p S m) h)]
theorem near_prefix {p : Stp} {S : List Stp} {m m' : Int} {k : Nat} (hk : S.length ≤ k) (h : m ≤ m') : (nearL p S m k).length ≤ (nearL p S m' k).length ∧ (nearL p S m' k).take (nearL p S m k).length = nearL p S m k := by
  rw [near_full hk, near_full hk, List.length_map, List.length_map]
  have e := take_filter (P := fun f => decide (f.sq ≤ m)) (fun x y hxy hy => by
    have hy := of_decide_eq_true hy
    refine decide_eq_true ?_
    unfold ltF at hxy
    omega) (near_sorted p S m')
  rw [near_sub h] at e
  refine ⟨?_, ?_⟩
  · have := congrArg List.length e
    rw [List.length_take] at this
    omega
  · rw [← List.map_take, e]
theorem take_prefix {α : Type} {A B : List α} {a b : Nat} (h : B.take A.length = A) (hab : a ≤ b) : ((B.take b).take (A.take a).length) = A.take a ∧ (A.take a).length ≤ (B.take b).length := by
  have hl : A.length ≤ B.length := by have := congrArg List.length h; rw [List.length_take] at this; omega
  have h1 : (A.take a).length ≤ b := by rw [List.length_take]; omega
  refine ⟨?_, by rw [List.length_take, List.length_take]; omega⟩
  rw [List.take_take, Nat.min_eq_left h1]
  have e : A.take a = (B.take A.length).take a := by rw [h]
  rw [e, List.take_take]
  congr 1
  rw [List.length_take]
  omega
end Go.Proofs.YtlfbbahihenilaaGreat.Ne

namespace Go.Proofs.YtlfbbahihenilaaGreat.Ne
open Go.RowKit Go.V Go.Proofs

/-- A greater weighing. -/
def moreW (x : Wgh) : Wgh := ⟨min (x.reach + 20) 1048576, min (x.most + 2) 16, x.factor, x.change⟩
theorem moreW_may {x : Wgh} (h : mayW x = true) : mayW (moreW x) = true := by
  have hr := mayW_reach h
  unfold mayW moreW at *
  simp only [Bool.and_eq_true] at *
  refine ⟨⟨⟨decide_eq_true (by omega), decide_eq_true (by omega)⟩, h.1.2⟩, h.2⟩
theorem nearF_prefix {p : Stp} {S : List Stp} {m m' : Int} (h : m ≤ m') : (nearF p S m').take (nearF p S m).length = nearF p S m := by
  have e := take_filter (P := fun f => decide (f.sq ≤ m)) (fun x y hxy hy => by
    have hy := of_decide_eq_true hy
    refine decide_eq_true ?_
    unfold ltF at hxy
    omega) (near_sorted p S m')
  rw [near_sub h] at e
  exact e
theorem row_prefix {n : Net} {x : Wgh} {s : Smp} (h : mayW x = true) : (rowE n (moreW x) s).take (rowE n x s).length = rowE n x s ∧ (rowE n x s).length ≤ (rowE n (moreW x) s).length := by
  have hr := mayW_reach h
  have hm : x.reach * x.reach ≤ (moreW x).reach * (moreW x).reach := by
    have : x.reach ≤ (moreW x).reach := by show x.reach ≤ min (x.reach + 20) 1048576; omega
    exact Int.mul_le_mul this this hr.1 (by omega)
  unfold rowE ptsE
  exact take_prefix (nearF_prefix hm) (by show x.most.toNat ≤ (min (x.most + 2) 16).toNat; omega)
theorem row_at {n : Net} {x : Wgh} {s : Smp} {i : Nat} {f : Fnd} (h : (rowE n x s)[i]? = some f) : f.sq ≤ x.reach * x.reach ∧ 0 ≤ f.stop ∧ f.stop < n.stops.length := by
  have hm := List.mem_of_getElem? h
  unfold rowE ptsE at hm
  obtain ⟨k, hk, rfl, hs⟩ := ((near_good s.pt n.stops (x.reach * x.reach)).2 f).1 (List.mem_of_mem_take hm)
  have e : (fnd s.pt n.stops (k : Int)).stop = (k : Int) := rfl
  rw [e]
  exact ⟨hs, by omega, by omega⟩
theorem row_order {n : Net} {x : Wgh} {s : Smp} {i : Nat} {f g : Fnd} (h : (rowE n x s)[i]? = some f) (h' : (rowE n x s)[i + 1]? = some g) : ltF f g := by
  have hs : (rowE n x s).Pairwise ltF := by
    unfold rowE ptsE
    exact List.Pairwise.sublist (List.take_sublist _ _) (near_sorted s.pt n.stops (x.reach * x.reach))
  obtain ⟨h1, e1⟩ := List.getElem?_eq_some_iff.1 h
  obtain ⟨h2, e2⟩ := List.getElem?_eq_some_iff.1 h'
  have := List.pairwise_iff_getElem.1 hs i (i + 1) h1 h2 (Nat.lt_succ_self _)
  rwa [e1, e2] at this
theorem row_most (n : Net) {x : Wgh} (s : Smp) (h : mayW x = true) : ((rowE n x s).length : Int) ≤ x.most := by
  have hr := mayW_reach h
  unfold rowE ptsE
  rw [List.length_take]
  omega
end Go.Proofs.YtlfbbahihenilaaGreat.Ne

namespace Go.Proofs.YtlfbbahihenilaaGreat.Ne
open Go.RowKit Go.V Go.Proofs

def pntOf (f : Fnd) : Pnt := ⟨f.stop, f.sq⟩
theorem pnt_flat (xs : List Fnd) : (xs.map pntOf).flatMap pcod.enc = xs.flatMap Fnd.cod.enc := by
  induction xs with
  | nil => rfl
  | cons x xs ih => rw [List.map_cons, List.flatMap_cons, List.flatMap_cons, ih]; rfl
theorem sl_pnt {w : World} {a : Option Addr} {n cap : Nat} {xs : List Fnd} (h : Sl Fnd.cod w a n cap xs) : Sl pcod w a n cap (xs.map pntOf) := by
  refine ⟨by rw [List.length_map]; exact h.hlen, h.hcap, h.hmax, h.hnil, fun d hd hc => ?_⟩
  obtain ⟨h1, h2, h3⟩ := h.hat d hd hc
  refine ⟨h1, h2, ?_⟩
  rw [pnt_flat]
  exact h3
theorem hdr_flat (xs : List Hdr) : xs.flatMap hcod.enc = xs.flatMap Hdr.cod.enc := by
  induction xs with
  | nil => rfl
  | cons x xs ih => rw [List.flatMap_cons, List.flatMap_cons, ih]; rfl
theorem sl_hdr {w : World} {a : Option Addr} {n cap : Nat} {xs : List Hdr} (h : Sl Hdr.cod w a n cap xs) : Sl hcod w a n cap xs := by
  refine ⟨h.hlen, h.hcap, h.hmax, h.hnil, fun d hd hc => ?_⟩
  obtain ⟨h1, h2, h3⟩ := h.hat d hd hc
  refine ⟨h1, h2, ?_⟩
  rw [hdr_flat]
  exact h3
/-- Rows that a call made are rows as the weighings read them. -/
theorem pts_own {base : Nat} {w : World} {v : Value} {hs : List Hdr} {gs : List (List Fnd)} (h : OwnG 141 110 Fnd.cod base w v hs gs) : ∃ hp : Hdr, v = hp.val ∧ PtsIn w hp.a hp.n hp.cap (gs.map (·.map pntOf)) := by
  obtain ⟨a, cap, rfl, hsl, -⟩ := h.own.slice
  refine ⟨⟨a, hs.length, cap⟩, rfl, hs, (sl_hdr hsl).q, by rw [List.length_map]; exact h.len, fun i x g hx hg => ?_⟩
  rw [List.getElem?_map] at hg
  cases hgi : gs[i]? with
  | none => rw [hgi] at hg; cases hg
  | some g' =>
    rw [hgi] at hg
    cases hg
    obtain ⟨ho, -⟩ := h.each i x g' hx hgi
    obtain ⟨a', c', e, hs', -⟩ := ho.slice
    have e1 : x = ⟨a', g'.length, c'⟩ := by
      obtain ⟨xa, xn, xc⟩ := x
      have e : Value.slice xa xn xc = Value.slice a' g'.length c' := e
      cases e; rfl
    rw [e1]
    exact (sl_pnt hs').q

/-- The rows of a trace. -/
def rowsE (n : Net) (x : Wgh) (l : List Smp) : List (List Pnt) := (l.map (rowE n x)).map (·.map pntOf)
theorem rowsE_len (n : Net) (x : Wgh) (l : List Smp) : (rowsE n x l).length = l.length := by unfold rowsE; rw [List.length_map, List.length_map]
theorem row_sq {n : Net} {x : Wgh} {s : Smp} {f : Fnd} (h : f ∈ rowE n x s) : 0 ≤ f.sq := by
  unfold rowE ptsE at h
  obtain ⟨k, hk, rfl, hs⟩ := ((near_good s.pt n.stops (x.reach * x.reach)).2 f).1 (List.mem_of_mem_take h)
  exact (sqG_in _ _).1
theorem rows_may {n : Net} {x : Wgh} {l : List Smp} (h : allErr n x l = 0) : vmayE x (rowsE n x l) = 0 ∨ 2048 < l.length := by
  by_cases hl : l.length ≤ 2048
  · left
    unfold allErr at h
    split at h
    · split at h
      · next hm =>
        split at h
        · split at h
          · next hne =>
            have hr := mayW_reach hm
            have hrr : x.reach * x.reach ≤ 1099511627776 := by
              have := Int.mul_le_mul hr.2.1 hr.2.1 hr.1 (by omega : (0 : Int) ≤ 1048576)
              omega
            unfold vmayE
            rw [if_pos hm, rowsE_len, if_neg (by omega), if_pos ?_, if_neg ?_]
            · exact fun e => hne.1 (List.eq_nil_of_length_eq_zero e)
            · rw [List.all_eq_true]
              intro g hg
              unfold rowsE at hg
              rw [List.map_map, List.mem_map] at hg
              obtain ⟨s, hs, rfl⟩ := hg
              show rowOk ((rowE n x s).map pntOf) = true
              unfold rowOk
              rw [Bool.and_eq_true]
              refine ⟨decide_eq_true ?_, ?_⟩
              · rw [List.length_map]
                have := row_most n s hm
                omega
              · rw [List.all_eq_true]
                intro p hp
                rw [List.mem_map] at hp
                obtain ⟨f, hf, rfl⟩ := hp
                obtain ⟨i, hi⟩ := List.mem_iff_getElem?.1 hf
                have h1 := (row_at hi).1
                have h2 := row_sq hf
                unfold sqOk pntOf
                exact decide_eq_true (by simp only []; omega)
          · cases h
        · cases h
      · cases h
    · next hc => exact absurd h hc
  · right; omega
theorem isSeq_in : ∀ (gs : List (List Pnt)) (ss : List Int) (B : Int), (∀ g ∈ gs, ∀ p ∈ g, 0 ≤ p.stop ∧ p.stop < B) → isSeq gs ss → ∀ s ∈ ss, 0 ≤ s ∧ s < B
  | [], [], _, _, _, s, hs => by cases hs
  | [], t :: ss, _, _, h, _, _ => by simp [isSeq] at h
  | g :: gs, [], _, _, h, _, _ => by simp [isSeq] at h
  | g :: gs, t :: ss, B, hB, h, s, hs => by
    obtain ⟨⟨p, hp, hpt⟩, h2⟩ := h
    rcases List.mem_cons.1 hs with e | hs
    · rw [e, ← hpt]; exact hB g (by simp) p hp
    · exact isSeq_in gs ss B (fun g' hg' => hB g' (by simp [hg'])) h2 s hs
theorem rows_stop {n : Net} {x : Wgh} {l : List Smp} : ∀ g ∈ rowsE n x l, ∀ p ∈ g, 0 ≤ p.stop ∧ p.stop < n.stops.length := by
  intro g hg p hp
  unfold rowsE at hg
  rw [List.map_map, List.mem_map] at hg
  obtain ⟨s, hs, rfl⟩ := hg
  have hp : p ∈ (rowE n x s).map pntOf := hp
  rw [List.mem_map] at hp
  obtain ⟨f, hf, rfl⟩ := hp
  obtain ⟨i, hi⟩ := List.mem_iff_getElem?.1 hf
  exact (row_at hi).2
theorem best_in {n : Net} {k : Nat} {x : Wgh} {l : List Smp} {ss : List Int} (hv : vmayE x (rowsE n x l) = 0) (hn : n.stops.length ≤ 4096) (h : goE (stepE n k x) (rowsE n x l) none = some ss) :
    ss.length = l.length ∧ (∀ s ∈ ss, 0 ≤ s ∧ s < 4096) ∧ 0 ≤ (pickE (stepE n k x) none (rowsE n x l)).1 := by
  obtain ⟨o1, o2, o3, o4⟩ := vmay_ok hv
  obtain ⟨c1, c2, c3, -⟩ := (best_seq (n := n) (k := k) hv).2 ss h
  rw [rowsE_len] at c1
  refine ⟨c1, ?_, c3⟩
  rw [seq_tc n k x _ ss o1 o2] at c2
  have ht : 0 ≤ tcE (stepE n k x) none (rowsE n x l) ss := by
    split at c2
    · omega
    · omega
  have hq := tc_seq _ _ _ _ ht
  intro s hs
  have := isSeq_in _ _ _ rows_stop hq s hs
  omega

structure WayR where
  err : Int
  ss : List Int
  cost : Int
  R : List Rn
  L : List Lg
def wayNo (e : Int) : WayR := ⟨e, [], 0, [], []⟩
/-- A trace's way. -/
def trE (n : Net) (k : Nat) (r : Rul) (l : List Smp) : WayR :=
  if checkE n ≠ 0 then wayNo (checkE n) else
  if mayR r = false then wayNo 2 else
  if rightS l = false then wayNo 2 else
  if allErr n r.x (keepE r.f l) ≠ 0 then wayNo (allErr n r.x (keepE r.f l)) else
  match goE (stepE n k r.x) (rowsE n r.x (keepE r.f l)) none with
  | none => wayNo 31
  | some ss => ⟨0, ss, (pickE (stepE n k r.x) none (rowsE n r.x (keepE r.f l))).1, runsE ss (keepE r.f l), legsE (runsE ss (keepE r.f l)) r.stay⟩
theorem mayR_in {r : Rul} (h : mayR r = true) : mayF r.f = true ∧ mayW r.x = true ∧ 0 ≤ r.stay := by
  unfold mayR at h
  rw [Bool.and_eq_true, Bool.and_eq_true] at h
  exact ⟨h.1.1, h.1.2, (of_decide_eq_true h.2).1⟩
/-- A way in memory. -/
structure WayIn (w : World) (s r l : Hdr) (ss : List Int) (R : List Rn) (L : List Lg) : Prop where
  s : Sl icod w s.a s.n s.cap ss
  r : Sl Rn.cod w r.a r.n r.cap R
  l : Sl Lg.cod w l.a l.n l.cap L
theorem WayIn.below {w w' : World} {s r l : Hdr} {ss : List Int} {R : List Rn} {L : List Lg} (h : WayIn w s r l ss R L) (hb : Below w.heap.size w w') : WayIn w' s r l ss R L := ⟨h.s.below hb, h.r.below hb, h.l.below hb⟩
abbrev wayV (s r l : Hdr) (cost : Int) : Value := .agg #[.slice s.a s.n s.cap, .int .i64 cost, .slice r.a r.n r.cap, .slice l.a l.n l.cap]
theorem sl_nil {α : Type} (c : Cod α) (w : World) : Sl c w none 0 0 ([] : List α) := ⟨rfl, Nat.le_refl _, Nat.zero_le _, fun _ => ⟨rfl, rfl⟩, fun _ hd => nomatch hd⟩
theorem WayIn.nil (w : World) : WayIn w ⟨none, 0, 0⟩ ⟨none, 0, 0⟩ ⟨none, 0, 0⟩ [] [] [] := ⟨sl_nil _ _, sl_nil _ _, sl_nil _ _⟩
end Go.Proofs.YtlfbbahihenilaaGreat.Ne

namespace Go.Proofs.YtlfbbahihenilaaGreat.Ne
open Go.RowKit Go.V Go.Proofs

theorem gcheck_box {W : World} {g : Nat} {n : Net} {hs hl : Hdr} (h : W.heap[g]? = some (n.box hs hl)) : W.cell? ⟨g, 0, none⟩ = some (.int .i64 n.ver) ∧ W.cell? ⟨g, 1, none⟩ = some (.slice hs.a hs.n hs.cap) ∧ W.cell? ⟨g, 2, none⟩ = some (.slice hl.a hl.n hl.cap) :=
  ⟨(box_cell h 0).1, (box_cell h 1).1, (box_cell h 2).1⟩
/-- What the second stage answers. -/
def mayT (r : Rul) (n0 n : Net) : Int := if mayR r = true ∧ n0.ver = n.ver then 0 else 2
set_option maxHeartbeats 2000000 in
set_option maxRecDepth 100000 in
theorem st1_any (Bn : Nat) (n : Net) (hs hl : Hdr) (W : World) (hm : hs.n ≤ 60 ∧ hl.n ≤ 120) (hb : W.heap[Bn]? = some (n.box hs hl)) (hnet : NetIn W n hs hl) :
    Calls Tryz.prog 36 #[.pointer (some ⟨Bn, 0, none⟩)] W fun e W' => e = .returned (.int .i64 (checkE n)) ∧ Below W.heap.size W W' := by
  obtain ⟨x0, x1, x2⟩ := gcheck_box hb
  have HNT := Lib.hid hnet
  clear hb hnet
  go_enter Tryz.func36, Tryz.ntmps36
  go_wp2_with (go_at_call 35; go_fit (check_any n hs hl _ ⟨by omega, by omega⟩ HNT.out); rintro e w1 ⟨rfl, hb1⟩; have HB1 := Lib.hid hb1; clear hb1)
  go_ret
  exact ⟨rfl, HB1.out⟩

set_option maxHeartbeats 4000000 in
set_option maxRecDepth 100000 in
theorem st2_any (Br Bt Bn base tg mg N : Nat) (r : Rul) (n0 n : Net) (h0 hl0 hs hl : Hdr) (W : World) (hr : W.heap[Br]? = some r.box) (ht : W.heap[Bt]? = some (.cells #[.pointer (some ⟨tg, 0, none⟩)] 47 (0, 0))) (hb : W.heap[Bn]? = some (n.box hs hl))
    (hT : TabIn W base tg mg N n0 h0 hl0) (he : h0.n = hs.n) :
    Calls Tryz.prog 37 #[.pointer (some ⟨Br, 0, none⟩), .pointer (some ⟨Bt, 0, none⟩), .pointer (some ⟨Bn, 0, none⟩)] W fun e W' => e = .returned (.int .i64 (mayT r n0 n)) ∧ Below W.heap.size W W' := by
  obtain ⟨x0, x1, x2⟩ := gcheck_box hb
  have t0 : W.cell? ⟨Bt, 0, none⟩ = some (.pointer (some ⟨tg, 0, none⟩)) := (box_cell ht 0).1
  obtain ⟨⟨sp, gp⟩, ⟨xr, xm, xf, xc⟩, st⟩ := r
  obtain ⟨r0, r1, r2, r3, r4, r5, r6⟩ := box7_cells hr
  have X0 := cell_regrown x0
  have X1 := cell_regrown x1
  have T0 := cell_regrown t0
  have R0 := cell_regrown r0
  have R1 := cell_regrown r1
  have R2 := cell_regrown r2
  have R3 := cell_regrown r3
  have R4 := cell_regrown r4
  have R5 := cell_regrown r5
  have R6 := cell_regrown r6
  have mixed : Tryz.prog.follows .mixedOrders = true := by kernel_rfl
  obtain ⟨b, hbb⟩ : ∃ b, mayR ⟨⟨sp, gp⟩, ⟨xr, xm, xf, xc⟩, st⟩ = b := ⟨_, rfl⟩
  have HBB := Lib.hid hbb
  have q1 : ∀ nd osq, Calls Tryz.prog 10 #[(Rul.mk ⟨sp, gp⟩ ⟨xr, xm, xf, xc⟩ st).val] (Go.Sort.grow (redrawn W nd) osq) fun e w' => e = .returned (.bool b) ∧ Below (Go.Sort.grow (redrawn W nd) osq).heap.size (Go.Sort.grow (redrawn W nd) osq) w' := fun nd osq => (mtmay_any ⟨⟨sp, gp⟩, ⟨xr, xm, xf, xc⟩, st⟩ _).mono fun e w' ⟨k1, k2⟩ => ⟨by rw [k1, hbb], k2⟩
  have q2 : ∀ nd osq, Calls Tryz.prog 38 #[.pointer (some ⟨tg, 0, none⟩)] (Go.Sort.grow (redrawn W nd) osq) fun e w' => e = .returned (.int .i64 hs.n) ∧ Below (Go.Sort.grow (redrawn W nd) osq).heap.size (Go.Sort.grow (redrawn W nd) osq) w' := fun nd osq => (tlen_any _ base tg mg N n0 h0 hl0 (hT.below (below_regrown W nd osq))).mono fun e w' ⟨k1, k2⟩ => ⟨by rw [k1, he], k2 ▸ Below.refl _ _⟩
  have q3 : ∀ nd osq, Calls Tryz.prog 39 #[.pointer (some ⟨tg, 0, none⟩)] (Go.Sort.grow (redrawn W nd) osq) fun e w' => e = .returned (.int .i64 n0.ver) ∧ Below (Go.Sort.grow (redrawn W nd) osq).heap.size (Go.Sort.grow (redrawn W nd) osq) w' := fun nd osq => (tver_any _ base tg mg N n0 h0 hl0 (hT.below (below_regrown W nd osq))).mono fun e w' ⟨k1, k2⟩ => ⟨k1, k2 ▸ Below.refl _ _⟩
  clear hr ht hb hT hbb x0 x1 x2 t0 r0 r1 r2 r3 r4 r5 r6
  cases b with
  | false =>
    go_enter Tryz.func37, Tryz.ntmps37
    go_upto_region 1 with fail
    refine wp_region_quiet_below (by assumption) (by kernel_rfl) ?_
    repeat (go_big_quiet_step (first
      | (go_at_call 10; exact Calls.regrown_of (q1 _ _))
      | (go_at_call 38; exact Calls.regrown_of (q2 _ _))
      | (go_at_call 39; exact Calls.regrown_of (q3 _ _))))
    refine wpQuiet_nil ?_
    intro w9 hw9
    obtain ⟨⟨nd, osq⟩, rfl⟩ := hw9
    have hbq := Lib.hid (below_regrown W nd osq)
    clear X0 X1 T0 R0 R1 R2 R3 R4 R5 R6 q1 q2 q3
    generalize Go.Sort.grow (redrawn W nd) osq = w9 at hbq ⊢
    go_wp2_with fail
    go_ret
    exact ⟨by rw [show mayT _ n0 n = 2 from if_neg (by rw [HBB.out]; simp)]; rfl, hbq.out⟩
  | true =>
    by_cases hv : n0.ver = n.ver
    · have hvd : (n0.ver != n.ver) = false := by simpa using hv
      have HV := Lib.hid hv
      clear hv
      go_enter Tryz.func37, Tryz.ntmps37
      go_upto_region 1 with fail
      refine wp_region_quiet_below (by assumption) (by kernel_rfl) ?_
      repeat (go_big_quiet_step (first
        | (go_at_call 10; exact Calls.regrown_of (q1 _ _))
        | (go_at_call 38; exact Calls.regrown_of (q2 _ _))
        | (go_at_call 39; exact Calls.regrown_of (q3 _ _))))
      refine wpQuiet_nil ?_
      intro w9 hw9
      obtain ⟨⟨nd, osq⟩, rfl⟩ := hw9
      have hbq := Lib.hid (below_regrown W nd osq)
      clear X0 X1 T0 R0 R1 R2 R3 R4 R5 R6 q1 q2 q3
      generalize Go.Sort.grow (redrawn W nd) osq = w9 at hbq ⊢
      go_wp2_with fail
      go_ret
      exact ⟨by rw [show mayT _ n0 n = 0 from if_pos ⟨HBB.out, HV.out⟩]; rfl, hbq.out⟩
    · have hvd : (n0.ver != n.ver) = true := by simpa using hv
      have HV := Lib.hid hv
      clear hv
      go_enter Tryz.func37, Tryz.ntmps37
      go_upto_region 1 with fail
      refine wp_region_quiet_below (by assumption) (by kernel_rfl) ?_
      repeat (go_big_quiet_step (first
        | (go_at_call 10; exact Calls.regrown_of (q1 _ _))
        | (go_at_call 38; exact Calls.regrown_of (q2 _ _))
        | (go_at_call 39; exact Calls.regrown_of (q3 _ _))))
      refine wpQuiet_nil ?_
      intro w9 hw9
      obtain ⟨⟨nd, osq⟩, rfl⟩ := hw9
      have hbq := Lib.hid (below_regrown W nd osq)
      clear X0 X1 T0 R0 R1 R2 R3 R4 R5 R6 q1 q2 q3
      generalize Go.Sort.grow (redrawn W nd) osq = w9 at hbq ⊢
      go_wp2_with fail
      go_ret
      exact ⟨by rw [show mayT _ n0 n = 2 from if_neg (fun h => HV.out h.2)]; rfl, hbq.out⟩

set_option maxHeartbeats 2000000 in
set_option maxRecDepth 100000 in
theorem st3_any (Br Bl Bk : Nat) (r : Rul) (la : Option Addr) (ln lc : Nat) (l : List Smp) (u : Value) (W : World) (hn : ln ≤ 2048) (hr : W.heap[Br]? = some r.box) (hl : W.heap[Bl]? = some (.cells #[.slice la ln lc] 32 (0, 0))) (hk : W.heap[Bk]? = some (.cells #[u] 32 (0, 0))) (hL : Sl Smp.cod W la ln lc l) :
    Calls Tryz.prog 40 #[.pointer (some ⟨Br, 0, none⟩), .pointer (some ⟨Bl, 0, none⟩), .pointer (some ⟨Bk, 0, none⟩)] W fun e W' => ∃ v W1, e = .returned (.int .i64 (keepErr r.f l)) ∧ V.Own 73 Smp.cod W.heap.size W1 v (keptE r.f l) ∧ Below W.heap.size W W1 ∧ W' = W1.setCell ⟨Bk, 0, none⟩ v := by
  obtain ⟨⟨sp, gp⟩, ⟨xr, xm, xf, xc⟩, st⟩ := r
  obtain ⟨r0, r1, r2, r3, r4, r5, r6⟩ := box7_cells hr
  have l0 : W.cell? ⟨Bl, 0, none⟩ = some (.slice la ln lc) := (box_cell hl 0).1
  have HK := Lib.hid hk
  have HL := Lib.hid hL
  clear hr hl hk hL r2 r3 r4 r5 r6
  go_enter Tryz.func40, Tryz.ntmps40
  go_wp2_with (go_at_call 16; go_fit (ckeep_any ⟨sp, gp⟩ la ln lc l _ hn HL.out); rintro e w1 ⟨v, rfl, ho, hb1⟩; obtain ⟨va, vc, hv, -, -⟩ := ho.slice; subst hv; have HO := Lib.hid ho; have HB1 := Lib.hid hb1; have HK1 := Lib.hid (box_below HK.out hb1); obtain ⟨k0, k0f⟩ := box_cell HK1.out 0; clear ho hb1)
  go_ret
  exact ⟨_, w1, rfl, HO.out, HB1.out, rfl⟩

def rowsG (n : Net) (x : Wgh) (K : List Smp) : List (List Fnd) := if allErr n x K = 0 then K.map (rowE n x) else []
set_option maxHeartbeats 2000000 in
set_option maxRecDepth 100000 in
theorem st4_any (Bn Br Bk Bg : Nat) (n : Net) (hs hl : Hdr) (r : Rul) (ka : Option Addr) (kn kc : Nat) (K : List Smp) (u : Value) (W : World) (hm : hs.n ≤ 60 ∧ hl.n ≤ 120) (hk2 : kn ≤ 2048) (hb : W.heap[Bn]? = some (n.box hs hl)) (hnet : NetIn W n hs hl) (hr : W.heap[Br]? = some r.box) (hk : W.heap[Bk]? = some (.cells #[.slice ka kn kc] 32 (0, 0))) (hg : W.heap[Bg]? = some (.cells #[u] 63 (0, 0))) (hK : Sl Smp.cod W ka kn kc K) :
    Calls Tryz.prog 41 #[.pointer (some ⟨Bn, 0, none⟩), .pointer (some ⟨Br, 0, none⟩), .pointer (some ⟨Bk, 0, none⟩), .pointer (some ⟨Bg, 0, none⟩)] W fun e W' => ∃ (v : Value) (hh : List Hdr) (W1 : World), e = .returned (.int .i64 (allErr n r.x K)) ∧ OwnG 141 110 Fnd.cod W.heap.size W1 v hh (rowsG n r.x K) ∧ Below W.heap.size W W1 ∧ W' = W1.setCell ⟨Bg, 0, none⟩ v := by
  obtain ⟨⟨sp, gp⟩, ⟨xr, xm, xf, xc⟩, st⟩ := r
  obtain ⟨x0, x1, x2⟩ := gcheck_box hb
  obtain ⟨r0, r1, r2, r3, r4, r5, r6⟩ := box7_cells hr
  have k0 : W.cell? ⟨Bk, 0, none⟩ = some (.slice ka kn kc) := (box_cell hk 0).1
  have HNT := Lib.hid hnet
  have HG := Lib.hid hg
  have HK := Lib.hid hK
  have HA := Lib.hid (call_any n hs hl ⟨xr, xm, xf, xc⟩ ka kn kc K)
  clear hb hr hk hg hK hnet r0 r1 r6
  go_enter Tryz.func41, Tryz.ntmps41
  go_wp2_with (go_at_call 17; go_fit (HA.out _ ⟨by omega, by omega⟩ hk2 HNT.out HK.out); rintro e w1 ⟨v, hh, rfl, ho, hb1⟩; obtain ⟨va, vc, hv, -, -⟩ := ho.own.slice; subst hv; have HO := Lib.hid ho; have HB1 := Lib.hid hb1; have HG1 := Lib.hid (box_below HG.out hb1); obtain ⟨g0, g0f⟩ := box_cell HG1.out 0; clear ho hb1)
  go_ret
  exact ⟨_, hh, w1, rfl, HO.out, HB1.out, rfl⟩

set_option maxHeartbeats 4000000 in
set_option maxRecDepth 100000 in
theorem st5_any (Bt Br Bg Bw base tg mg : Nat) (n : Net) (hs hl : Hdr) (r : Rul) (hp : Hdr) (gs : List (List Pnt)) (u0 u1 u2 u3 : Value) (N : Nat) (W : World) (hN : N ≤ 10) (h60 : gs.length ≤ 60) (hm : hs.n ≤ 60 ∧ hl.n ≤ 120) (hne : tg ≠ mg) (hok : checkE n = 0)
    (ht : W.heap[Bt]? = some (.cells #[.pointer (some ⟨tg, 0, none⟩)] 47 (0, 0))) (hr : W.heap[Br]? = some r.box) (hg : W.heap[Bg]? = some (.cells #[.slice hp.a hp.n hp.cap] 63 (0, 0))) (hw : W.heap[Bw]? = some (.cells #[u0, u1, u2, u3] 39 (0, 0)))
    (hT : TabIn W base tg mg N n hs hl) (hP : PtsIn W hp.a hp.n hp.cap gs) (hv : vmayE r.x gs = 0) (hbw : mg ≠ Bw) :
    Calls Tryz.prog 42 #[.pointer (some ⟨Bt, 0, none⟩), .pointer (some ⟨Br, 0, none⟩), .pointer (some ⟨Bg, 0, none⟩), .pointer (some ⟨Bw, 0, none⟩)] W fun e W' => ∃ v c W1, TabIn W1 base tg mg (N + 20000) n hs hl ∧ Chg W W1 mg none ∧ W' = (W1.setCell ⟨Bw, 0, none⟩ v).setCell ⟨Bw, 1, none⟩ (.int .i64 c) ∧
      ((goE (stepE n hs.n r.x) gs none = none ∧ e = .returned (.int .i64 31)) ∨ ∃ ss, goE (stepE n hs.n r.x) gs none = some ss ∧ e = .returned (.int .i64 0) ∧ V.Own 3 icod W.heap.size W1 v ss ∧ c = (pickE (stepE n hs.n r.x) none gs).1) := by
  obtain ⟨⟨sp, gp⟩, ⟨xr, xm, xf, xc⟩, st⟩ := r
  obtain ⟨r0, r1, r2, r3, r4, r5, r6⟩ := box7_cells hr
  have t0 : W.cell? ⟨Bt, 0, none⟩ = some (.pointer (some ⟨tg, 0, none⟩)) := (box_cell ht 0).1
  have g0 : W.cell? ⟨Bg, 0, none⟩ = some (.slice hp.a hp.n hp.cap) := (box_cell hg 0).1
  have HW := Lib.hid hw
  have HT := Lib.hid hT
  have HP := Lib.hid hP
  have HV := Lib.hid hv
  clear ht hr hg hw hT hP hv r0 r1 r6
  obtain ⟨G, hG⟩ : ∃ G, goE (stepE n hs.n ⟨xr, xm, xf, xc⟩) gs none = G := ⟨_, rfl⟩
  obtain ⟨c, hc⟩ : ∃ c, (pickE (stepE n hs.n ⟨xr, xm, xf, xc⟩) none gs).1 = c := ⟨_, rfl⟩
  have hvb := vbest_any W base tg mg N n hs hl ⟨xr, xm, xf, xc⟩ hp gs HT.out hok hm.1 hm.2 HP.out h60 hN hne
  rw [hG, hc] at hvb
  rw [hG, hc]
  have HVB := Lib.hid hvb
  clear hvb hG hc
  cases G with
  | none =>
    go_enter Tryz.func42, Tryz.ntmps42
    go_wp2_with (go_at_call 43; go_fit HVB.out; rintro e w1 ⟨ht1, hc1, -, hy⟩; have he := (hy HV.out).1 rfl; subst he; have HT1 := Lib.hid ht1; have HC1 := Lib.hid hc1; have HW1 := Lib.hid (hc1.box HW.out (fun e => hbw e.symm) (by simp)); obtain ⟨w0, -, -, -⟩ := box4w_cells HW1.out; obtain ⟨-, w0f⟩ := box_cell HW1.out 0; obtain ⟨-, w1f⟩ := box_cell HW1.out 1; have hf1 : ∀ v, (w1.setCell ⟨Bw, 0, none⟩ v).frozen? ⟨Bw, 1, none⟩ = false := (fun v => (box_cell (heap_setCell_same w1 Bw 0 _ _ v HW1.out) 1).2); have hc1' : ∀ v, (w1.setCell ⟨Bw, 0, none⟩ v).cell? ⟨Bw, 1, none⟩ = some u1 := (fun v => (box_cell (heap_setCell_same w1 Bw 0 _ _ v HW1.out) 1).1); clear ht1 hc1 hy)
    go_ret
    exact ⟨_, _, w1, HT1.out, HC1.out, rfl, .inl ⟨by first | rfl | trivial, rfl⟩⟩
  | some ss =>
    go_enter Tryz.func42, Tryz.ntmps42
    go_wp2_with (go_at_call 43; go_fit HVB.out; rintro e w1 ⟨ht1, hc1, -, hy⟩; obtain ⟨v, he, ho⟩ := (hy HV.out).2 ss rfl; obtain ⟨va, vc, hv, -, -⟩ := ho.slice; subst hv; subst he; have HO := Lib.hid ho; have HT1 := Lib.hid ht1; have HC1 := Lib.hid hc1; have HW1 := Lib.hid (hc1.box HW.out (fun e => hbw e.symm) (by simp)); obtain ⟨w0, -, -, -⟩ := box4w_cells HW1.out; obtain ⟨-, w0f⟩ := box_cell HW1.out 0; obtain ⟨-, w1f⟩ := box_cell HW1.out 1; have hf1 : ∀ v, (w1.setCell ⟨Bw, 0, none⟩ v).frozen? ⟨Bw, 1, none⟩ = false := (fun v => (box_cell (heap_setCell_same w1 Bw 0 _ _ v HW1.out) 1).2); have hc1' : ∀ v, (w1.setCell ⟨Bw, 0, none⟩ v).cell? ⟨Bw, 1, none⟩ = some u1 := (fun v => (box_cell (heap_setCell_same w1 Bw 0 _ _ v HW1.out) 1).1); clear ht1 hc1 hy ho)
    go_ret
    exact ⟨_, _, w1, HT1.out, HC1.out, rfl, .inr ⟨ss, rfl, rfl, HO.out, rfl⟩⟩

set_option maxHeartbeats 2000000 in
set_option maxRecDepth 100000 in
theorem st6_any (Bw Bk : Nat) (sa : Option Addr) (n sc : Nat) (ss : List Int) (ka : Option Addr) (kc : Nat) (K : List Smp) (u1 u2 u3 : Value) (W : World) (hn : n ≤ 2048) (hw : W.heap[Bw]? = some (.cells #[.slice sa n sc, u1, u2, u3] 39 (0, 0))) (hk : W.heap[Bk]? = some (.cells #[.slice ka n kc] 32 (0, 0)))
    (hs : Sl icod W sa n sc ss) (hK : Sl Smp.cod W ka n kc K) (hss : ∀ s ∈ ss, 0 ≤ s ∧ s < 4096) (hr : rightS K = true) :
    Calls Tryz.prog 44 #[.pointer (some ⟨Bw, 0, none⟩), .pointer (some ⟨Bk, 0, none⟩)] W fun e W' => ∃ v W1, e = .returned (.int .i64 0) ∧ V.Own 57 Rn.cod W.heap.size W1 v (runsE ss K) ∧ Below W.heap.size W W1 ∧ W' = W1.setCell ⟨Bw, 2, none⟩ v := by
  have w0 : W.cell? ⟨Bw, 0, none⟩ = some (.slice sa n sc) := (box_cell hw 0).1
  have k0 : W.cell? ⟨Bk, 0, none⟩ = some (.slice ka n kc) := (box_cell hk 0).1
  have HW := Lib.hid hw
  have HR := Lib.hid (druns_any sa n sc ss ka kc K W hn hs hK hss hr)
  clear hw hk hs hK hss hr
  go_enter Tryz.func44, Tryz.ntmps44
  go_wp2_with (go_at_call 45; go_fit HR.out; rintro e w1 ⟨v, rfl, ho, hb1⟩; obtain ⟨va, vc, hv, -, -⟩ := ho.slice; subst hv; have HO := Lib.hid ho; have HB1 := Lib.hid hb1; have HW1 := Lib.hid (box_below HW.out hb1); obtain ⟨-, -, w2, -⟩ := box4w_cells HW1.out; obtain ⟨-, w2f⟩ := box_cell HW1.out 2; clear ho hb1)
  go_ret
  exact ⟨_, w1, rfl, HO.out, HB1.out, rfl⟩

set_option maxHeartbeats 2000000 in
set_option maxRecDepth 100000 in
theorem st7_any (Bw Br : Nat) (r : Rul) (ra : Option Addr) (rn rc : Nat) (R : List Rn) (u0 u1 u3 : Value) (W : World) (hn : rn ≤ 1000000) (hw : W.heap[Bw]? = some (.cells #[u0, u1, .slice ra rn rc, u3] 39 (0, 0))) (hr : W.heap[Br]? = some r.box)
    (hR : Sl Rn.cod W ra rn rc R) (hok : RunsOk R) (h0 : 0 ≤ r.stay) :
    Calls Tryz.prog 46 #[.pointer (some ⟨Bw, 0, none⟩), .pointer (some ⟨Br, 0, none⟩)] W fun e W' => ∃ v W1, e = .returned (.int .i64 0) ∧ V.Own 53 Lg.cod W.heap.size W1 v (legsE R r.stay) ∧ Below W.heap.size W W1 ∧ W' = W1.setCell ⟨Bw, 3, none⟩ v := by
  have w2 : W.cell? ⟨Bw, 2, none⟩ = some (.slice ra rn rc) := (box_cell hw 2).1
  obtain ⟨⟨sp, gp⟩, ⟨xr, xm, xf, xc⟩, st⟩ := r
  obtain ⟨r0, r1, r2, r3, r4, r5, r6⟩ := box7_cells hr
  have HW := Lib.hid hw
  have HR := Lib.hid (legs_any ra rn rc R st W hn hR hok h0)
  clear hw hr hR hok h0 r0 r1 r2 r3 r4 r5
  go_enter Tryz.func46, Tryz.ntmps46
  go_wp2_with (go_at_call 47; go_fit HR.out; rintro e w1 ⟨v, rfl, ho, hb1⟩; obtain ⟨va, vc, hv, -, -⟩ := ho.slice; subst hv; have HO := Lib.hid ho; have HB1 := Lib.hid hb1; have HW1 := Lib.hid (box_below HW.out hb1); obtain ⟨-, -, -, w3⟩ := box4w_cells HW1.out; obtain ⟨-, w3f⟩ := box_cell HW1.out 3; clear ho hb1)
  go_ret
  exact ⟨_, w1, rfl, HO.out, HB1.out, rfl⟩
end Go.Proofs.YtlfbbahihenilaaGreat.Ne
