/- cmp.Compare, cmp.Or at int: walked. -/
/- Grids: plain words; squares of distances: walked. -/
/- Ways: cleaned traces, runs and legs: plain. -/
/- Ways: legs: plain. -/
import Derived.Test.YtlfbbahihenilaaGreatMg00
import Derived.BigQuiet
import Derived.Deep.QuietTactic
import Derived.Deep.RegionHeld3
import Derived.Test.YtlfbbahihenilaaGreatMg02
namespace Go.Proofs.YtlfbbahihenilaaGreat.Ne
open Go.RowKit Go.V Go.Proofs

set_option maxHeartbeats 400000 in
theorem isNaN_any (x : Int) (w : World) :
    Calls Tryz.prog 111 #[.int .i64 x] w fun e w' => e = .returned (.bool false) ∧ w = w' := by
  go_enter Tryz.func111, Tryz.ntmps111
  go_wp2
  go_ret
  exact ⟨by simp, rfl⟩
def cmpI (x y : Int) : Int := if x < y then -1 else if y < x then 1 else 0
set_option maxHeartbeats 400000 in
theorem cmpI_any (x y : Int) (w : World) :
    Calls Tryz.prog 96 #[.int .i64 x, .int .i64 y] w fun e w' => e = .returned (.int .i64 (cmpI x y)) ∧ w = w' := by
  by_cases h1 : x < y
  · go_enter Tryz.func96, Tryz.ntmps96
    go_wp2
    go_ret
    exact ⟨ret_int (by unfold cmpI; (repeat' split) <;> omega), rfl⟩
  · by_cases h2 : y < x
    all_goals
      go_enter Tryz.func96, Tryz.ntmps96
      go_wp2
      go_ret
      exact ⟨ret_int (by unfold cmpI; (repeat' split) <;> omega), rfl⟩
set_option maxHeartbeats 1000000 in
theorem or_any (x y : Int) (g : Nat) (w : World) (h0 : w.cell? ⟨g, 0, none⟩ = some (.int .i64 x)) (h1 : w.cell? ⟨g, 1, none⟩ = some (.int .i64 y)) :
    Calls Tryz.prog 95 #[.slice (some ⟨g, 0, none⟩) 2 2] w fun e w' => e = .returned (.int .i64 (if x = 0 then y else x)) ∧ w = w' := by
  obtain ⟨q, hq⟩ : ∃ q, (if x = 0 then y else x) = q := ⟨_, rfl⟩
  rw [hq]
  have HQ := Lib.hid hq
  clear hq
  go_enter Tryz.func95, Tryz.ntmps95
  go_wp2_with fail
  go_loop [8] (fun i => ∃ k : Nat, i = .int .i64 k ∧ k ≤ 2 ∧ Hid (1 ≤ k → x = 0) ∧ Hid (2 ≤ k → y = 0)) (fun i => 2 - (intOf i).toNat)
  case atStart => exact ⟨0, rfl, by omega, fun h => by omega, fun h => by omega⟩
  case round =>
    obtain ⟨k, rfl, hk, z1, z2⟩ := hrel
    have hcase : k = 0 ∨ k = 1 ∨ k = 2 := by omega
    clear hk
    rcases hcase with rfl | rfl | rfl
    · by_cases hz : x = 0
      · have hzb : (x != 0) = false := by simp [hz]
        have HZ := Lib.hid hz
        clear hz
        go_wp2_with fail
        go_round
        case rel => exact ⟨1, rfl, by omega, fun _ => HZ.out, fun h => by omega⟩
        case measure => simp [intOf]
      · have hzb : (x != 0) = true := by simpa using hz
        have HZ := Lib.hid hz
        clear hz
        go_wp2_with fail
        go_ret
        exact ⟨ret_int (by rw [← HQ.out, if_neg HZ.out]), rfl⟩
    · by_cases hz : y = 0
      · have hzb : (y != 0) = false := by simp [hz]
        have HZ := Lib.hid hz
        clear hz
        go_wp2_with fail
        go_round
        case rel => exact ⟨2, rfl, by omega, fun _ => z1.out (by omega), fun _ => HZ.out⟩
        case measure => simp [intOf]
      · have hzb : (y != 0) = true := by simpa using hz
        have HZ := Lib.hid hz
        clear hz
        go_wp2_with fail
        go_ret
        exact ⟨ret_int (by rw [← HQ.out, if_pos (z1.out (by omega))]), rfl⟩
    · go_wp2_with fail
      go_ret
      exact ⟨ret_int (by rw [← HQ.out, if_pos (z1.out (by omega)), z2.out (by omega)]), rfl⟩
end Go.Proofs.YtlfbbahihenilaaGreat.Ne

namespace Go.Proofs.YtlfbbahihenilaaGreat.Ne
open Go.RowKit Go.V Go.Proofs

def sqG (p q : Stp) : Int := if stpB p = true ∧ stpB q = true then (p.x - q.x) * (p.x - q.x) + (p.y - q.y) * (p.y - q.y) else 0
theorem stp_may (p : Stp) : mayB p.x p.y = stpB p := rfl
theorem sq_in {a b : Int} (ha : 0 ≤ a ∧ a < 67108864) (hb : 0 ≤ b ∧ b < 67108864) : 0 ≤ (a - b) * (a - b) ∧ (a - b) * (a - b) ≤ 4503599627370496 := by
  obtain ⟨m, hm⟩ : ∃ m, a - b = m := ⟨_, rfl⟩
  rw [hm]
  have h1 : -67108864 ≤ m ∧ m ≤ 67108864 := by omega
  rcases Int.le_total 0 m with h | h
  · have := Int.mul_le_mul h1.2 h1.2 h (by decide)
    exact ⟨Int.mul_nonneg h h, by omega⟩
  · have h2 := Int.mul_le_mul (show -m ≤ 67108864 by omega) (show -m ≤ 67108864 by omega) (by omega) (by decide)
    rw [Int.neg_mul_neg] at h2
    exact ⟨by have := Int.mul_nonneg (show 0 ≤ -m by omega) (show 0 ≤ -m by omega); rw [Int.neg_mul_neg] at this; exact this, by omega⟩
theorem sqG_in (p q : Stp) : 0 ≤ sqG p q ∧ sqG p q ≤ 9007199254740992 := by
  unfold sqG
  split
  · next h =>
    have h1 := of_decide_eq_true h.1
    have h2 := of_decide_eq_true h.2
    have := sq_in ⟨h1.1, h1.2.1⟩ ⟨h2.1, h2.2.1⟩
    have := sq_in ⟨h1.2.2.1, h1.2.2.2⟩ ⟨h2.2.2.1, h2.2.2.2⟩
    omega
  · omega
set_option maxHeartbeats 400000 in
theorem gis_any (p : Stp) (w : World) :
    Calls Tryz.prog 112 #[p.val] w fun e w' => e = .returned (.bool (stpB p)) ∧ Below w.heap.size w w' := by
  have HB : Hid (Below w.heap.size w (w.alloc (.cells #[.int .i64 p.x, .int .i64 p.y] 70))) := (Below.refl _ _).alloc (Nat.le_refl _) _
  go_enter Tryz.func112, Tryz.ntmps112
  go_wp2_with (go_at_call 71; refine (may_any p.x p.y _).mono ?_; rintro e w1 ⟨rfl, rfl⟩; rw [stp_may])
  go_ret
  exact ⟨rfl, HB.out⟩
set_option maxHeartbeats 1000000 in
set_option maxRecDepth 100000 in
theorem gsq_any (p q : Stp) (w : World) :
    Calls Tryz.prog 103 #[p.val, q.val] w fun e w' => e = .returned (.int .i64 (sqG p q)) ∧ Below w.heap.size w w' := by
  have HX0 := Lib.hid (box_alloc (o := .cells #[.int .i64 q.x, .int .i64 q.y] 70) (box_new w (.cells #[.int .i64 p.x, .int .i64 p.y] 70)))
  have HY0 := Lib.hid (box_new (w.alloc (.cells #[.int .i64 p.x, .int .i64 p.y] 70)) (.cells #[.int .i64 q.x, .int .i64 q.y] 70))
  rw [World.size_alloc] at HY0
  have HB0 : Hid (Below w.heap.size w ((w.alloc (.cells #[.int .i64 p.x, .int .i64 p.y] 70)).alloc (.cells #[.int .i64 q.x, .int .i64 q.y] 70))) := ((Below.refl _ _).alloc (Nat.le_refl _) _).alloc (by simp) _
  obtain ⟨r, hr⟩ : ∃ r, sqG p q = r := ⟨_, rfl⟩
  have HR := Lib.hid hr
  rw [hr]
  clear hr
  obtain ⟨bp, hbp⟩ : ∃ b, stpB p = b := ⟨_, rfl⟩
  obtain ⟨bq, hbq⟩ : ∃ b, stpB q = b := ⟨_, rfl⟩
  have HP := Lib.hid hbp
  have HQ := Lib.hid hbq
  clear hbp hbq
  cases bp with
  | false =>
    have hz : 0 = r := by rw [← HR.out, sqG, if_neg (fun h => by rw [HP.out] at h; cases h.1)]
    subst hz
    go_enter Tryz.func103, Tryz.ntmps103
    go_wp2_with (go_at_call 112; refine (gis_any p _).mono ?_; rintro e w1 ⟨rfl, hb1⟩; rw [HP.out]; have HB1 := Lib.hid (HB0.out.trans (hb1.mono HB0.out.size)); clear hb1)
    go_ret
    exact ⟨rfl, HB1.out⟩
  | true =>
    cases bq with
    | false =>
      have hz : 0 = r := by rw [← HR.out, sqG, if_neg (fun h => by rw [HQ.out] at h; cases h.2)]
      subst hz
      have hsz : w.heap.size + 1 < ((w.alloc (.cells #[.int .i64 p.x, .int .i64 p.y] 70)).alloc (.cells #[.int .i64 q.x, .int .i64 q.y] 70)).heap.size := by simp
      go_enter Tryz.func103, Tryz.ntmps103
      go_wp2_with (first
        | (go_at_call 112; refine (gis_any p _).mono ?_; rintro e w1 ⟨rfl, hb1⟩; rw [HP.out]; have HB1 := Lib.hid (HB0.out.trans (hb1.mono HB0.out.size)); have HY1 := Lib.hid (box_below HY0.out hb1); obtain ⟨v0, v1, -, -⟩ := box2_cells HY1.out; have hw1 := HB1.out.size; clear hb1)
        | (go_at_call 112; refine (gis_any q _).mono ?_; rintro e w2 ⟨rfl, hb2⟩; rw [HQ.out]; have HB2 := Lib.hid (HB1.out.trans (hb2.mono HB1.out.size)); clear hb2))
      go_ret
      exact ⟨rfl, HB2.out⟩
    | true =>
      have h1 := of_decide_eq_true HP.out
      have h2 := of_decide_eq_true HQ.out
      obtain ⟨m, hm⟩ : ∃ m, (p.x - q.x) * (p.x - q.x) = m := ⟨_, rfl⟩
      obtain ⟨k, hk⟩ : ∃ k, (p.y - q.y) * (p.y - q.y) = k := ⟨_, rfl⟩
      have hmm := sq_in ⟨h1.1, h1.2.1⟩ ⟨h2.1, h2.2.1⟩
      have hkk := sq_in ⟨h1.2.2.1, h1.2.2.2⟩ ⟨h2.2.2.1, h2.2.2.2⟩
      rw [hm] at hmm
      rw [hk] at hkk
      have hz : m + k = r := by rw [← HR.out, sqG, if_pos ⟨HP.out, HQ.out⟩, hm, hk]
      obtain ⟨a0, a1, a2, a3⟩ := h1
      obtain ⟨b0, b1, b2, b3⟩ := h2
      obtain ⟨dx, hdx⟩ : ∃ dx, p.x - q.x = dx := ⟨_, rfl⟩
      obtain ⟨dy, hdy⟩ : ∃ dy, p.y - q.y = dy := ⟨_, rfl⟩
      rw [hdx] at hm
      rw [hdy] at hk
      have hwx : IntKind.i64.wrap (p.x - q.x) = dx := by rw [hdx, IntKind.wrap_i64]; omega
      have hwy : IntKind.i64.wrap (p.y - q.y) = dy := by rw [hdy, IntKind.wrap_i64]; omega
      have HZ := Lib.hid hz
      clear hz
      go_enter Tryz.func103, Tryz.ntmps103
      go_upto_region 3 with (first
        | (go_at_call 112; refine (gis_any p _).mono ?_; rintro e w1 ⟨rfl, hb1⟩; rw [HP.out]; have HB1 := Lib.hid (HB0.out.trans (hb1.mono HB0.out.size)); have HX1 := Lib.hid (box_below HX0.out hb1); have HY1 := Lib.hid (box_below HY0.out hb1); obtain ⟨v0, v1, -, -⟩ := box2_cells HY1.out; have hw1 := HB1.out.size; clear hb1)
        | (go_at_call 112; refine (gis_any q _).mono ?_; rintro e w2 ⟨rfl, hb2⟩; rw [HQ.out]; have HB2 := Lib.hid (HB1.out.trans (hb2.mono HB1.out.size)); have HX2 := Lib.hid (box_below HX1.out hb2); have HY2 := Lib.hid (box_below HY1.out hb2); clear hb2))
      clear v0 v1
      obtain ⟨u0, u1, -, -⟩ := box2_cells HX2.out
      obtain ⟨v0, v1, -, -⟩ := box2_cells HY2.out
      go_region_held3 (fun w' => w'.cell? ⟨w.heap.size, 0, none⟩ = some (.int .i64 p.x) ∧ w'.cell? ⟨w.heap.size, 1, none⟩ = some (.int .i64 p.y) ∧ w'.cell? ⟨w.heap.size + 1, 0, none⟩ = some (.int .i64 q.x) ∧ w'.cell? ⟨w.heap.size + 1, 1, none⟩ = some (.int .i64 q.y)) (go_keep) (fail)
      all_goals
        go_wp2_with fail
        go_ret
        exact ⟨ret_int HZ.out, Below.drew HB2.out⟩
end Go.Proofs.YtlfbbahihenilaaGreat.Ne

namespace Go.Proofs.YtlfbbahihenilaaGreat.Ne
open Go.RowKit Go.V Go.Proofs

structure Flt where
  speed : Int
  gap : Int
abbrev Flt.val (f : Flt) : Value := .agg #[.int .i64 f.speed, .int .i64 f.gap]
abbrev Flt.box (f : Flt) : Obj := .cells #[.int .i64 f.speed, .int .i64 f.gap] 27
def mayF (f : Flt) : Bool := wB f.speed 1 1024 && wB f.gap 0 1099511627776
def farS (f : Flt) (a b : Smp) : Int := min (f.speed * (b.t - a.t)) 134217728
def canE (f : Flt) (a b : Smp) : Bool := mayF f && smpB a && smpB b && decide (a.t ≤ b.t) && decide (sqG ⟨a.x, a.y⟩ ⟨b.x, b.y⟩ ≤ farS f a b * farS f a b)
def okS (f : Flt) (a b : Smp) : Bool := decide (f.gap ≤ b.t - a.t) && canE f a b
/-- Which ones are kept, of the first k. -/
def keepI (f : Flt) (l : List Smp) : Nat → List Nat
  | 0 => []
  | k + 1 => match (keepI f l k).getLast? with
    | none => keepI f l k ++ [k]
    | some j => if okS f (l.getD j default) (l.getD k default) then keepI f l k ++ [k] else keepI f l k
theorem keepI_lt (f : Flt) (l : List Smp) : ∀ k, ∀ j ∈ keepI f l k, j < k
  | 0, j, h => by cases h
  | k + 1, j, h => by
    have ih := keepI_lt f l k
    have two : j ∈ keepI f l k ++ [k] → j < k + 1 := fun h => by
      rcases List.mem_append.1 h with h | h
      · exact Nat.lt_succ_of_lt (ih j h)
      · rw [List.mem_singleton] at h; omega
    unfold keepI at h
    split at h
    · exact two h
    · split at h
      · exact two h
      · exact Nat.lt_succ_of_lt (ih j h)
def keepN (f : Flt) (l : List Smp) (k : Nat) : List Smp := (keepI f l k).map fun j => l.getD j default
theorem keepN_sub (f : Flt) (l : List Smp) : ∀ k, k ≤ l.length → (keepN f l k).Sublist (l.take k)
  | 0, _ => by simp [keepN, keepI]
  | k + 1, hk => by
    have ih := keepN_sub f l k (by omega)
    have hg : l[k]? = some (l.getD k default) := by
      rw [List.getD_eq_getElem?_getD, List.getElem?_eq_getElem (by omega)]; rfl
    have two : ((keepI f l k ++ [k]).map fun j => l.getD j default).Sublist (l.take (k + 1)) := by
      rw [take_at hg, List.map_append]
      exact ih.append (List.Sublist.refl _)
    have one : ((keepI f l k).map fun j => l.getD j default).Sublist (l.take (k + 1)) := by
      rw [take_at hg]
      exact ih.trans (List.sublist_append_left _ _)
    unfold keepN keepI
    split
    · exact two
    · split
      · exact two
      · exact one
theorem keepN_len (f : Flt) (l : List Smp) (k : Nat) (h : k ≤ l.length) : (keepN f l k).length ≤ k := by
  have := (keepN_sub f l k h).length_le
  rw [List.length_take] at this
  omega
def keepE (f : Flt) (l : List Smp) : List Smp := keepN f l l.length
def keepErr (f : Flt) (l : List Smp) : Int := if mayF f = true ∧ rightS l = true then 0 else 2
def keptE (f : Flt) (l : List Smp) : List Smp := if mayF f = true ∧ rightS l = true then keepE f l else []

theorem right_iff {l : List Smp} : rightS l = true ↔ (∀ s ∈ l, smpB s = true) ∧ l.Pairwise fun a b => a.t < b.t := by
  constructor
  · intro h
    refine ⟨right_may h, ?_⟩
    rw [List.pairwise_iff_getElem]
    have key : ∀ j i (hi : i < l.length) (hj : j < l.length), i < j → (l[i]'hi).t < (l[j]'hj).t := by
      intro j
      induction j with
      | zero => intro i _ _ hij; omega
      | succ j ih =>
        intro i hi hj hij
        have hjj : j < l.length := by omega
        have := List.all_eq_true.1 h (j + 1) (List.mem_range.2 hj)
        rw [List.getElem?_eq_getElem hj] at this
        have this : stepS l (j + 1) l[j + 1] = true := this
        unfold stepS at this
        rw [Bool.and_eq_true] at this
        have h2 := this.2
        simp only [List.getElem?_eq_getElem hjj, decide_eq_true_eq] at h2
        by_cases e : i = j
        · subst e; exact h2
        · exact Int.lt_trans (ih i hi hjj (by omega)) h2
    intro i j hi hj hij
    exact key j i hi hj hij
  · rintro ⟨h1, h2⟩
    unfold rightS rightN
    rw [List.all_eq_true]
    intro i hi
    have hi := List.mem_range.1 hi
    rw [List.getElem?_eq_getElem hi]
    show stepS l i l[i] = true
    unfold stepS
    rw [Bool.and_eq_true]
    refine ⟨h1 _ (List.getElem_mem hi), ?_⟩
    cases i with
    | zero => rfl
    | succ k =>
      have hk : k < l.length := by omega
      simp only [List.getElem?_eq_getElem hk, decide_eq_true_eq]
      exact List.pairwise_iff_getElem.1 h2 k (k + 1) hk hi (Nat.lt_succ_self _)
theorem keepE_right {f : Flt} {l : List Smp} (h : rightS l = true) : rightS (keepE f l) = true := by
  obtain ⟨h1, h2⟩ := right_iff.1 h
  have hs := keepN_sub f l l.length (Nat.le_refl _)
  rw [List.take_of_length_le (Nat.le_refl _)] at hs
  exact right_iff.2 ⟨fun s hm => h1 s (hs.subset hm), h2.sublist hs⟩

/-- A run: where, since when, until when. -/
structure Rn where
  stop : Int
  frm : Int
  til : Int
deriving DecidableEq, Inhabited
def Rn.enc (r : Rn) : List Value := [.int .i64 r.stop, .int .i64 r.frm, .int .i64 r.til]
def Rn.cod : Cod Rn := ⟨3, Rn.enc, fun _ => rfl, by simp [Rn.enc, Value.oneCell']⟩
abbrev Rn.val (r : Rn) : Value := .agg #[.int .i64 r.stop, .int .i64 r.frm, .int .i64 r.til]
theorem rn_at {w : World} {a : Option Addr} {n cap : Nat} {l : List Rn} (h : Sl Rn.cod w a n cap l) {i : Nat} (hi : i < n) :
   ∃ b off r, a = some ⟨b, off, none⟩ ∧ b < w.heap.size ∧ l[i]? = some r ∧ w.cell? ⟨b, off + i * 3, none⟩ = some (.int .i64 r.stop) ∧ w.cell? ⟨b, off + i * 3 + 1, none⟩ = some (.int .i64 r.frm) ∧ w.cell? ⟨b, off + i * 3 + 2, none⟩ = some (.int .i64 r.til) := by
  obtain ⟨b, off, rfl, hb, r, hr, hc⟩ := h.some hi
  exact ⟨b, off, r, rfl, hb, hr, hc 0 _ rfl, hc 1 _ rfl, hc 2 _ rfl⟩
/-- A leg. -/
structure Lg where
  frm : Int
  til : Int
  start : Int
  fin : Int
deriving DecidableEq, Inhabited
def Lg.enc (r : Lg) : List Value := [.int .i64 r.frm, .int .i64 r.til, .int .i64 r.start, .int .i64 r.fin]
def Lg.cod : Cod Lg := ⟨4, Lg.enc, fun _ => rfl, by simp [Lg.enc, Value.oneCell']⟩
abbrev Lg.val (r : Lg) : Value := .agg #[.int .i64 r.frm, .int .i64 r.til, .int .i64 r.start, .int .i64 r.fin]
theorem lg_at {w : World} {a : Option Addr} {n cap : Nat} {l : List Lg} (h : Sl Lg.cod w a n cap l) {i : Nat} (hi : i < n) :
   ∃ b off r, a = some ⟨b, off, none⟩ ∧ b < w.heap.size ∧ l[i]? = some r ∧ w.cell? ⟨b, off + i * 4, none⟩ = some (.int .i64 r.frm) ∧ w.cell? ⟨b, off + i * 4 + 1, none⟩ = some (.int .i64 r.til) ∧ w.cell? ⟨b, off + i * 4 + 2, none⟩ = some (.int .i64 r.start) ∧ w.cell? ⟨b, off + i * 4 + 3, none⟩ = some (.int .i64 r.fin) := by
  obtain ⟨b, off, rfl, hb, r, hr, hc⟩ := h.some hi
  exact ⟨b, off, r, rfl, hb, hr, hc 0 _ rfl, hc 1 _ rfl, hc 2 _ rfl, hc 3 _ rfl⟩

/-- One more sample: the last run goes on, or another one begins. -/
def runStep (R : List Rn) (s t : Int) : List Rn := match R.getLast? with
  | none => R ++ [⟨s, t, t⟩]
  | some r => if s = r.stop then R.dropLast ++ [⟨r.stop, r.frm, t⟩] else R ++ [⟨s, t, t⟩]
def runsN (ss : List Int) (l : List Smp) : Nat → List Rn
  | 0 => []
  | k + 1 => runStep (runsN ss l k) (ss.getD k 0) (l.getD k default).t
def runsE (ss : List Int) (l : List Smp) : List Rn := runsN ss l l.length
/-- Runs that rise: what the laws need of them. -/
structure RunsOk (R : List Rn) : Prop where
  each : ∀ r ∈ R, 0 ≤ r.frm ∧ r.frm ≤ r.til ∧ r.til ≤ 1099511627776 ∧ 0 ≤ r.stop ∧ r.stop < 4096
  rise : ∀ i a b, R[i]? = some a → R[i + 1]? = some b → a.til < b.frm ∧ a.stop ≠ b.stop
theorem runs_snoc {R : List Rn} {r : Rn} (h : RunsOk R) (hr : 0 ≤ r.frm ∧ r.frm ≤ r.til ∧ r.til ≤ 1099511627776 ∧ 0 ≤ r.stop ∧ r.stop < 4096) (hl : ∀ a, R.getLast? = some a → a.til < r.frm ∧ a.stop ≠ r.stop) : RunsOk (R ++ [r]) := by
  refine ⟨fun x hx => ?_, fun i a b ha hb => ?_⟩
  · rcases List.mem_append.1 hx with hx | hx
    · exact h.each x hx
    · rw [List.mem_singleton] at hx; subst hx; exact hr
  · have hi := (List.getElem?_eq_some_iff.1 hb).1
    rw [List.length_append, List.length_singleton] at hi
    rw [List.getElem?_append_left (by omega)] at ha
    by_cases e : i + 1 < R.length
    · rw [List.getElem?_append_left e] at hb
      exact h.rise i a b ha hb
    · have e1 : i + 1 = R.length := by omega
      rw [e1, List.getElem?_append_right (Nat.le_refl _), Nat.sub_self] at hb
      cases hb
      refine hl a ?_
      rw [List.getLast?_eq_getElem?, ← e1]
      exact ha
theorem dl_get {R : List Rn} {i : Nat} {x : Rn} (hx : R.dropLast[i]? = some x) : R[i]? = some x := by
  rw [List.getElem?_dropLast] at hx
  split at hx
  · exact hx
  · cases hx
theorem last_snoc {α : Type} {R : List α} {r q : α} (h : (R ++ [r]).getLast? = some q) : q = r := by
  rw [List.getLast?_concat] at h
  exact (Option.some.inj h).symm
theorem runs_init {R : List Rn} (h : RunsOk R) : RunsOk R.dropLast := by
  have hs : ∀ i x, R.dropLast[i]? = some x → R[i]? = some x := fun i x hx => dl_get hx
  refine ⟨fun x hx => h.each x (List.dropLast_subset R hx), fun i a b ha hb => h.rise i a b (hs _ _ ha) (hs _ _ hb)⟩
theorem runsN_ok {ss : List Int} {l : List Smp} (hl : rightS l = true) (hs : ∀ s ∈ ss, 0 ≤ s ∧ s < 4096) (he : ss.length = l.length) : ∀ k, k ≤ l.length → RunsOk (runsN ss l k) ∧ (∀ r, (runsN ss l k).getLast? = some r → ∃ j, j + 1 = k ∧ r.til = (l.getD j default).t) ∧ (runsN ss l k).length ≤ k
  | 0, _ => ⟨⟨fun r h => (by cases h), fun i a b h => (by simp [runsN] at h)⟩, fun r h => (by simp [runsN] at h), (by simp [runsN])⟩
  | k + 1, hk => by
    obtain ⟨ih, il, ie⟩ := runsN_ok hl hs he k (by omega)
    obtain ⟨h1, h2⟩ := right_iff.1 hl
    have hg : l.getD k default = l[k]'(by omega) := by rw [List.getD_eq_getElem?_getD, List.getElem?_eq_getElem (by omega)]; rfl
    have hgs : ss.getD k 0 = ss[k]'(by omega) := by rw [List.getD_eq_getElem?_getD, List.getElem?_eq_getElem (by omega)]; rfl
    have hsm := h1 _ (List.getElem_mem (show k < l.length by omega))
    have hst := hs _ (List.getElem_mem (show k < ss.length by omega))
    have ht : 0 ≤ (l[k]'(by omega)).t ∧ (l[k]'(by omega)).t ≤ 1099511627776 := by
      unfold smpB at hsm
      simp only [Bool.and_eq_true] at hsm
      exact of_decide_eq_true hsm.1.1
    have htl : ∀ r, (runsN ss l k).getLast? = some r → r.til < (l[k]'(by omega)).t := fun r hr => by
      obtain ⟨j, hj, e⟩ := il r hr
      rw [e, show l.getD j default = l[j]'(by omega) by rw [List.getD_eq_getElem?_getD, List.getElem?_eq_getElem (by omega)]; rfl]
      exact List.pairwise_iff_getElem.1 h2 j k (by omega) (by omega) (by omega)
    unfold runsN runStep
    rw [hg, hgs]
    split
    · next e =>
      have e0 : runsN ss l k = [] := List.getLast?_eq_none_iff.1 e
      rw [e0]
      refine ⟨runs_snoc ⟨fun r h => (by cases h), fun i a b h => by simp at h⟩ ⟨ht.1, Int.le_refl _, ht.2, hst⟩ (fun a h => by simp at h), fun r h => ⟨k, rfl, ?_⟩, by simp⟩
      simp at h
      rw [← h, hg]
    · next r e =>
      split
      · next es =>
        have hr := ih.each r (List.mem_of_getLast? e)
        have hd : RunsOk (runsN ss l k).dropLast := runs_init ih
        have htr := htl r e
        refine ⟨runs_snoc hd ⟨hr.1, Int.le_trans hr.2.1 (Int.le_of_lt htr), ht.2, hr.2.2.2⟩ (fun a ha => ?_), fun q hq => ⟨k, rfl, ?_⟩, ?_⟩
        · have hne : runsN ss l k ≠ [] := fun h0 => by rw [h0] at e; simp at e
          have hlen : 0 < (runsN ss l k).length := List.length_pos_iff.2 hne
          rw [List.getLast?_eq_getElem?, List.length_dropLast] at ha
          have hi := (List.getElem?_eq_some_iff.1 ha).1
          rw [List.length_dropLast] at hi
          have ha' := dl_get ha
          rw [List.getLast?_eq_getElem?] at e
          exact ih.rise ((runsN ss l k).length - 1 - 1) a r ha' (by rw [show (runsN ss l k).length - 1 - 1 + 1 = (runsN ss l k).length - 1 by omega]; exact e)
        · rw [last_snoc hq, hg]
        · rw [List.length_append, List.length_dropLast, List.length_singleton]; omega
      · next es =>
        refine ⟨runs_snoc ih ⟨ht.1, Int.le_refl _, ht.2, hst⟩ (fun a ha => ?_), fun q hq => ⟨k, rfl, ?_⟩, ?_⟩
        · rw [e] at ha
          cases ha
          exact ⟨htl r e, fun h => es h.symm⟩
        · rw [last_snoc hq, hg]
        · rw [List.length_append, List.length_singleton]; omega
end Go.Proofs.YtlfbbahihenilaaGreat.Ne

namespace Go.Proofs.YtlfbbahihenilaaGreat.Ne
open Go.RowKit Go.V Go.Proofs

def chkGo (least : Int) : List Rn → Nat → Nat
  | [], k => k - 1
  | r :: rest, k => if least ≤ r.til - r.frm then k else chkGo least rest (k + 1)
def chkE (R : List Rn) (least : Int) : Nat := chkGo least (R.drop 1) 1
theorem chkGo_in (least : Int) : ∀ (T : List Rn) (k : Nat), 1 ≤ k → T ≠ [] → k ≤ chkGo least T k ∧ chkGo least T k < k + T.length
  | [], k, _, h => absurd rfl h
  | r :: rest, k, hk, _ => by
    unfold chkGo
    split
    · simp
    · cases rest with
      | nil => simp [chkGo]
      | cons r' rest' =>
        have := chkGo_in least (r' :: rest') (k + 1) (by omega) (by simp)
        simp only [List.length_cons] at this ⊢
        omega
theorem chkE_in {R : List Rn} (least : Int) (h : 1 < R.length) : 1 ≤ chkE R least ∧ chkE R least < R.length := by
  have hd : (R.drop 1).length = R.length - 1 := List.length_drop
  have := chkGo_in least (R.drop 1) 1 (by omega) (fun e => by rw [e] at hd; simp at hd; omega)
  unfold chkE
  omega
def legAt (R : List Rn) (a b : Nat) : Lg := ⟨(R.getD a default).stop, (R.getD b default).stop, (R.getD a default).til, (R.getD b default).frm⟩
def legsGo (least : Int) : Nat → List Rn → List Lg
  | 0, _ => []
  | n + 1, R => if 1 < R.length then legAt R 0 (chkE R least) :: legsGo least n (R.drop (chkE R least)) else []
def legsE (R : List Rn) (least : Int) : List Lg := legsGo least R.length R
theorem legsGo_eq (least : Int) : ∀ (n m : Nat) (R : List Rn), R.length ≤ n → R.length ≤ m → legsGo least n R = legsGo least m R
  | 0, 0, _, _, _ => rfl
  | 0, m + 1, R, h, _ => by unfold legsGo; rw [if_neg (by omega)]
  | n + 1, 0, R, _, h => by unfold legsGo; rw [if_neg (by omega)]
  | n + 1, m + 1, R, h, h' => by
    unfold legsGo
    by_cases hl : 1 < R.length
    · rw [if_pos hl, if_pos hl]
      have := chkE_in least hl
      rw [legsGo_eq least n m (R.drop (chkE R least)) (by rw [List.length_drop]; omega) (by rw [List.length_drop]; omega)]
    · rw [if_neg hl, if_neg hl]
theorem legsE_step {R : List Rn} (least : Int) (h : 1 < R.length) : legsE R least = legAt R 0 (chkE R least) :: legsE (R.drop (chkE R least)) least := by
  have hk := chkE_in least h
  obtain ⟨n, hn⟩ : ∃ n, R.length = n + 1 := ⟨R.length - 1, by omega⟩
  have e : legsE R least = legsGo least (n + 1) R := by unfold legsE; rw [hn]
  rw [e, legsGo, if_pos h]
  unfold legsE
  rw [legsGo_eq least n (R.drop (chkE R least)).length (R.drop (chkE R least)) (by rw [List.length_drop]; omega) (Nat.le_refl _)]
theorem legsE_end {R : List Rn} (least : Int) (h : R.length ≤ 1) : legsE R least = [] := by
  unfold legsE
  cases hn : R.length with
  | zero => rfl
  | succ n => rw [legsGo, if_neg (by omega)]
/-- Legs that follow each other. -/
structure LegsOk (L : List Lg) : Prop where
  each : ∀ r ∈ L, 0 ≤ r.start ∧ r.start < r.fin ∧ r.fin ≤ 1099511627776 ∧ (0 ≤ r.frm ∧ r.frm < 4096) ∧ 0 ≤ r.til ∧ r.til < 4096
  rise : ∀ i a b, L[i]? = some a → L[i + 1]? = some b → b.frm = a.til ∧ a.fin ≤ b.start
theorem RunsOk.drop {R : List Rn} (h : RunsOk R) (k : Nat) : RunsOk (R.drop k) := by
  refine ⟨fun r hr => h.each r (List.mem_of_mem_drop hr), fun i a b ha hb => ?_⟩
  rw [List.getElem?_drop] at ha hb
  exact h.rise (k + i) a b ha hb
theorem RunsOk.far {R : List Rn} (h : RunsOk R) (i : Nat) : ∀ j a b, i < j → R[i]? = some a → R[j]? = some b → a.til < b.frm
  | 0, _, _, hij, _, _ => absurd hij (Nat.not_lt_zero _)
  | j + 1, a, b, hij, ha, hb => by
    by_cases e : i = j
    · subst e; exact (h.rise i a b ha hb).1
    · have hj := (List.getElem?_eq_some_iff.1 hb).1
      have hm : R[j]? = some (R[j]'(by omega)) := List.getElem?_eq_getElem _
      have h1 := RunsOk.far h i j a _ (by omega) ha hm
      have h2 := (h.rise j _ b hm hb).1
      have h3 := (h.each _ (List.getElem_mem (show j < R.length by omega))).2.1
      omega
theorem rn_getD {R : List Rn} {i : Nat} (h : i < R.length) : R[i]? = some (R.getD i default) := by
  rw [List.getD_eq_getElem?_getD, List.getElem?_eq_getElem h]; rfl
theorem legs_ok (least : Int) : ∀ (m : Nat) (R : List Rn), R.length ≤ m → RunsOk R → LegsOk (legsE R least) ∧ (∀ g, (legsE R least)[0]? = some g → g.frm = (R.getD 0 default).stop ∧ g.start = (R.getD 0 default).til) ∧ (legsE R least).length ≤ m
  | 0, R, hm, h => by
    rw [legsE_end least (by omega)]
    exact ⟨⟨fun r h => (by cases h), fun i a b h => (by simp at h)⟩, fun g h => (by simp at h), (by simp)⟩
  | m + 1, R, hm, h => by
    by_cases hl : 1 < R.length
    · have hk := chkE_in least hl
      obtain ⟨k, hke⟩ : ∃ k, chkE R least = k := ⟨_, rfl⟩
      rw [legsE_step least hl]
      rw [hke] at hk ⊢
      obtain ⟨i1, i2, i3⟩ := legs_ok least m (R.drop k) (by rw [List.length_drop]; omega) (h.drop k)
      have e0 : (R.drop k).getD 0 default = R.getD k default := by
        rw [List.getD_eq_getElem?_getD, List.getElem?_drop, Nat.add_zero, List.getD_eq_getElem?_getD]
      rw [e0] at i2
      have hf := h.far 0 k _ _ (by omega) (rn_getD (show 0 < R.length by omega)) (rn_getD hk.2)
      have ha := h.each _ (List.mem_of_getElem? (rn_getD (show 0 < R.length by omega)))
      have hb := h.each _ (List.mem_of_getElem? (rn_getD hk.2))
      refine ⟨⟨fun r hr => ?_, fun i a b h1 h2 => ?_⟩, fun g hg => ?_, ?_⟩
      · rcases List.mem_cons.1 hr with e | hr
        · subst e
          unfold legAt
          simp only []
          refine ⟨by omega, hf, by omega, ⟨ha.2.2.2.1, ha.2.2.2.2⟩, hb.2.2.2.1, hb.2.2.2.2⟩
        · exact i1.each r hr
      · cases i with
        | zero =>
          rw [List.getElem?_cons_zero] at h1
          rw [List.getElem?_cons_succ] at h2
          cases h1
          obtain ⟨j1, j2⟩ := i2 b h2
          unfold legAt
          simp only []
          rw [j1, j2]
          exact ⟨rfl, by omega⟩
        | succ i =>
          rw [List.getElem?_cons_succ] at h1 h2
          exact i1.rise i a b h1 h2
      · rw [List.getElem?_cons_zero] at hg
        cases hg
        exact ⟨rfl, rfl⟩
      · simp only [List.length_cons]; omega
    · rw [legsE_end least (by omega)]
      exact ⟨⟨fun r h => (by cases h), fun i a b h => (by simp at h)⟩, fun g h => (by simp at h), (by simp)⟩
end Go.Proofs.YtlfbbahihenilaaGreat.Ne
