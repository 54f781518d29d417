/- The transfer layer: rides, and how they are compared. -/
/- The transfer layer: Clone and Sort. -/
/- The transfer layer: Sort. -/
import Derived.Test.YtbdkhgenkekioaaRows
import Derived.Test.YtbdkhgenkekioaaSt6Ride
import Derived.Test.YtbdkhgenkekioaaStNRide
namespace Go.Proofs.Ytbdkhgenkekioaa
open Go.RowKit Go.V Go.Sort Go.Shelf Go.Proofs

structure Ride where
  t : Int
  s : Int
  e : Int
  f : Int
deriving DecidableEq, Inhabited

def Ride.enc (r : Ride) : List Value := [.int .i64 r.t, .int .i64 r.s, .int .i64 r.e, .int .i64 r.f]
theorem Ride.enc_len (r : Ride) : (Ride.enc r).length = 4 := rfl
theorem Ride.enc_one (r : Ride) : ∀ v ∈ Ride.enc r, v.oneCell' = true := by simp [Ride.enc, Value.oneCell']
def Ride.cod : Cod Ride := ⟨4, Ride.enc, Ride.enc_len, Ride.enc_one⟩
abbrev Ride.val (r : Ride) : Value := .agg #[.int .i64 r.t, .int .i64 r.s, .int .i64 r.e, .int .i64 r.f]

/-- Draws and new blocks, nothing else. -/
def Grw (w w' : World) : Prop := ∃ q os, w' = grow (w.drewN q) os
theorem Grw.refl (w : World) : Grw w w := ⟨0, #[], by rw [grow_empty]; rfl⟩
theorem Grw.trans {a b c : World} (h : Grw a b) (k : Grw b c) : Grw a c := by
  obtain ⟨q, os, rfl⟩ := h
  obtain ⟨q', os', rfl⟩ := k
  exact ⟨q + q', os ++ os', by show grow (grow ((a.drewN q).drewN q') os) os' = _; rw [grow_grow, World.drewN_drewN]⟩
theorem Grw.alloc {a b : World} (h : Grw a b) (o : Obj) : Grw a (b.alloc o) := h.trans ⟨0, #[o], by rw [alloc_eq_grow]; rfl⟩
theorem Grw.drew {a b : World} (h : Grw a b) : Grw a b.drew := h.trans ⟨1, #[], by rw [grow_empty]; rfl⟩
theorem Grw.below {a b : World} (h : Grw a b) : Below a.heap.size a b := by
  obtain ⟨q, os, rfl⟩ := h
  exact ⟨rfl, rfl, rfl, by simp [grow, World.drewN], fun k hk => by simp [grow, World.drewN, Array.getElem?_append, hk]⟩

set_option maxHeartbeats 400000 in
theorem isNaN_any (x : Int) (w : World) :
    Calls Try.prog 125 #[.int .i64 x] w fun e w' => e = .returned (.bool false) ∧ w = w' := by
  go_enter Try.func125, Try.ntmps125
  go_wp2
  go_ret
  exact ⟨by simp, rfl⟩

def cmpI (x y : Int) : Int := if x < y then -1 else if y < x then 1 else 0

set_option maxHeartbeats 400000 in
theorem cmpI_any (x y : Int) (w : World) :
    Calls Try.prog 85 #[.int .i64 x, .int .i64 y] w fun e w' => e = .returned (.int .i64 (cmpI x y)) ∧ w = w' := by
  by_cases h1 : x < y
  · go_enter Try.func85, Try.ntmps85
    go_wp2
    go_ret
    exact ⟨ret_int (by unfold cmpI; (repeat' split) <;> omega), rfl⟩
  · by_cases h2 : y < x
    all_goals
      go_enter Try.func85, Try.ntmps85
      go_wp2
      go_ret
      exact ⟨ret_int (by unfold cmpI; (repeat' split) <;> omega), rfl⟩

theorem cmpI_grw (x y : Int) (w : World) :
    Calls Try.prog 85 #[.int .i64 x, .int .i64 y] w fun e w' => e = .returned (.int .i64 (cmpI x y)) ∧ ∃ q os, w' = grow (w.drewN q) os :=
  (cmpI_any x y w).mono fun _ _ ⟨h1, h2⟩ => ⟨h1, h2 ▸ Grw.refl _⟩

set_option maxHeartbeats 400000 in
theorem key1_any (r : Ride) (w : World) :
    Calls Try.prog 93 #[r.val] w fun e w' => e = .returned (.int .i64 r.s) ∧ ∃ q os, w' = grow (w.drewN q) os := by
  go_enter Try.func93, Try.ntmps93
  go_wp2
  go_ret
  exact ⟨rfl, (Grw.refl _).alloc _⟩
set_option maxHeartbeats 400000 in
theorem key2_any (r : Ride) (w : World) :
    Calls Try.prog 94 #[r.val] w fun e w' => e = .returned (.int .i64 r.t) ∧ ∃ q os, w' = grow (w.drewN q) os := by
  go_enter Try.func94, Try.ntmps94
  go_wp2
  go_ret
  exact ⟨rfl, (Grw.refl _).alloc _⟩

def cmpR (x y : Ride) : Int := if cmpI x.s y.s = 0 then cmpI x.t y.t else cmpI x.s y.s

theorem grw_cell {w w' : World} (h : Grw w w') {a : Addr} {v : Value} (hv : w.cell? a = some v) : w'.cell? a = some v := by
  rw [h.below.cell (World.block_lt_of_cell? w a hv)]; exact hv

theorem grw_all {w w' : World} (h : Grw w w') {a : Addr} {v : Value} (hv : w.cell? a = some v) : ∀ n os, (grow (w'.drewN n) os).cell? a = some v :=
  fun n os => grw_cell (h.trans ⟨n, os, rfl⟩) hv

set_option maxHeartbeats 1000000 in
theorem compare_any (x y : Ride) (kb : Nat) (w : World) (h0 : w.cell? ⟨kb, 0, none⟩ = some (.func (.func 93) #[] #[])) (h1 : w.cell? ⟨kb, 1, none⟩ = some (.func (.func 94) #[] #[])) :
    Calls Try.prog 96 #[.agg #[.slice (some ⟨kb, 0, none⟩) 2 2], x.val, y.val] w fun e w' => e = .returned (.int .i64 (cmpR x y)) ∧ ∃ q os, w' = grow (w.drewN q) os := by
  go_enter Try.func96, Try.ntmps96
  go_wp2_with fail
  obtain ⟨W, hW⟩ : ∃ W, W = ((w.alloc (Obj.cells #[Value.slice (some { block := kb, off := 0 }) 2 2] 133)).alloc (Obj.cells #[.int .i64 x.t, .int .i64 x.s, .int .i64 x.e, .int .i64 x.f] 24)).alloc (Obj.cells #[.int .i64 y.t, .int .i64 y.s, .int .i64 y.e, .int .i64 y.f] 24) := ⟨_, rfl⟩
  have hgw : Grw w W := by rw [hW]; exact (((Grw.refl w).alloc _).alloc _).alloc _
  have mixed : Try.prog.follows .mixedOrders = true := by kernel_rfl
  have k0 : W.cell? ⟨kb, 0, none⟩ = some (.func (.func 93) #[] #[]) := grw_cell hgw h0
  have k1 : W.cell? ⟨kb, 1, none⟩ = some (.func (.func 94) #[] #[]) := grw_cell hgw h1
  have x0 : W.cell? ⟨w.heap.size + 1, 0, none⟩ = some (.int .i64 x.t) := by rw [hW]; simp [go_sem]
  have x1 : W.cell? ⟨w.heap.size + 1, 1, none⟩ = some (.int .i64 x.s) := by rw [hW]; simp [go_sem]
  have x2 : W.cell? ⟨w.heap.size + 1, 2, none⟩ = some (.int .i64 x.e) := by rw [hW]; simp [go_sem]
  have x3 : W.cell? ⟨w.heap.size + 1, 3, none⟩ = some (.int .i64 x.f) := by rw [hW]; simp [go_sem]
  have y0 : W.cell? ⟨w.heap.size + 1 + 1, 0, none⟩ = some (.int .i64 y.t) := by rw [hW]; simp [go_sem]
  have y1 : W.cell? ⟨w.heap.size + 1 + 1, 1, none⟩ = some (.int .i64 y.s) := by rw [hW]; simp [go_sem]
  have y2 : W.cell? ⟨w.heap.size + 1 + 1, 2, none⟩ = some (.int .i64 y.e) := by rw [hW]; simp [go_sem]
  have y3 : W.cell? ⟨w.heap.size + 1 + 1, 3, none⟩ = some (.int .i64 y.f) := by rw [hW]; simp [go_sem]
  rw [← hW]
  clear hW h0 h1
  have HB : Hid (Grw w W) := hgw
  clear hgw
  go_loopg [13] 2 (fun g s13 wr => ∃ i : Nat, s13 = .int .i64 i ∧ i ≤ 2 ∧ 2 - i ≤ g ∧ Hid (Grw W wr) ∧ Hid (1 ≤ i → cmpI x.s y.s = 0) ∧ Hid (2 ≤ i → cmpI x.t y.t = 0))
  case atStart => exact ⟨0, rfl, by omega, by omega, Grw.refl _, fun h => by omega, fun h => by omega⟩
  case round =>
    obtain ⟨i, rfl, hi, hg, hr, hz1, hz2⟩ := hrel
    have hcase : i = 0 ∨ i = 1 ∨ i = 2 := by omega
    clear hi
    rcases hcase with rfl | rfl | rfl
    · have kk := grw_cell hr.out k0
      have X0 := grw_all hr.out x0
      have X1 := grw_all hr.out x1
      have X2 := grw_all hr.out x2
      have X3 := grw_all hr.out x3
      have Y0 := grw_all hr.out y0
      have Y1 := grw_all hr.out y1
      have Y2 := grw_all hr.out y2
      have Y3 := grw_all hr.out y3
      clear k0 k1 x0 x1 x2 x3 y0 y1 y2 y3
      go_wp2_with fail
      go_quiet_grown (first | (go_at_call 93; refine Calls.grown_of (key1_any _ _)) | (go_at_call 85; refine Calls.grown_of (cmpI_grw _ _ _)))
      clear X0 X1 X2 X3 Y0 Y1 Y2 Y3
      have hr2 : Hid (Grw W (grow (wr.drewN nq) osq)) := hr.out.trans ⟨nq, osq, rfl⟩
      clear kk hr
      generalize grow (wr.drewN nq) osq = w2 at hr2 ⊢
      by_cases hz : cmpI x.s y.s = 0
      · have hzb : (cmpI x.s y.s != 0) = false := by simp [hz]
        have HZ := Lib.hid hz
        clear hz
        go_wp2_with fail
        go_roundg 1
        case measure => omega
        case rel => exact ⟨1, rfl, by omega, by omega, hr2, fun _ => HZ.out, fun h => by omega⟩
      · have hzb : (cmpI x.s y.s != 0) = true := by simpa using hz
        have HZ := Lib.hid hz
        clear hz
        go_wp2_with fail
        go_ret
        exact ⟨ret_int (by unfold cmpR; rw [if_neg HZ.out]), HB.out.trans hr2.out⟩
    · have kk := grw_cell hr.out k1
      have X0 := grw_all hr.out x0
      have X1 := grw_all hr.out x1
      have X2 := grw_all hr.out x2
      have X3 := grw_all hr.out x3
      have Y0 := grw_all hr.out y0
      have Y1 := grw_all hr.out y1
      have Y2 := grw_all hr.out y2
      have Y3 := grw_all hr.out y3
      clear k0 k1 x0 x1 x2 x3 y0 y1 y2 y3
      go_wp2_with fail
      go_quiet_grown (first | (go_at_call 94; refine Calls.grown_of (key2_any _ _)) | (go_at_call 85; refine Calls.grown_of (cmpI_grw _ _ _)))
      clear X0 X1 X2 X3 Y0 Y1 Y2 Y3
      have hr2 : Hid (Grw W (grow (wr.drewN nq) osq)) := hr.out.trans ⟨nq, osq, rfl⟩
      clear kk hr
      generalize grow (wr.drewN nq) osq = w2 at hr2 ⊢
      by_cases hz : cmpI x.t y.t = 0
      · have hzb : (cmpI x.t y.t != 0) = false := by simp [hz]
        have HZ := Lib.hid hz
        clear hz
        go_wp2_with fail
        go_roundg 0
        case measure => omega
        case rel => exact ⟨2, rfl, by omega, by omega, hr2, fun _ => hz1.out (by omega), fun _ => HZ.out⟩
      · have hzb : (cmpI x.t y.t != 0) = true := by simpa using hz
        have HZ := Lib.hid hz
        clear hz
        go_wp2_with fail
        go_ret
        exact ⟨ret_int (by unfold cmpR; rw [if_pos (hz1.out (by omega))]), HB.out.trans hr2.out⟩
    · go_wp2_with fail
      go_ret
      exact ⟨ret_int (by unfold cmpR; rw [if_pos (hz1.out (by omega)), hz2.out (by omega)]), HB.out.trans hr.out⟩
end Go.Proofs.Ytbdkhgenkekioaa

namespace Go.Proofs.Ytbdkhgenkekioaa
open Go.RowKit Go.V Go.Sort Go.Shelf Go.Proofs

theorem infoRide : (Try.prog.info? 24).map (fun i => (i.zero, i.size, i.bytes)) = some (some (.agg #[.int .i64 0, .int .i64 0, .int .i64 0, .int .i64 0]), 4, 32) := by kernel_rfl

/-- The slice a call made itself: it reads as xs, nobody else has it. -/
def OwnR (base : Nat) (w : World) (v : Value) (xs : List Ride) : Prop := w.ownsRow base 24 4 v xs.length (xs.flatMap Ride.enc)

theorem add_zero_addr (b off j : Nat) : (⟨b, off, none⟩ : Addr).add j = ⟨b, off + j, none⟩ := by
  unfold Addr.add; split <;> simp_all

set_option maxHeartbeats 1000000 in
theorem clone_any (a : Option Addr) (n cap : Nat) (xs : List Ride) (w : World) (hn : n ≤ 1099511627776) (h : Sl Ride.cod w a n cap xs) :
    Calls Try.prog 43 #[.slice a n cap] w fun e w' => ∃ v, e = .returned v ∧ OwnR w.heap.size w' v xs ∧ Below w.heap.size w w' ∧ (a ≠ none → v ≠ .slice none 0 0) := by
  cases a with
  | none =>
    obtain ⟨rfl, rfl⟩ := h.hnil rfl
    have hx : xs = [] := by have := h.hlen; exact List.eq_nil_of_length_eq_zero this.symm
    subst hx
    have hq := fun w a n c => Lib.run_eql_slice_nil (P := Try.prog) w 25 24 a n c 0 0 Try.underlying25
    go_enter Try.func43, Try.ntmps43
    go_wp2
    go_ret
    exact ⟨_, rfl, World.ownsRow_nil _ _ _ _, Below.refl _ _, fun h => absurd rfl h⟩
  | some d =>
    obtain ⟨i0, hi, hz0, hz1, hz2⟩ := info_parts infoRide
    have hlen := Lib.hid h.hlen
    have HL : Hid ((xs.flatMap Ride.enc).length = n * 4) := by show (xs.flatMap Ride.cod.enc).length = _; rw [flat_len Ride.cod xs, ← h.hlen]; rfl
    have HC : Hid (∀ o, ∀ j u, (xs.flatMap Ride.enc)[j]? = some u → (w.alloc o).cell? (d.add j) = some u) := fun o => (h.below ((Below.refl _ _).alloc (Nat.le_refl _) o)).src
    have HO : Hid (∀ u ∈ xs.flatMap Ride.enc, u.oneCell' = true) := fun u hu => by obtain ⟨x, -, hx⟩ := List.mem_flatMap.1 hu; exact Ride.enc_one x u hx
    have HM : Hid (0 + n ≤ maxLen) := by show _ ≤ _; unfold maxLen; omega
    have HB : Hid ((0 + n) * 32 ≤ 140737488355328) := by show _ ≤ _; omega
    clear h
    have hq := fun w a n c => Lib.run_eql_slice_nil (P := Try.prog) w 25 24 a n c 0 0 Try.underlying25
    go_enter Try.func43, Try.ntmps43
    go_wp2_with (at_builtin; refine wpList_append_own _ rfl _ _ 25 rfl w.heap.size 24 i0 (.agg #[.int .i64 0, .int .i64 0, .int .i64 0, .int .i64 0]) 4 32 Try.underlying25 hi hz0 hz1 hz2 rfl (by decide) _ 0 [] rfl (World.ownsRow_made _ _ 0 (Nat.le_refl _) (by decide) rfl) d n cap (xs.flatMap Ride.enc) rfl HL.out (HC.out _) HO.out HM.out HB.out (by simp) ?_)
    intro v' w1 hown hgrow hnil
    have HW := Lib.hid hown
    have HG := Lib.hid hgrow
    have HN := Lib.hid hnil
    clear hown hgrow hnil
    go_wp2
    go_ret
    refine ⟨v', rfl, ?_, ?_, fun _ h => HN.out h⟩
    · have := HW.out
      rw [hlen.out] at this
      exact this
    · exact ((Below.refl _ _).alloc (Nat.le_refl _) _).grown HG.out (by simp) (fun k hk => by simp [Value.ownBlock] at hk; omega)

theorem ownR_sl {base : Nat} {w : World} {v : Value} {xs : List Ride} (h : OwnR base w v xs) : ∃ a cap, v = .slice a xs.length cap ∧ Sl Ride.cod w a xs.length cap xs ∧ (∀ d, a = some d → ∃ g cur, d = ⟨g, 0, none⟩ ∧ base ≤ g ∧ w.heap[g]? = some (.cells cur 24 (0, 0))) := by
  obtain ⟨h1, h2⟩ := id h
  rcases h2 with ⟨rfl, hn⟩ | ⟨g, cap, cur, rfl, hb, hg, hn, hm, hs, ht⟩
  · have : xs = [] := List.eq_nil_of_length_eq_zero hn
    subst this
    exact ⟨none, 0, rfl, ⟨rfl, Nat.le_refl _, by unfold maxLen; omega, (fun _ => ⟨rfl, rfl⟩), (fun d hd => nomatch hd)⟩, (fun d hd => nomatch hd)⟩
  · refine ⟨some ⟨g, 0, none⟩, cap, rfl, ⟨rfl, hn, hm, (fun hd => nomatch hd), (fun d hd _ => ?_)⟩, (fun d hd => ?_)⟩
    · simp at hd; subst hd
      refine ⟨rfl, (Array.getElem?_eq_some_iff.1 hg).1, fun j u hu => ?_⟩
      have := World.ownsRow.cells h (g := g) rfl j u hu
      rwa [add_zero_addr] at this
    · simp at hd; subst hd
      exact ⟨g, cur, rfl, hb, hg⟩
end Go.Proofs.Ytbdkhgenkekioaa

namespace Go.Proofs.Ytbdkhgenkekioaa
open Go.RowKit Go.V Go.Sort Go.Shelf Go.Proofs

def ltR : Ride → Ride → Bool := ltOf cmpR
theorem ltR_iff (x y : Ride) : ltR x y = true ↔ x.s < y.s ∨ x.s = y.s ∧ x.t < y.t := by
  unfold ltR ltOf cmpR cmpI
  rw [decide_eq_true_iff]
  (repeat' split) <;> omega
theorem ordR : Ord ltR where
  asymm x y h := by
    cases h' : ltR y x with
    | false => rfl
    | true => have := (ltR_iff x y).1 h; have := (ltR_iff y x).1 h'; omega
  trans x y z h1 h2 := by
    have := (ltR_iff x y).1 h1; have := (ltR_iff y z).1 h2; exact (ltR_iff x z).2 (by omega)
  neg x y z h1 h2 := by
    cases h' : ltR x z with
    | false => rfl
    | true =>
      have a := (ltR_iff x z).1 h'
      have b : ¬ (x.s < y.s ∨ x.s = y.s ∧ x.t < y.t) := fun h => by rw [(ltR_iff x y).2 h] at h1; cases h1
      have c : ¬ (y.s < z.s ∨ y.s = z.s ∧ y.t < z.t) := fun h => by rw [(ltR_iff y z).2 h] at h2; cases h2
      omega

theorem cmpLays (kb blk off sz : Nat) (w : World) (hne : kb ≠ blk) (h0 : w.cell? ⟨kb, 0, none⟩ = some (.func (.func 93) #[] #[])) (h1 : w.cell? ⟨kb, 1, none⟩ = some (.func (.func 94) #[] #[])) :
    Ride.CmpL Try.prog 96 #[.agg #[.slice (some ⟨kb, 0, none⟩) 2 2]] #[] Ride.enc 4 cmpR blk off sz w := by
  intro m os dk _ x y
  have hb := World.block_lt_of_cell? w _ h0
  have c : ∀ j, (sortWorldK Ride.enc 4 w blk off m dk os).cell? ⟨kb, j, none⟩ = w.cell? ⟨kb, j, none⟩ := fun j => by
    unfold sortWorldK
    rw [cell?_grow _ _ _ (by rw [size_putRowK]; exact hb), cell?_putRowK_other _ _ _ _ _ _ _ hne]
    rfl
  exact compare_any x y kb _ (by rw [c, h0]) (by rw [c, h1])

theorem flat_getElem {α : Type} [Inhabited α] (c : Cod α) (xs : List α) (t : Nat) (h : t < xs.length * c.k) : (xs.flatMap c.enc)[t]? = some ((c.enc xs.toArray[t / c.k]!)[t % c.k]!) := by
  have hk : 0 < c.k := by rcases Nat.eq_zero_or_pos c.k with e | e; rw [e] at h; omega; exact e
  have h1 : t % c.k < c.k := Nat.mod_lt _ hk
  have h2 : t / c.k < xs.length := by rw [Nat.div_lt_iff_lt_mul hk]; exact h
  have := flat_get c xs (t / c.k) (t % c.k) h1
  rw [show t / c.k * c.k + t % c.k = t by rw [Nat.mul_comm]; exact Nat.div_add_mod t c.k] at this
  rw [this]
  have e1 : xs[t / c.k]? = some xs[t / c.k] := List.getElem?_eq_getElem h2
  rw [e1]
  have e2 : xs.toArray[t / c.k]! = xs[t / c.k] := by rw [getElem!_pos xs.toArray _ (by simpa using h2)]; simp
  rw [e2]
  show (c.enc xs[t / c.k])[t % c.k]? = _
  rw [List.getElem?_eq_getElem (by rw [c.len]; exact h1), getElem!_pos (c.enc xs[t / c.k]) (t % c.k) (by rw [c.len]; exact h1)]

theorem holdsK_of_cells {α : Type} [Inhabited α] (c : Cod α) {w : World} {b off : Nat} {xs : List α} (h : Cells w b off (xs.flatMap c.enc)) (hf : ∀ j, w.frozen? ⟨b, j, none⟩ = false) : HoldsK c.enc c.k w b off xs.toArray := by
  intro j hj
  have hj' : j < xs.length * c.k := by simpa [size_flatK] using hj
  refine ⟨?_, hf _⟩
  rw [get_flatK _ _ _ _ (by simpa using hj')]
  exact h j _ (flat_getElem c xs j hj')

theorem cells_of_holdsK {α : Type} [Inhabited α] (c : Cod α) {w : World} {b off : Nat} {d : Array α} (h : HoldsK c.enc c.k w b off d) : Cells w b off (d.toList.flatMap c.enc) := by
  intro j u hu
  have hj : j < d.toList.length * c.k := by rw [← flat_len c]; exact (List.getElem?_eq_some_iff.1 hu).1
  have h1 := (h j (by simpa [size_flatK] using hj)).1
  rw [get_flatK _ _ _ _ (by simpa using hj)] at h1
  rw [h1]
  have := flat_getElem c d.toList j hj
  rw [hu] at this
  simpa using this.symm

/-- What a sort leaves of the rest of memory. -/
theorem swk_below {α : Type} {enc : α → List Value} {k : Nat} {w w' : World} {blk off : Nat} {dk : Array α} [Inhabited α] (h : SWK enc k w blk off dk w') {B : Nat} (hB : B ≤ blk) (hw : B ≤ w.heap.size) : Below B w w' := by
  obtain ⟨m, os, rfl⟩ := h
  unfold sortWorldK putRowK putRow mapBlock Sort.ahead grow
  refine ⟨rfl, rfl, rfl, by simp, fun i hi => ?_⟩
  simp only []
  rw [Array.getElem?_append_left (by simpa using (show i < w.heap.size by omega)), Array.getElem?_modify, if_neg (by omega)]

theorem swk_own {α : Type} [Inhabited α] (c : Cod α) {w w' : World} {base n cap g : Nat} {e : TypeId} {xs : List α} {dk : Array α} (h : w.ownsRow base e c.k (.slice (some ⟨g, 0, none⟩) n cap) n (xs.flatMap c.enc)) (S : SWK c.enc c.k w g 0 dk w') (hs : dk.size = n) :
    w'.ownsRow base e c.k (.slice (some ⟨g, 0, none⟩) n cap) n (dk.toList.flatMap c.enc) := by
  obtain ⟨h1, h2⟩ := h
  rcases h2 with ⟨h2, _⟩ | ⟨g', cap', cur, h2, hb, hg, hn, hm, hz, ht⟩
  · cases h2
  · cases h2
    obtain ⟨m, os, rfl⟩ := S
    have hgs := (Array.getElem?_eq_some_iff.1 hg).1
    have hh : (sortWorldK c.enc c.k w g 0 m dk os).heap[g]? = some (.cells (putCells id 0 (flatK c.enc c.k dk) cur) e (0, 0)) := by
      unfold sortWorldK putRowK putRow mapBlock Sort.ahead grow
      simp only []
      rw [Array.getElem?_append_left (by simpa using hgs), Array.getElem?_modify, if_pos rfl, hg]
      rfl
    have hlen : (dk.toList.flatMap c.enc).length = n * c.k := by rw [flat_len, Array.length_toList, hs]
    refine ⟨hlen, .inr ⟨g, cap, _, rfl, hb, hh, hn, hm, by simp only [putCells, Array.size_mapIdx]; exact hz, ?_⟩⟩
    have hfz : ∀ j, w.frozen? ⟨g, j, none⟩ = false := fun j => by simp [World.frozen?, hg]
    apply List.ext_getElem?
    intro j
    by_cases hj : j < n * c.k
    · rw [List.getElem?_take_of_lt hj]
      have hsz : n * c.k ≤ cap * c.k := Nat.mul_le_mul_right _ hn
      have hu : (dk.toList.flatMap c.enc)[j]? = some ((c.enc dk.toList.toArray[j / c.k]!)[j % c.k]!) := flat_getElem c dk.toList j (by rw [Array.length_toList, hs]; exact hj)
      rw [hu]
      simp only [Array.getElem?_toList]
      have hjc : j < cur.size := by rw [hz]; omega
      simp only [putCells, Array.getElem?_mapIdx, Array.getElem?_eq_getElem hjc, Option.map_some]
      rw [if_pos (by rw [size_flatK, hs]; omega), Nat.sub_zero, get_flatK _ _ _ _ (by rw [hs]; exact hj)]
      rfl
    · rw [List.getElem?_eq_none (by simp; omega), List.getElem?_eq_none (by omega)]

theorem own_base {w : World} {base base' : Nat} {e : TypeId} {k : Nat} {v : Value} {n : Nat} {cs : List Value} (h : w.ownsRow base e k v n cs) (hb : base' ≤ base) : w.ownsRow base' e k v n cs := by
  obtain ⟨h1, h2⟩ := h
  refine ⟨h1, ?_⟩
  rcases h2 with h2 | ⟨g, cap, cur, h2, h3, h4⟩
  · exact .inl h2
  · exact .inr ⟨g, cap, cur, h2, by omega, h4⟩

theorem bcell {W w1 : World} (hb : Below W.heap.size W w1) : (∀ b o, b < W.heap.size → w1.cell? ⟨b, o, none⟩ = W.cell? ⟨b, o, none⟩) ∧ (∀ b o, b < W.heap.size → w1.frozen? ⟨b, o, none⟩ = W.frozen? ⟨b, o, none⟩) :=
  ⟨fun b o h => hb.cell (p := ⟨b, o, none⟩) h, fun b o h => hb.frozen (p := ⟨b, o, none⟩) h⟩

set_option maxHeartbeats 1000000 in
theorem sort_any (a : Option Addr) (n cap : Nat) (xs : List Ride) (w : World) (hn : n ≤ 1000000) (h : Sl Ride.cod w a n cap xs) :
    Calls Try.prog 50 #[.slice a n cap] w fun e w' => ∃ v, e = .returned v ∧ OwnR w.heap.size w' v (isort ltR xs) ∧ Below w.heap.size w w' := by
  go_enter Try.func50, Try.ntmps50
  go_wp2_with fail
  refine (clone_any a n cap xs _ (by omega) (h.below (((Below.refl _ _).alloc (Nat.le_refl _) _).alloc (by simp) _))).mono ?_
  rintro e w1 ⟨v, rfl, hO, hB, -⟩
  obtain ⟨hc, hf⟩ := bcell hB
  obtain ⟨a', cap', rfl, hsl, hown⟩ := ownR_sl hO
  have hsz := hB.size
  simp only [World.size_alloc] at hsz hO hown
  cases a' with
  | none =>
    have hx : xs = [] := by have := (hsl.hnil rfl).1; exact List.eq_nil_of_length_eq_zero this
    have hcap := (hsl.hnil rfl).2
    subst hx
    subst hcap
    have HO := Lib.hid hO
    have HB := Lib.hid hB
    clear hO hB hown hsl
    go_wp2_with (go_at_call 95; refine (Ride.sortStable_nil _ _).mono ?_; rintro e w' ⟨rfl, rfl⟩)
    go_ret
    refine ⟨_, rfl, World.ownsRow_nil _ _ _ _, ?_⟩
    exact (((Below.refl _ _).alloc (Nat.le_refl _) _).alloc (by simp) _).trans (HB.out.mono (by simp; omega))
  | some d =>
    obtain ⟨g, cur, rfl, hg, hcur⟩ := hown d rfl
    have HO := Lib.hid hO
    have HB := Lib.hid hB
    have HC := Lib.hid hcur
    have HS := Lib.hid hsl
    clear hO hB hown hsl hcur
    go_wp2_with fail
    have hgs : g < w1.heap.size := (Array.getElem?_eq_some_iff.1 HC.out).1
    have hgz : ∀ j, w1.frozen? ⟨g, j, none⟩ = false := fun j => by simp [World.frozen?, HC.out]
    have k0 : w1.cell? ⟨w.heap.size, 0, none⟩ = some (.func (.func 93) #[] #[]) := by rw [hc _ _ (by simp; omega)]; simp [go_sem]
    have k1 : w1.cell? ⟨w.heap.size, 1, none⟩ = some (.func (.func 94) #[] #[]) := by rw [hc _ _ (by simp; omega)]; simp [go_sem]
    refine (Ride.sortStable Ride.enc 96 #[.agg #[.slice (some ⟨w.heap.size, 0, none⟩) 2 2]] #[] cmpR g 0 cap' xs.length xs.toArray w1 (fun _ _ => by kernel_rfl) (cmpLays _ _ _ _ _ (by omega) k0 k1) ⟨Ride.enc_len, Ride.enc_one, holdsK_of_cells Ride.cod (fun j u hu => by have := HS.out.src j u hu; rwa [add_addr] at this) hgz, hgs⟩ (by simp) (by have := HS.out.hlen; have := h.hlen; omega)).mono ?_
    rintro e w2 ⟨rfl, S2⟩
    have HSW := Lib.hid S2
    clear S2
    go_wp2_with fail
    go_ret
    have hst : (stable ltR xs.toArray xs.length).toList = isort ltR xs := by
      have := stable_list ordR xs.toArray
      simpa using this
    have hss : (stable (ltOf cmpR) xs.toArray xs.length).size = xs.length := by rw [stable_size]; simp
    refine ⟨.slice (some ⟨g, 0, none⟩) xs.length cap', rfl, ?_, ?_⟩
    · have := swk_own Ride.cod HO.out HSW.out hss
      rw [show ltOf cmpR = ltR from rfl, hst] at this
      have hl : (isort ltR xs).length = xs.length := (isort_perm xs).length_eq
      unfold OwnR
      rw [hl]
      exact own_base this (by omega)
    · exact ((((Below.refl _ _).alloc (Nat.le_refl _) _).alloc (by simp) _).trans (HB.out.mono (by simp; omega))).trans (swk_below HSW.out (by omega) (by omega))
end Go.Proofs.Ytbdkhgenkekioaa
