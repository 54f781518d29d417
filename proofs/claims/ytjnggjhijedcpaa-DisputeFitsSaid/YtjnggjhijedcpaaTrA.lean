/- The transfer layer: rides, and how they are compared. -/
import Derived.Test.YtjnggjhijedcpaaRows
import Derived.Test.YtjnggjhijedcpaaSt6Ride
namespace Go.Proofs.Ytjnggjhijedcpaa
open Go.RowKit Go.V Go.Sort Go.Shelf Go.Proofs

structure Ride where
  t : Int
  s : Int
  e : Int
  f : Int
deriving DecidableEq, Inhabited

def Ride.enc (r : Ride) : List Value := [.int .i64 r.t, .int .i64 r.s, .int .i64 r.e, .int .i64 r.f]
theorem Ride.enc_len (r : Ride) : (Ride.enc r).length = 4 := rfl
theorem Ride.enc_one (r : Ride) : ∀ v ∈ Ride.enc r, v.oneCell' = true := by simp [Ride.enc, Value.oneCell']
def Ride.cod : Cod Ride := ⟨4, Ride.enc, Ride.enc_len, Ride.enc_one⟩
abbrev Ride.val (r : Ride) : Value := .agg #[.int .i64 r.t, .int .i64 r.s, .int .i64 r.e, .int .i64 r.f]

/-- Draws and new blocks, nothing else. -/
def Grw (w w' : World) : Prop := ∃ q os, w' = grow (w.drewN q) os
theorem Grw.refl (w : World) : Grw w w := ⟨0, #[], by rw [grow_empty]; rfl⟩
theorem Grw.trans {a b c : World} (h : Grw a b) (k : Grw b c) : Grw a c := by
  obtain ⟨q, os, rfl⟩ := h
  obtain ⟨q', os', rfl⟩ := k
  exact ⟨q + q', os ++ os', by show grow (grow ((a.drewN q).drewN q') os) os' = _; rw [grow_grow, World.drewN_drewN]⟩
theorem Grw.alloc {a b : World} (h : Grw a b) (o : Obj) : Grw a (b.alloc o) := h.trans ⟨0, #[o], by rw [alloc_eq_grow]; rfl⟩
theorem Grw.drew {a b : World} (h : Grw a b) : Grw a b.drew := h.trans ⟨1, #[], by rw [grow_empty]; rfl⟩
theorem Grw.below {a b : World} (h : Grw a b) : Below a.heap.size a b := by
  obtain ⟨q, os, rfl⟩ := h
  exact ⟨rfl, rfl, rfl, by simp [grow, World.drewN], fun k hk => by simp [grow, World.drewN, Array.getElem?_append, hk]⟩

set_option maxHeartbeats 400000 in
theorem isNaN_any (x : Int) (w : World) :
    Calls Try.prog 171 #[.int .i64 x] w fun e w' => e = .returned (.bool false) ∧ w = w' := by
  go_enter Try.func171, Try.ntmps171
  go_wp2
  go_ret
  exact ⟨by simp, rfl⟩

def cmpI (x y : Int) : Int := if x < y then -1 else if y < x then 1 else 0

set_option maxHeartbeats 400000 in
theorem cmpI_any (x y : Int) (w : World) :
    Calls Try.prog 134 #[.int .i64 x, .int .i64 y] w fun e w' => e = .returned (.int .i64 (cmpI x y)) ∧ w = w' := by
  by_cases h1 : x < y
  · go_enter Try.func134, Try.ntmps134
    go_wp2
    go_ret
    exact ⟨ret_int (by unfold cmpI; (repeat' split) <;> omega), rfl⟩
  · by_cases h2 : y < x
    all_goals
      go_enter Try.func134, Try.ntmps134
      go_wp2
      go_ret
      exact ⟨ret_int (by unfold cmpI; (repeat' split) <;> omega), rfl⟩

theorem cmpI_grw (x y : Int) (w : World) :
    Calls Try.prog 134 #[.int .i64 x, .int .i64 y] w fun e w' => e = .returned (.int .i64 (cmpI x y)) ∧ ∃ q os, w' = grow (w.drewN q) os :=
  (cmpI_any x y w).mono fun _ _ ⟨h1, h2⟩ => ⟨h1, h2 ▸ Grw.refl _⟩

set_option maxHeartbeats 400000 in
theorem key1_any (r : Ride) (w : World) :
    Calls Try.prog 142 #[r.val] w fun e w' => e = .returned (.int .i64 r.s) ∧ ∃ q os, w' = grow (w.drewN q) os := by
  go_enter Try.func142, Try.ntmps142
  go_wp2
  go_ret
  exact ⟨rfl, (Grw.refl _).alloc _⟩
set_option maxHeartbeats 400000 in
theorem key2_any (r : Ride) (w : World) :
    Calls Try.prog 143 #[r.val] w fun e w' => e = .returned (.int .i64 r.t) ∧ ∃ q os, w' = grow (w.drewN q) os := by
  go_enter Try.func143, Try.ntmps143
  go_wp2
  go_ret
  exact ⟨rfl, (Grw.refl _).alloc _⟩

def cmpR (x y : Ride) : Int := if cmpI x.s y.s = 0 then cmpI x.t y.t else cmpI x.s y.s

theorem grw_cell {w w' : World} (h : Grw w w') {a : Addr} {v : Value} (hv : w.cell? a = some v) : w'.cell? a = some v := by
  rw [h.below.cell (World.block_lt_of_cell? w a hv)]; exact hv

theorem grw_all {w w' : World} (h : Grw w w') {a : Addr} {v : Value} (hv : w.cell? a = some v) : ∀ n os, (grow (w'.drewN n) os).cell? a = some v :=
  fun n os => grw_cell (h.trans ⟨n, os, rfl⟩) hv

set_option maxHeartbeats 1000000 in
theorem compare_any (x y : Ride) (kb : Nat) (w : World) (h0 : w.cell? ⟨kb, 0, none⟩ = some (.func (.func 142) #[] #[])) (h1 : w.cell? ⟨kb, 1, none⟩ = some (.func (.func 143) #[] #[])) :
    Calls Try.prog 145 #[.agg #[.slice (some ⟨kb, 0, none⟩) 2 2], x.val, y.val] w fun e w' => e = .returned (.int .i64 (cmpR x y)) ∧ ∃ q os, w' = grow (w.drewN q) os := by
  go_enter Try.func145, Try.ntmps145
  go_wp2_with fail
  obtain ⟨W, hW⟩ : ∃ W, W = ((w.alloc (Obj.cells #[Value.slice (some { block := kb, off := 0 }) 2 2] 182)).alloc (Obj.cells #[.int .i64 x.t, .int .i64 x.s, .int .i64 x.e, .int .i64 x.f] 42)).alloc (Obj.cells #[.int .i64 y.t, .int .i64 y.s, .int .i64 y.e, .int .i64 y.f] 42) := ⟨_, rfl⟩
  have hgw : Grw w W := by rw [hW]; exact (((Grw.refl w).alloc _).alloc _).alloc _
  have mixed : Try.prog.follows .mixedOrders = true := by kernel_rfl
  have k0 : W.cell? ⟨kb, 0, none⟩ = some (.func (.func 142) #[] #[]) := grw_cell hgw h0
  have k1 : W.cell? ⟨kb, 1, none⟩ = some (.func (.func 143) #[] #[]) := grw_cell hgw h1
  have x0 : W.cell? ⟨w.heap.size + 1, 0, none⟩ = some (.int .i64 x.t) := by rw [hW]; simp [go_sem]
  have x1 : W.cell? ⟨w.heap.size + 1, 1, none⟩ = some (.int .i64 x.s) := by rw [hW]; simp [go_sem]
  have x2 : W.cell? ⟨w.heap.size + 1, 2, none⟩ = some (.int .i64 x.e) := by rw [hW]; simp [go_sem]
  have x3 : W.cell? ⟨w.heap.size + 1, 3, none⟩ = some (.int .i64 x.f) := by rw [hW]; simp [go_sem]
  have y0 : W.cell? ⟨w.heap.size + 1 + 1, 0, none⟩ = some (.int .i64 y.t) := by rw [hW]; simp [go_sem]
  have y1 : W.cell? ⟨w.heap.size + 1 + 1, 1, none⟩ = some (.int .i64 y.s) := by rw [hW]; simp [go_sem]
  have y2 : W.cell? ⟨w.heap.size + 1 + 1, 2, none⟩ = some (.int .i64 y.e) := by rw [hW]; simp [go_sem]
  have y3 : W.cell? ⟨w.heap.size + 1 + 1, 3, none⟩ = some (.int .i64 y.f) := by rw [hW]; simp [go_sem]
  rw [← hW]
  clear hW h0 h1
  have HB : Hid (Grw w W) := hgw
  clear hgw
  go_loopg [13] 2 (fun g s13 wr => ∃ i : Nat, s13 = .int .i64 i ∧ i ≤ 2 ∧ 2 - i ≤ g ∧ Hid (Grw W wr) ∧ Hid (1 ≤ i → cmpI x.s y.s = 0) ∧ Hid (2 ≤ i → cmpI x.t y.t = 0))
  case atStart => exact ⟨0, rfl, by omega, by omega, Grw.refl _, fun h => by omega, fun h => by omega⟩
  case round =>
    obtain ⟨i, rfl, hi, hg, hr, hz1, hz2⟩ := hrel
    have hcase : i = 0 ∨ i = 1 ∨ i = 2 := by omega
    clear hi
    rcases hcase with rfl | rfl | rfl
    · have kk := grw_cell hr.out k0
      have X0 := grw_all hr.out x0
      have X1 := grw_all hr.out x1
      have X2 := grw_all hr.out x2
      have X3 := grw_all hr.out x3
      have Y0 := grw_all hr.out y0
      have Y1 := grw_all hr.out y1
      have Y2 := grw_all hr.out y2
      have Y3 := grw_all hr.out y3
      clear k0 k1 x0 x1 x2 x3 y0 y1 y2 y3
      go_wp2_with fail
      go_quiet_grown (first | (go_at_call 142; refine Calls.grown_of (key1_any _ _)) | (go_at_call 134; refine Calls.grown_of (cmpI_grw _ _ _)))
      clear X0 X1 X2 X3 Y0 Y1 Y2 Y3
      have hr2 : Hid (Grw W (grow (wr.drewN nq) osq)) := hr.out.trans ⟨nq, osq, rfl⟩
      clear kk hr
      generalize grow (wr.drewN nq) osq = w2 at hr2 ⊢
      by_cases hz : cmpI x.s y.s = 0
      · have hzb : (cmpI x.s y.s != 0) = false := by simp [hz]
        have HZ := Lib.hid hz
        clear hz
        go_wp2_with fail
        go_roundg 1
        case measure => omega
        case rel => exact ⟨1, rfl, by omega, by omega, hr2, fun _ => HZ.out, fun h => by omega⟩
      · have hzb : (cmpI x.s y.s != 0) = true := by simpa using hz
        have HZ := Lib.hid hz
        clear hz
        go_wp2_with fail
        go_ret
        exact ⟨ret_int (by unfold cmpR; rw [if_neg HZ.out]), HB.out.trans hr2.out⟩
    · have kk := grw_cell hr.out k1
      have X0 := grw_all hr.out x0
      have X1 := grw_all hr.out x1
      have X2 := grw_all hr.out x2
      have X3 := grw_all hr.out x3
      have Y0 := grw_all hr.out y0
      have Y1 := grw_all hr.out y1
      have Y2 := grw_all hr.out y2
      have Y3 := grw_all hr.out y3
      clear k0 k1 x0 x1 x2 x3 y0 y1 y2 y3
      go_wp2_with fail
      go_quiet_grown (first | (go_at_call 143; refine Calls.grown_of (key2_any _ _)) | (go_at_call 134; refine Calls.grown_of (cmpI_grw _ _ _)))
      clear X0 X1 X2 X3 Y0 Y1 Y2 Y3
      have hr2 : Hid (Grw W (grow (wr.drewN nq) osq)) := hr.out.trans ⟨nq, osq, rfl⟩
      clear kk hr
      generalize grow (wr.drewN nq) osq = w2 at hr2 ⊢
      by_cases hz : cmpI x.t y.t = 0
      · have hzb : (cmpI x.t y.t != 0) = false := by simp [hz]
        have HZ := Lib.hid hz
        clear hz
        go_wp2_with fail
        go_roundg 0
        case measure => omega
        case rel => exact ⟨2, rfl, by omega, by omega, hr2, fun _ => hz1.out (by omega), fun _ => HZ.out⟩
      · have hzb : (cmpI x.t y.t != 0) = true := by simpa using hz
        have HZ := Lib.hid hz
        clear hz
        go_wp2_with fail
        go_ret
        exact ⟨ret_int (by unfold cmpR; rw [if_pos (hz1.out (by omega))]), HB.out.trans hr2.out⟩
    · go_wp2_with fail
      go_ret
      exact ⟨ret_int (by unfold cmpR; rw [if_pos (hz1.out (by omega)), hz2.out (by omega)]), HB.out.trans hr.out⟩
end Go.Proofs.Ytjnggjhijedcpaa
