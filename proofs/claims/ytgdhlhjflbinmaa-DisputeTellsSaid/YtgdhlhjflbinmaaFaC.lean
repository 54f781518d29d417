/- Fares: which bands, shares and rungs are right. -/
/- Fares: which shares are right; the references' words for bands, shares and rungs. -/
/- Fares: what a way of a distance costs. -/
import Derived.Test.YtgdhlhjflbinmaaFaPlain
import Derived.Lib.QuietBelow
import Derived.Deep.Cut
import Derived.Deep.CutBlock
import Derived.Deep.DeepCutAuto
import Derived.Deep.DeepFit
import Derived.Scope
import Derived.WalkMore
import Derived.ScopeJumps
namespace Go.Proofs.Ytgdhlhjflbinmaa
open Go.RowKit Go.V Go.Proofs

theorem box2_set {w : World} {g : Nat} {e : TypeId} {u0 u1 : Value} (h : w.heap[g]? = some (.cells #[u0, u1] e (0, 0))) (v0 v1 : Value) : ((w.setCell ⟨g, 0, none⟩ v0).setCell ⟨g, 1, none⟩ v1).heap[g]? = some (.cells #[v0, v1] e (0, 0)) := by
  have h1 := heap_setCell_same w g 0 _ e v0 h
  have h2 := heap_setCell_same _ g 1 _ e v1 h1
  rw [h2]; rfl
theorem box_alloc {w : World} {g : Nat} {o ob : Obj} (h : w.heap[g]? = some ob) : (w.alloc o).heap[g]? = some ob := by
  have hg := (Array.getElem?_eq_some_iff.1 h).1
  unfold World.alloc
  simp only []
  rw [Array.getElem?_push_lt hg]; exact (Array.getElem?_eq_some_iff.1 h).2 ▸ rfl
theorem box_new (w : World) (o : Obj) : (w.alloc o).heap[w.heap.size]? = some o := by
  unfold World.alloc
  simp
theorem below_box2 {w wr : World} {g : Nat} (hb : Below w.heap.size w wr) (hg : w.heap.size ≤ g) (v0 v1 : Value) (o : Obj) : Below w.heap.size w (((wr.setCell ⟨g, 0, none⟩ v0).setCell ⟨g, 1, none⟩ v1).alloc o) :=
  ((hb.setCell (p := ⟨g, 0, none⟩) hg v0).setCell (p := ⟨g, 1, none⟩) hg v1).alloc (by have := hb.size; simp; omega) o
theorem box_cell {w : World} {g : Nat} {e : TypeId} {cs : Array Value} (h : w.heap[g]? = some (.cells cs e (0, 0))) (j : Nat) : w.cell? ⟨g, j, none⟩ = cs[j]? ∧ w.frozen? ⟨g, j, none⟩ = false := by
  constructor
  · simp [World.cell?, h]
  · simp [World.frozen?, h]

set_option maxHeartbeats 400000 in
theorem bwithin_any (n lo hi : Int) (w : World) :
    Calls Try.prog 65 #[.int .i64 n, .int .i64 lo, .int .i64 hi] w fun e w' => e = .returned (.bool (wB n lo hi)) ∧ w = w' := by
  go_enter Try.func65, Try.ntmps65
  go_wp2
  all_goals
    go_ret
    exact ⟨ret_bool (by unfold wB; rw [Bool.eq_iff_iff]; simp [*]; try omega), rfl⟩
set_option maxHeartbeats 400000 in
theorem pwithin_any (n lo hi : Int) (w : World) :
    Calls Try.prog 34 #[.int .i64 n, .int .i64 lo, .int .i64 hi] w fun e w' => e = .returned (.bool (wB n lo hi)) ∧ w = w' := by
  go_enter Try.func34, Try.ntmps34
  go_wp2
  all_goals
    go_ret
    exact ⟨ret_bool (by unfold wB; rw [Bool.eq_iff_iff]; simp [*]; try omega), rfl⟩
set_option maxHeartbeats 400000 in
theorem rwithin_any (n lo hi : Int) (w : World) :
    Calls Try.prog 46 #[.int .i64 n, .int .i64 lo, .int .i64 hi] w fun e w' => e = .returned (.bool (wB n lo hi)) ∧ w = w' := by
  go_enter Try.func46, Try.ntmps46
  go_wp2
  all_goals
    go_ret
    exact ⟨ret_bool (by unfold wB; rw [Bool.eq_iff_iff]; simp [*]; try omega), rfl⟩
set_option maxHeartbeats 400000 in
theorem fwithin_any (n lo hi : Int) (w : World) :
    Calls Try.prog 60 #[.int .i64 n, .int .i64 lo, .int .i64 hi] w fun e w' => e = .returned (.bool (wB n lo hi)) ∧ w = w' := by
  go_enter Try.func60, Try.ntmps60
  go_wp2
  all_goals
    go_ret
    exact ⟨ret_bool (by unfold wB; rw [Bool.eq_iff_iff]; simp [*]; try omega), rfl⟩

set_option maxHeartbeats 1000000 in
theorem bandR_any (a : Option Addr) (n cap : Nat) (l : List Pair) (over : Int) (w : World) (hm : n ≤ 1000000) (h : Sl Pair.cod w a n cap l) :
    Calls Try.prog 48 #[.slice a n cap, .int .i64 over] w fun e w' => e = .returned (.bool (bandOk l over)) ∧ Below w.heap.size w w' := by
  have hN := Lib.hid h.hlen
  by_cases hbig : 64 < n
  · go_enter Try.func48, Try.ntmps48
    go_wp2_with fail
    go_ret
    exact ⟨ret_bool (by unfold bandOk; rw [decide_eq_false (by have := hN.out; omega)]; rfl), Below.refl _ _⟩
  have e0 : bandOk l over = bandGo ⟨-1, 0⟩ l over := by unfold bandOk; rw [decide_eq_true (by have := hN.out; omega)]; rfl
  rw [e0]
  clear e0
  go_enter Try.func48, Try.ntmps48
  go_wp2_with fail
  go_loopw [14] (fun i wr => ∃ (k : Nat) (last : Pair), i = .int .i64 k ∧ k ≤ n ∧ Hid (bandGo ⟨-1, 0⟩ l over = bandGo last (l.drop k) over) ∧ Hid (wr.heap[w.heap.size]? = some (.cells #[.int .i64 last.a, .int .i64 last.b] 72 (0, 0))) ∧ Hid (Below w.heap.size w wr)) (fun i _ => n - (intOf i).toNat)
  case atStart => exact ⟨0, ⟨-1, 0⟩, rfl, by omega, rfl, box_new _ _, (Below.refl _ _).alloc (Nat.le_refl _) _⟩
  case round =>
    obtain ⟨k, last, rfl, hk, he, hbox, hb⟩ := hrel
    have hsz := hb.out.size
    obtain ⟨k0, f0⟩ := box_cell hbox.out 0
    obtain ⟨k1, f1⟩ := box_cell hbox.out 1
    replace k0 : wr.cell? ⟨w.heap.size, 0, none⟩ = some (.int .i64 last.a) := k0
    replace k1 : wr.cell? ⟨w.heap.size, 1, none⟩ = some (.int .i64 last.b) := k1
    have hbs := World.block_lt_of_cell? wr _ k0
    by_cases hlt : k < n
    · obtain ⟨b, off, x, rfl, hbl, hx, c0, c1⟩ := pair_at (h.below hb.out) hlt
      have HX := Lib.hid hx
      clear hx
      have b1 : (k : Int) < (n : Int) := by omega
      have he' : bandGo ⟨-1, 0⟩ l over = (decide (last.a < x.a ∧ x.a ≤ 4294967296 ∧ last.b ≤ x.b ∧ x.b ≤ 16777216) && bandGo x (l.drop (k + 1)) over) := by rw [he.out, drop_at HX.out]; rfl
      have HE := Lib.hid he'
      clear he'
      by_cases c : last.a < x.a ∧ x.a ≤ 4294967296 ∧ last.b ≤ x.b ∧ x.b ≤ 16777216
      · have hw : wB x.b last.b 16777216 = true := decide_eq_true ⟨c.2.2.1, c.2.2.2⟩
        have HC := Lib.hid c
        obtain ⟨p1, p2, -, -⟩ := c
        have q1 : ¬ x.a ≤ last.a := by omega
        go_wp2_with (go_at_call 65; refine (bwithin_any _ _ _ _).mono ?_; rintro e w' ⟨rfl, rfl⟩; rw [hw])
        go_roundw
        case rel => exact ⟨k + 1, x, by go_num, by omega, by show _ = _; rw [HE.out, decide_eq_true HC.out]; rfl, box_alloc (box2_set hbox.out _ _), below_box2 hb.out (Nat.le_refl _) _ _ _⟩
        case measure => simp [intOf]; omega
      · have HC := Lib.hid c
        have hfin : bandGo ⟨-1, 0⟩ l over = false := by rw [HE.out, decide_eq_false HC.out]; rfl
        have HFIN := Lib.hid hfin
        clear hfin
        have hcs : x.a ≤ last.a ∨ (¬ x.a ≤ last.a ∧ 4294967296 < x.a) ∨ (¬ x.a ≤ last.a ∧ ¬ 4294967296 < x.a ∧ wB x.b last.b 16777216 = false) := by
          by_cases h1 : x.a ≤ last.a
          · exact .inl h1
          by_cases h2 : 4294967296 < x.a
          · exact .inr (.inl ⟨h1, h2⟩)
          exact .inr (.inr ⟨h1, h2, decide_eq_false (fun h => c ⟨by omega, by omega, h.1, h.2⟩)⟩)
        clear c
        rcases hcs with h1 | ⟨h1, h2⟩ | ⟨h1, h2, h3⟩
        · go_wp2_with fail
          go_ret
          exact ⟨ret_bool HFIN.out.symm, hb.out.alloc hsz _⟩
        · go_wp2_with fail
          go_ret
          exact ⟨ret_bool HFIN.out.symm, hb.out.alloc hsz _⟩
        · go_wp2_with (go_at_call 65; refine (bwithin_any _ _ _ _).mono ?_; rintro e w' ⟨rfl, rfl⟩; rw [h3])
          go_ret
          exact ⟨ret_bool HFIN.out.symm, hb.out.alloc hsz _⟩
    · have hk' : k = n := by omega
      have HK := Lib.hid hk'
      clear hk'
      go_wp2_with (go_at_call 65; refine (bwithin_any _ _ _ _).mono ?_; rintro e w' ⟨rfl, rfl⟩)
      go_ret
      exact ⟨ret_bool (by rw [he.out, HK.out, List.drop_eq_nil_of_le (by rw [hN.out]; exact Nat.le_refl _)]; rfl), hb.out⟩

set_option maxHeartbeats 1000000 in
theorem rungR_any (a : Option Addr) (n cap : Nat) (l : List Pair) (w : World) (hm : n ≤ 1000000) (h : Sl Pair.cod w a n cap l) :
    Calls Try.prog 50 #[.slice a n cap] w fun e w' => e = .returned (.bool (rungsOk l)) ∧ Below w.heap.size w w' := by
  have hN := Lib.hid h.hlen
  by_cases hbig : 16 < n
  · go_enter Try.func50, Try.ntmps50
    go_wp2_with fail
    go_ret
    exact ⟨ret_bool (by unfold rungsOk; rw [decide_eq_false (by have := hN.out; omega)]; rfl), Below.refl _ _⟩
  have e0 : rungsOk l = (rungGo ⟨-1, 1000⟩ l && decide (l = [] ∨ (l.getLastD ⟨-1, 1000⟩).b = 0)) := by unfold rungsOk; rw [decide_eq_true (by have := hN.out; omega)]; rfl
  have E0 := Lib.hid e0
  clear e0
  go_enter Try.func50, Try.ntmps50
  go_wp2_with fail
  go_loopw [12] (fun i wr => ∃ (k : Nat) (last : Pair), i = .int .i64 k ∧ k ≤ n ∧ Hid (rungGo ⟨-1, 1000⟩ l = rungGo last (l.drop k)) ∧ Hid ((l.take k).getLastD ⟨-1, 1000⟩ = last) ∧ Hid (wr.heap[w.heap.size]? = some (.cells #[.int .i64 last.a, .int .i64 last.b] 74 (0, 0))) ∧ Hid (Below w.heap.size w wr)) (fun i _ => n - (intOf i).toNat)
  case atStart => exact ⟨0, ⟨-1, 1000⟩, rfl, by omega, rfl, rfl, box_new _ _, (Below.refl _ _).alloc (Nat.le_refl _) _⟩
  case round =>
    obtain ⟨k, last, rfl, hk, he, hla, hbox, hb⟩ := hrel
    have hsz := hb.out.size
    obtain ⟨k0, f0⟩ := box_cell hbox.out 0
    obtain ⟨k1, f1⟩ := box_cell hbox.out 1
    replace k0 : wr.cell? ⟨w.heap.size, 0, none⟩ = some (.int .i64 last.a) := k0
    replace k1 : wr.cell? ⟨w.heap.size, 1, none⟩ = some (.int .i64 last.b) := k1
    have hbs := World.block_lt_of_cell? wr _ k0
    by_cases hlt : k < n
    · obtain ⟨b, off, x, rfl, hbl, hx, c0, c1⟩ := pair_at (h.below hb.out) hlt
      have HX := Lib.hid hx
      clear hx
      have b1 : (k : Int) < (n : Int) := by omega
      have he' : rungGo ⟨-1, 1000⟩ l = (decide (last.a < x.a ∧ x.a ≤ 281474976710656 ∧ x.b < last.b ∧ 0 ≤ x.b) && rungGo x (l.drop (k + 1))) := by rw [he.out, drop_at HX.out]; rfl
      have HE := Lib.hid he'
      clear he'
      by_cases c : last.a < x.a ∧ x.a ≤ 281474976710656 ∧ x.b < last.b ∧ 0 ≤ x.b
      · have HC := Lib.hid c
        obtain ⟨p1, p2, p3, p4⟩ := c
        have q1 : ¬ x.a ≤ last.a := by omega
        go_wp2_with fail
        go_roundw
        case rel => exact ⟨k + 1, x, by go_num, by omega, by show _ = _; rw [HE.out, decide_eq_true HC.out]; rfl, by show _ = _; rw [take_at HX.out]; simp, box_alloc (box2_set hbox.out _ _), below_box2 hb.out (Nat.le_refl _) _ _ _⟩
        case measure => simp [intOf]; omega
      · have HC := Lib.hid c
        have hfin : rungsOk l = false := by rw [E0.out, HE.out, decide_eq_false HC.out]; rfl
        have HFIN := Lib.hid hfin
        clear hfin
        have hcs : x.a ≤ last.a ∨ (¬ x.a ≤ last.a ∧ 281474976710656 < x.a) ∨ (¬ x.a ≤ last.a ∧ ¬ 281474976710656 < x.a ∧ last.b ≤ x.b) ∨ (¬ x.a ≤ last.a ∧ ¬ 281474976710656 < x.a ∧ ¬ last.b ≤ x.b ∧ x.b < 0) := by
          by_cases h1 : x.a ≤ last.a
          · exact .inl h1
          by_cases h2 : 281474976710656 < x.a
          · exact .inr (.inl ⟨h1, h2⟩)
          by_cases h3 : last.b ≤ x.b
          · exact .inr (.inr (.inl ⟨h1, h2, h3⟩))
          exact .inr (.inr (.inr ⟨h1, h2, h3, by
            by_cases h4 : x.b < 0
            · exact h4
            · exact absurd ⟨by omega, by omega, by omega, by omega⟩ c⟩))
        clear c
        rcases hcs with h1 | ⟨h1, h2⟩ | ⟨h1, h2, h3⟩ | ⟨h1, h2, h3, h4⟩
        all_goals
          go_wp2_with fail
          go_ret
          exact ⟨ret_bool HFIN.out.symm, hb.out.alloc hsz _⟩
    · have hk' : k = n := by omega
      subst hk'
      have hl1 := hla.out
      rw [List.take_of_length_le (by rw [hN.out]; exact Nat.le_refl _)] at hl1
      have hfin : rungsOk l = decide (k = 0 ∨ last.b = 0) := by
        rw [E0.out, he.out, List.drop_eq_nil_of_le (by rw [hN.out]; exact Nat.le_refl _), hl1]
        have e1 : rungGo last [] = true := rfl
        rw [e1, Bool.true_and, decide_eq_decide, hN.out, List.length_eq_zero_iff]
      have HFIN := Lib.hid hfin
      clear hfin hl1
      by_cases c1 : k = 0
      · subst c1
        go_wp2_with fail
        go_ret
        exact ⟨ret_bool (by rw [HFIN.out]; simp), hb.out⟩
      · have c1' : ((k : Int) == 0) = false := by simp; omega
        have C1 := Lib.hid c1
        clear c1
        go_wp2_with fail
        go_ret
        exact ⟨ret_bool (by rw [HFIN.out]; have := C1.out; rw [Bool.eq_iff_iff]; simp [this]), hb.out⟩
end Go.Proofs.Ytgdhlhjflbinmaa

namespace Go.Proofs.Ytgdhlhjflbinmaa
open Go.RowKit Go.V Go.Proofs

theorem sharesOk_iff (l : List Int) : sharesOk l = true ↔ 1 ≤ l.length ∧ l.length ≤ 16 ∧ l[0]? = some 1000 ∧ ∀ s ∈ l, 0 ≤ s ∧ s ≤ 1000 := by
  unfold sharesOk; rw [decide_eq_true_iff]

set_option maxHeartbeats 1000000 in
theorem sharesR_any (a : Option Addr) (n cap : Nat) (l : List Int) (w : World) (hm : n ≤ 1000000) (h : Sl icod w a n cap l) :
    Calls Try.prog 49 #[.slice a n cap] w fun e w' => e = .returned (.bool (sharesOk l)) ∧ Below w.heap.size w w' := by
  have hN := Lib.hid h.hlen
  by_cases c0 : n = 0
  · subst c0
    have e : sharesOk l = false := by unfold sharesOk; exact decide_eq_false (fun h => by have := h.1; have := hN.out; omega)
    have HE := Lib.hid e
    clear e
    go_enter Try.func49, Try.ntmps49
    go_wp2_with fail
    go_ret
    exact ⟨ret_bool HE.out.symm, Below.refl _ _⟩
  have c0' : ((n : Int) == 0) = false := by simp; omega
  by_cases c1 : 16 < n
  · have e : sharesOk l = false := by unfold sharesOk; exact decide_eq_false (fun h => by have := h.2.1; have := hN.out; omega)
    have HE := Lib.hid e
    clear e c0
    go_enter Try.func49, Try.ntmps49
    go_wp2_with fail
    go_ret
    exact ⟨ret_bool HE.out.symm, Below.refl _ _⟩
  obtain ⟨b, off, x0, rfl, hbl, hx0, c00⟩ := int_at h (show 0 < n by omega)
  replace c00 : w.cell? ⟨b, off, none⟩ = some (.int .i64 x0) := c00
  have HX0 := Lib.hid hx0
  clear hx0
  have b0 : (0 : Int) < (n : Int) := by omega
  by_cases c2 : x0 = 1000
  case neg =>
    have e : sharesOk l = false := by unfold sharesOk; exact decide_eq_false (fun h => by have := h.2.2.1; rw [HX0.out] at this; exact c2 (Option.some.inj this))
    have HE := Lib.hid e
    have c2' : (x0 != 1000) = true := by simp [c2]
    clear e c0 c2
    go_enter Try.func49, Try.ntmps49
    go_wp2_with fail
    go_ret
    exact ⟨ret_bool HE.out.symm, Below.refl _ _⟩
  case pos =>
  subst c2
  have c0h := Lib.hid c0
  clear c0
  go_enter Try.func49, Try.ntmps49
  go_wp2_with fail
  go_loop [21] (fun i => ∃ k : Nat, i = .int .i64 k ∧ k ≤ n ∧ Hid (∀ s ∈ l.take k, 0 ≤ s ∧ s ≤ 1000)) (fun i => n - (intOf i).toNat)
  case atStart => exact ⟨0, rfl, by omega, fun s hs => by simp at hs⟩
  case round =>
    obtain ⟨k, rfl, hk, hall⟩ := hrel
    by_cases hlt : k < n
    · obtain ⟨b', off', x, e', -, hx, d0⟩ := int_at h hlt
      cases e'
      have HX := Lib.hid hx
      clear hx
      have b1 : (k : Int) < (n : Int) := by omega
      by_cases c : 0 ≤ x ∧ x ≤ 1000
      · have HC := Lib.hid c
        obtain ⟨p1, p2⟩ := c
        go_wp2_with fail
        go_round
        case rel => exact ⟨k + 1, by go_num, by omega, fun s hs => by
          rw [take_at HX.out] at hs
          rcases List.mem_append.1 hs with q | q
          · exact hall.out s q
          · simp at q; subst q; exact HC.out⟩
        case measure => simp [intOf]; omega
      · have e : sharesOk l = false := by unfold sharesOk; exact decide_eq_false (fun h => c (h.2.2.2 x (List.mem_of_getElem? HX.out)))
        have HE := Lib.hid e
        have hcs : x < 0 ∨ (¬ x < 0 ∧ 1000 < x) := by omega
        clear e c
        rcases hcs with h1 | ⟨h1, h2⟩
        all_goals
          go_wp2_with fail
          go_ret
          exact ⟨ret_bool HE.out.symm, Below.refl _ _⟩
    · have hk' : k = n := by omega
      subst hk'
      have e : sharesOk l = true := by
        unfold sharesOk
        refine decide_eq_true ⟨by have := hN.out; have := c0h.out; omega, by have := hN.out; omega, HX0.out, fun s hs => hall.out s ?_⟩
        rw [List.take_of_length_le (by rw [hN.out]; exact Nat.le_refl _)]; exact hs
      have HE := Lib.hid e
      clear e
      go_wp2_with fail
      go_ret
      exact ⟨ret_bool HE.out.symm, Below.refl _ _⟩

set_option maxHeartbeats 1000000 in
theorem rsharesR_any (a : Option Addr) (n cap : Nat) (l : List Int) (w : World) (hm : n ≤ 1000000) (h : Sl icod w a n cap l) :
    Calls Try.prog 62 #[.slice a n cap] w fun e w' => e = .returned (.bool (sharesOk l)) ∧ Below w.heap.size w w' := by
  have hN := Lib.hid h.hlen
  go_enter Try.func62, Try.ntmps62
  go_wp2_with fail
  go_loop [3] (fun i => ∃ k : Nat, i = .int .i64 k ∧ k ≤ n ∧ Hid (∀ s ∈ l.take k, 0 ≤ s ∧ s ≤ 1000)) (fun i => n - (intOf i).toNat)
  case atStart => exact ⟨0, rfl, by omega, fun s hs => by simp at hs⟩
  case round =>
    obtain ⟨k, rfl, hk, hall⟩ := hrel
    by_cases hlt : k < n
    · obtain ⟨b, off, x, rfl, hbl, hx, d0⟩ := int_at h hlt
      have HX := Lib.hid hx
      clear hx
      have b1 : (k : Int) < (n : Int) := by omega
      by_cases c : 0 ≤ x ∧ x ≤ 1000
      · have HC := Lib.hid c
        obtain ⟨p1, p2⟩ := c
        go_wp2_with fail
        go_round
        case rel => exact ⟨k + 1, by go_num, by omega, fun s hs => by
          rw [take_at HX.out] at hs
          rcases List.mem_append.1 hs with q | q
          · exact hall.out s q
          · simp at q; subst q; exact HC.out⟩
        case measure => simp [intOf]; omega
      · have e : sharesOk l = false := by unfold sharesOk; exact decide_eq_false (fun h => c (h.2.2.2 x (List.mem_of_getElem? HX.out)))
        have HE := Lib.hid e
        have hcs : x < 0 ∨ (¬ x < 0 ∧ 1000 < x) := by omega
        clear e c
        rcases hcs with h1 | ⟨h1, h2⟩
        all_goals
          go_wp2_with fail
          go_ret
          exact ⟨ret_bool HE.out.symm, Below.refl _ _⟩
    · have hk' : k = n := by omega
      subst hk'
      have hall2 : ∀ s ∈ l, 0 ≤ s ∧ s ≤ 1000 := fun s hs => hall.out s (by rw [List.take_of_length_le (by rw [hN.out]; exact Nat.le_refl _)]; exact hs)
      have HALL := Lib.hid hall2
      clear hall2
      by_cases c0 : 1 ≤ k
      · obtain ⟨b, off, x0, rfl, hbl, hx0, c00⟩ := int_at h (show 0 < k by omega)
        replace c00 : w.cell? ⟨b, off, none⟩ = some (.int .i64 x0) := c00
        have b0 : (0 : Int) < (k : Int) := by omega
        have HX0 := Lib.hid hx0
        clear hx0
        have hfin : sharesOk l = (decide (k ≤ 16) && (x0 == 1000)) := by
          rw [Bool.eq_iff_iff, sharesOk_iff]
          simp only [Bool.and_eq_true, decide_eq_true_eq, beq_iff_eq]
          have := hN.out
          rw [HX0.out]
          constructor
          · exact fun h => ⟨by omega, Option.some.inj h.2.2.1⟩
          · exact fun h => ⟨by omega, by omega, by rw [h.2], HALL.out⟩
        have HFIN := Lib.hid hfin
        clear hfin
        by_cases c1 : k ≤ 16
        · go_wp2_with fail
          go_ret
          exact ⟨ret_bool (by rw [HFIN.out]; simp [c1]), Below.refl _ _⟩
        · go_wp2_with fail
          go_ret
          exact ⟨ret_bool (by rw [HFIN.out]; simp; omega), Below.refl _ _⟩
      · have e : sharesOk l = false := by unfold sharesOk; exact decide_eq_false (fun h => by have := h.1; have := hN.out; omega)
        have HE := Lib.hid e
        have : k = 0 := by omega
        subst this
        clear e
        go_wp2_with fail
        go_ret
        exact ⟨ret_bool HE.out.symm, Below.refl _ _⟩
end Go.Proofs.Ytgdhlhjflbinmaa

namespace Go.V
open Go.RowKit
/-- A scope with one label: it is come to once, and gone through till a pass leaves. -/
theorem wp_scope_enter {P : Program} {a : Act} {w : World} {Q : Exit → Act → World → Prop} {c rest : Code} (l : Nat) (J : Act → World → Prop) (μ : Act → World → Nat) (hf : findLabel c l = some (Code.skip.seq rest))
    (enter : ∃ a0 w0, J a0 w0 ∧ ∀ Q', rest.wp P Q' a0 w0 → c.wp P Q' a w)
    (pass : ∀ a w, J a w → rest.wp P (Exit.jump l (fun a' w' => J a' w' ∧ μ a' w' < μ a w) Q) a w) : (Code.scope c).wp P Q a w := by
  have pass' : ∀ a w, J a w → (Code.skip.seq rest).wp P (Exit.jump l (fun a' w' => J a' w' ∧ μ a' w' < μ a w) Q) a w := fun a w h => wp_seq (wp_skip (pass a w h))
  refine wp_scope_jumps l J μ hf ?_ pass'
  obtain ⟨a0, w0, hJ, hc⟩ := enter
  refine hc _ (wp_mono (pass _ _ hJ) ?_)
  intro e a1 w1 h
  cases e with
  | goto l' => exact ⟨h.1, h.2.1⟩
  | _ => exact h
end Go.V
namespace Go.Proofs.Ytgdhlhjflbinmaa
open Go.RowKit Go.V Go.Proofs

set_option maxHeartbeats 1000000 in
set_option maxRecDepth 1000000 in
theorem first_any (a : Option Addr) (n cap : Nat) (l : List Pair) (far : Int) (w : World) (hm : n ≤ 1000000) (hs : l.Pairwise (fun x y => x.a < y.a)) (h : Sl Pair.cod w a n cap l) :
    Calls Try.prog 70 #[.slice a n cap, .int .i64 far] w fun e w' => (∃ i : Nat, e = .returned (.int .i64 i) ∧ i ≤ n ∧ (∀ j x, j < i → l[j]? = some x → x.a < far) ∧ (∀ x, l[i]? = some x → far ≤ x.a)) ∧ w = w' := by
  have hN := Lib.hid h.hlen
  have HS := Lib.hid hs
  clear hs
  have mixed : Try.prog.follows .mixedOrders = true := by kernel_rfl
  go_enter Try.func70, Try.ntmps70
  go_wp2
  refine wp_scope_enter 0 (fun a' w' => w = w' ∧ ∃ (lo hi : Nat) (u4 u7 u8 u9 u10 u11 u12 u13 u14 u15 u16 u17 u18 u19 u20 u21 u22 u23 u24 u25 u26 u27 : Value), a' = { tmps := #[.slice a n cap, .int .i64 far, undef, undef, u4, .int .i64 lo, .int .i64 hi, u7, u8, u9, u10, u11, u12, u13, u14, u15, u16, u17, u18, u19, u20, u21, u22, u23, u24, u25, u26, u27], defers := [] } ∧ lo ≤ hi ∧ hi ≤ n ∧ Hid (∀ j x, j < lo → l[j]? = some x → x.a < far) ∧ Hid (∀ j x, hi ≤ j → l[j]? = some x → far ≤ x.a)) (fun a' _ => (intOf (a'.tmps.getD 6 undef) - intOf (a'.tmps.getD 5 undef)).toNat) rfl ?_ ?_
  · refine ⟨_, w, ⟨rfl, 0, n, .int .i64 0, undef, .slice a n cap, .int .i64 n, undef, undef, undef, undef, undef, undef, undef, undef, undef, undef, undef, undef, undef, undef, undef, undef, undef, undef, rfl, by omega, by omega, (fun j x hj => by omega), (fun j x hj hx => by
      have := (List.getElem?_eq_some_iff.1 hx).1; have := hN.out; omega)⟩, fun Q' hQ => ?_⟩
    go_wp2
    go_step3
    rename_i hK
    exact hK _ _ hQ
  · rintro a' w' ⟨rfl, lo, hi, u4, u7, u8, u9, u10, u11, u12, u13, u14, u15, u16, u17, u18, u19, u20, u21, u22, u23, u24, u25, u26, u27, rfl, h1, h2, h3, h4⟩
    by_cases he : lo = hi
    · subst he
      go_wp2
      simp only [Exit.jump]
      go_ret
      exact ⟨⟨lo, rfl, h2, h3.out, fun x hx => h4.out lo x (Nat.le_refl _) hx⟩, rfl⟩
    · have he' : ((lo : Int) == (hi : Int)) = false := by simp; omega
      obtain ⟨m, hmid⟩ : ∃ m, (lo + hi) / 2 = m := ⟨_, rfl⟩
      have m1 : lo ≤ m := by omega
      have m2 : m < hi := by omega
      have e1 : ((lo : Int) + (hi : Int)).tdiv 2 = (m : Int) := by rw [Int.tdiv_eq_ediv_of_nonneg (by omega)]; omega
      have e2 : ((lo : Int) + (hi : Int)) / 2 = (m : Int) := by omega
      obtain ⟨b, off, x, rfl, hbl, hx, c0, c1⟩ := pair_at h (show m < n by omega)
      have HX := Lib.hid hx
      have b1 : (m : Int) < (n : Int) := by omega
      have HMID := Lib.hid hmid
      clear hx hmid he
      by_cases hc : far ≤ x.a
      · go_wp2
        go_step3
        refine ⟨rfl, ⟨rfl, lo, m, _, _, _, _, _, _, _, _, _, _, _, _, _, _, _, _, _, _, _, _, _, _, rfl, by omega, by omega, h3.out, ?_⟩, ?_⟩
        · intro j y hj hy
          by_cases e : j = m
          · subst e; rw [HX.out] at hy; rw [← Option.some.inj hy]; exact hc
          · obtain ⟨q1, q2⟩ := List.getElem?_eq_some_iff.1 hy
            obtain ⟨q3, q4⟩ := List.getElem?_eq_some_iff.1 HX.out
            have := List.pairwise_iff_getElem.1 HS.out m j q3 q1 (by omega)
            rw [q2, q4] at this
            omega
        · simp [intOf]; omega
      · go_wp2
        go_step3
        refine ⟨rfl, ⟨rfl, m + 1, hi, _, _, _, _, _, _, _, _, _, _, _, _, _, _, _, _, _, _, _, _, _, _, rfl, by omega, by omega, ?_, h4.out⟩, ?_⟩
        · intro j y hj hy
          by_cases e : j = m
          · subst e; rw [HX.out] at hy; rw [← Option.some.inj hy]; omega
          · obtain ⟨q1, q2⟩ := List.getElem?_eq_some_iff.1 hy
            obtain ⟨q3, q4⟩ := List.getElem?_eq_some_iff.1 HX.out
            have := List.pairwise_iff_getElem.1 HS.out j m q1 q3 (by omega)
            rw [q2, q4] at this
            omega
        · simp [intOf]; omega
end Go.Proofs.Ytgdhlhjflbinmaa
