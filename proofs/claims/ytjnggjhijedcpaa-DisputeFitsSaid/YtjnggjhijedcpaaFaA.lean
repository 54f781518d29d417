/- Fares: which bands, shares and rungs are right. -/
import Derived.Test.YtjnggjhijedcpaaFaPlain
import Derived.Lib.QuietBelow
import Derived.Deep.Cut
import Derived.Deep.CutBlock
import Derived.Deep.DeepCutAuto
import Derived.Deep.DeepFit
namespace Go.Proofs.Ytjnggjhijedcpaa
open Go.RowKit Go.V Go.Proofs

theorem box2_set {w : World} {g : Nat} {e : TypeId} {u0 u1 : Value} (h : w.heap[g]? = some (.cells #[u0, u1] e (0, 0))) (v0 v1 : Value) : ((w.setCell ⟨g, 0, none⟩ v0).setCell ⟨g, 1, none⟩ v1).heap[g]? = some (.cells #[v0, v1] e (0, 0)) := by
  have h1 := heap_setCell_same w g 0 _ e v0 h
  have h2 := heap_setCell_same _ g 1 _ e v1 h1
  rw [h2]; rfl
theorem box_alloc {w : World} {g : Nat} {o ob : Obj} (h : w.heap[g]? = some ob) : (w.alloc o).heap[g]? = some ob := by
  have hg := (Array.getElem?_eq_some_iff.1 h).1
  unfold World.alloc
  simp only []
  rw [Array.getElem?_push_lt hg]; exact (Array.getElem?_eq_some_iff.1 h).2 ▸ rfl
theorem box_new (w : World) (o : Obj) : (w.alloc o).heap[w.heap.size]? = some o := by
  unfold World.alloc
  simp
theorem below_box2 {w wr : World} {g : Nat} (hb : Below w.heap.size w wr) (hg : w.heap.size ≤ g) (v0 v1 : Value) (o : Obj) : Below w.heap.size w (((wr.setCell ⟨g, 0, none⟩ v0).setCell ⟨g, 1, none⟩ v1).alloc o) :=
  ((hb.setCell (p := ⟨g, 0, none⟩) hg v0).setCell (p := ⟨g, 1, none⟩) hg v1).alloc (by have := hb.size; simp; omega) o
theorem box_cell {w : World} {g : Nat} {e : TypeId} {cs : Array Value} (h : w.heap[g]? = some (.cells cs e (0, 0))) (j : Nat) : w.cell? ⟨g, j, none⟩ = cs[j]? ∧ w.frozen? ⟨g, j, none⟩ = false := by
  constructor
  · simp [World.cell?, h]
  · simp [World.frozen?, h]

set_option maxHeartbeats 400000 in
theorem bwithin_any (n lo hi : Int) (w : World) :
    Calls Try.prog 131 #[.int .i64 n, .int .i64 lo, .int .i64 hi] w fun e w' => e = .returned (.bool (wB n lo hi)) ∧ w = w' := by
  go_enter Try.func131, Try.ntmps131
  go_wp2
  all_goals
    go_ret
    exact ⟨ret_bool (by unfold wB; rw [Bool.eq_iff_iff]; simp [*]; try omega), rfl⟩
set_option maxHeartbeats 400000 in
theorem pwithin_any (n lo hi : Int) (w : World) :
    Calls Try.prog 58 #[.int .i64 n, .int .i64 lo, .int .i64 hi] w fun e w' => e = .returned (.bool (wB n lo hi)) ∧ w = w' := by
  go_enter Try.func58, Try.ntmps58
  go_wp2
  all_goals
    go_ret
    exact ⟨ret_bool (by unfold wB; rw [Bool.eq_iff_iff]; simp [*]; try omega), rfl⟩
set_option maxHeartbeats 400000 in
theorem rwithin_any (n lo hi : Int) (w : World) :
    Calls Try.prog 147 #[.int .i64 n, .int .i64 lo, .int .i64 hi] w fun e w' => e = .returned (.bool (wB n lo hi)) ∧ w = w' := by
  go_enter Try.func147, Try.ntmps147
  go_wp2
  all_goals
    go_ret
    exact ⟨ret_bool (by unfold wB; rw [Bool.eq_iff_iff]; simp [*]; try omega), rfl⟩
set_option maxHeartbeats 400000 in
theorem fwithin_any (n lo hi : Int) (w : World) :
    Calls Try.prog 72 #[.int .i64 n, .int .i64 lo, .int .i64 hi] w fun e w' => e = .returned (.bool (wB n lo hi)) ∧ w = w' := by
  go_enter Try.func72, Try.ntmps72
  go_wp2
  all_goals
    go_ret
    exact ⟨ret_bool (by unfold wB; rw [Bool.eq_iff_iff]; simp [*]; try omega), rfl⟩

set_option maxHeartbeats 1000000 in
theorem bandR_any (a : Option Addr) (n cap : Nat) (l : List Pair) (over : Int) (w : World) (hm : n ≤ 1000000) (h : Sl Pair.cod w a n cap l) :
    Calls Try.prog 69 #[.slice a n cap, .int .i64 over] w fun e w' => e = .returned (.bool (bandOk l over)) ∧ Below w.heap.size w w' := by
  have hN := Lib.hid h.hlen
  by_cases hbig : 64 < n
  · go_enter Try.func69, Try.ntmps69
    go_wp2_with fail
    go_ret
    exact ⟨ret_bool (by unfold bandOk; rw [decide_eq_false (by have := hN.out; omega)]; rfl), Below.refl _ _⟩
  have e0 : bandOk l over = bandGo ⟨-1, 0⟩ l over := by unfold bandOk; rw [decide_eq_true (by have := hN.out; omega)]; rfl
  rw [e0]
  clear e0
  go_enter Try.func69, Try.ntmps69
  go_wp2_with fail
  go_loopw [14] (fun i wr => ∃ (k : Nat) (last : Pair), i = .int .i64 k ∧ k ≤ n ∧ Hid (bandGo ⟨-1, 0⟩ l over = bandGo last (l.drop k) over) ∧ Hid (wr.heap[w.heap.size]? = some (.cells #[.int .i64 last.a, .int .i64 last.b] 157 (0, 0))) ∧ Hid (Below w.heap.size w wr)) (fun i _ => n - (intOf i).toNat)
  case atStart => exact ⟨0, ⟨-1, 0⟩, rfl, by omega, rfl, box_new _ _, (Below.refl _ _).alloc (Nat.le_refl _) _⟩
  case round =>
    obtain ⟨k, last, rfl, hk, he, hbox, hb⟩ := hrel
    have hsz := hb.out.size
    obtain ⟨k0, f0⟩ := box_cell hbox.out 0
    obtain ⟨k1, f1⟩ := box_cell hbox.out 1
    replace k0 : wr.cell? ⟨w.heap.size, 0, none⟩ = some (.int .i64 last.a) := k0
    replace k1 : wr.cell? ⟨w.heap.size, 1, none⟩ = some (.int .i64 last.b) := k1
    have hbs := World.block_lt_of_cell? wr _ k0
    by_cases hlt : k < n
    · obtain ⟨b, off, x, rfl, hbl, hx, c0, c1⟩ := pair_at (h.below hb.out) hlt
      have HX := Lib.hid hx
      clear hx
      have b1 : (k : Int) < (n : Int) := by omega
      have he' : bandGo ⟨-1, 0⟩ l over = (decide (last.a < x.a ∧ x.a ≤ 4294967296 ∧ last.b ≤ x.b ∧ x.b ≤ 16777216) && bandGo x (l.drop (k + 1)) over) := by rw [he.out, drop_at HX.out]; rfl
      have HE := Lib.hid he'
      clear he'
      by_cases c : last.a < x.a ∧ x.a ≤ 4294967296 ∧ last.b ≤ x.b ∧ x.b ≤ 16777216
      · have hw : wB x.b last.b 16777216 = true := decide_eq_true ⟨c.2.2.1, c.2.2.2⟩
        have HC := Lib.hid c
        obtain ⟨p1, p2, -, -⟩ := c
        have q1 : ¬ x.a ≤ last.a := by omega
        go_wp2_with (go_at_call 131; refine (bwithin_any _ _ _ _).mono ?_; rintro e w' ⟨rfl, rfl⟩; rw [hw])
        go_roundw
        case rel => exact ⟨k + 1, x, by go_num, by omega, by show _ = _; rw [HE.out, decide_eq_true HC.out]; rfl, box_alloc (box2_set hbox.out _ _), below_box2 hb.out (Nat.le_refl _) _ _ _⟩
        case measure => simp [intOf]; omega
      · have HC := Lib.hid c
        have hfin : bandGo ⟨-1, 0⟩ l over = false := by rw [HE.out, decide_eq_false HC.out]; rfl
        have HFIN := Lib.hid hfin
        clear hfin
        have hcs : x.a ≤ last.a ∨ (¬ x.a ≤ last.a ∧ 4294967296 < x.a) ∨ (¬ x.a ≤ last.a ∧ ¬ 4294967296 < x.a ∧ wB x.b last.b 16777216 = false) := by
          by_cases h1 : x.a ≤ last.a
          · exact .inl h1
          by_cases h2 : 4294967296 < x.a
          · exact .inr (.inl ⟨h1, h2⟩)
          exact .inr (.inr ⟨h1, h2, decide_eq_false (fun h => c ⟨by omega, by omega, h.1, h.2⟩)⟩)
        clear c
        rcases hcs with h1 | ⟨h1, h2⟩ | ⟨h1, h2, h3⟩
        · go_wp2_with fail
          go_ret
          exact ⟨ret_bool HFIN.out.symm, hb.out.alloc hsz _⟩
        · go_wp2_with fail
          go_ret
          exact ⟨ret_bool HFIN.out.symm, hb.out.alloc hsz _⟩
        · go_wp2_with (go_at_call 131; refine (bwithin_any _ _ _ _).mono ?_; rintro e w' ⟨rfl, rfl⟩; rw [h3])
          go_ret
          exact ⟨ret_bool HFIN.out.symm, hb.out.alloc hsz _⟩
    · have hk' : k = n := by omega
      have HK := Lib.hid hk'
      clear hk'
      go_wp2_with (go_at_call 131; refine (bwithin_any _ _ _ _).mono ?_; rintro e w' ⟨rfl, rfl⟩)
      go_ret
      exact ⟨ret_bool (by rw [he.out, HK.out, List.drop_eq_nil_of_le (by rw [hN.out]; exact Nat.le_refl _)]; rfl), hb.out⟩

set_option maxHeartbeats 1000000 in
theorem rungR_any (a : Option Addr) (n cap : Nat) (l : List Pair) (w : World) (hm : n ≤ 1000000) (h : Sl Pair.cod w a n cap l) :
    Calls Try.prog 71 #[.slice a n cap] w fun e w' => e = .returned (.bool (rungsOk l)) ∧ Below w.heap.size w w' := by
  have hN := Lib.hid h.hlen
  by_cases hbig : 16 < n
  · go_enter Try.func71, Try.ntmps71
    go_wp2_with fail
    go_ret
    exact ⟨ret_bool (by unfold rungsOk; rw [decide_eq_false (by have := hN.out; omega)]; rfl), Below.refl _ _⟩
  have e0 : rungsOk l = (rungGo ⟨-1, 1000⟩ l && decide (l = [] ∨ (l.getLastD ⟨-1, 1000⟩).b = 0)) := by unfold rungsOk; rw [decide_eq_true (by have := hN.out; omega)]; rfl
  have E0 := Lib.hid e0
  clear e0
  go_enter Try.func71, Try.ntmps71
  go_wp2_with fail
  go_loopw [12] (fun i wr => ∃ (k : Nat) (last : Pair), i = .int .i64 k ∧ k ≤ n ∧ Hid (rungGo ⟨-1, 1000⟩ l = rungGo last (l.drop k)) ∧ Hid ((l.take k).getLastD ⟨-1, 1000⟩ = last) ∧ Hid (wr.heap[w.heap.size]? = some (.cells #[.int .i64 last.a, .int .i64 last.b] 159 (0, 0))) ∧ Hid (Below w.heap.size w wr)) (fun i _ => n - (intOf i).toNat)
  case atStart => exact ⟨0, ⟨-1, 1000⟩, rfl, by omega, rfl, rfl, box_new _ _, (Below.refl _ _).alloc (Nat.le_refl _) _⟩
  case round =>
    obtain ⟨k, last, rfl, hk, he, hla, hbox, hb⟩ := hrel
    have hsz := hb.out.size
    obtain ⟨k0, f0⟩ := box_cell hbox.out 0
    obtain ⟨k1, f1⟩ := box_cell hbox.out 1
    replace k0 : wr.cell? ⟨w.heap.size, 0, none⟩ = some (.int .i64 last.a) := k0
    replace k1 : wr.cell? ⟨w.heap.size, 1, none⟩ = some (.int .i64 last.b) := k1
    have hbs := World.block_lt_of_cell? wr _ k0
    by_cases hlt : k < n
    · obtain ⟨b, off, x, rfl, hbl, hx, c0, c1⟩ := pair_at (h.below hb.out) hlt
      have HX := Lib.hid hx
      clear hx
      have b1 : (k : Int) < (n : Int) := by omega
      have he' : rungGo ⟨-1, 1000⟩ l = (decide (last.a < x.a ∧ x.a ≤ 281474976710656 ∧ x.b < last.b ∧ 0 ≤ x.b) && rungGo x (l.drop (k + 1))) := by rw [he.out, drop_at HX.out]; rfl
      have HE := Lib.hid he'
      clear he'
      by_cases c : last.a < x.a ∧ x.a ≤ 281474976710656 ∧ x.b < last.b ∧ 0 ≤ x.b
      · have HC := Lib.hid c
        obtain ⟨p1, p2, p3, p4⟩ := c
        have q1 : ¬ x.a ≤ last.a := by omega
        go_wp2_with fail
        go_roundw
        case rel => exact ⟨k + 1, x, by go_num, by omega, by show _ = _; rw [HE.out, decide_eq_true HC.out]; rfl, by show _ = _; rw [take_at HX.out]; simp, box_alloc (box2_set hbox.out _ _), below_box2 hb.out (Nat.le_refl _) _ _ _⟩
        case measure => simp [intOf]; omega
      · have HC := Lib.hid c
        have hfin : rungsOk l = false := by rw [E0.out, HE.out, decide_eq_false HC.out]; rfl
        have HFIN := Lib.hid hfin
        clear hfin
        have hcs : x.a ≤ last.a ∨ (¬ x.a ≤ last.a ∧ 281474976710656 < x.a) ∨ (¬ x.a ≤ last.a ∧ ¬ 281474976710656 < x.a ∧ last.b ≤ x.b) ∨ (¬ x.a ≤ last.a ∧ ¬ 281474976710656 < x.a ∧ ¬ last.b ≤ x.b ∧ x.b < 0) := by
          by_cases h1 : x.a ≤ last.a
          · exact .inl h1
          by_cases h2 : 281474976710656 < x.a
          · exact .inr (.inl ⟨h1, h2⟩)
          by_cases h3 : last.b ≤ x.b
          · exact .inr (.inr (.inl ⟨h1, h2, h3⟩))
          exact .inr (.inr (.inr ⟨h1, h2, h3, by
            by_cases h4 : x.b < 0
            · exact h4
            · exact absurd ⟨by omega, by omega, by omega, by omega⟩ c⟩))
        clear c
        rcases hcs with h1 | ⟨h1, h2⟩ | ⟨h1, h2, h3⟩ | ⟨h1, h2, h3, h4⟩
        all_goals
          go_wp2_with fail
          go_ret
          exact ⟨ret_bool HFIN.out.symm, hb.out.alloc hsz _⟩
    · have hk' : k = n := by omega
      subst hk'
      have hl1 := hla.out
      rw [List.take_of_length_le (by rw [hN.out]; exact Nat.le_refl _)] at hl1
      have hfin : rungsOk l = decide (k = 0 ∨ last.b = 0) := by
        rw [E0.out, he.out, List.drop_eq_nil_of_le (by rw [hN.out]; exact Nat.le_refl _), hl1]
        have e1 : rungGo last [] = true := rfl
        rw [e1, Bool.true_and, decide_eq_decide, hN.out, List.length_eq_zero_iff]
      have HFIN := Lib.hid hfin
      clear hfin hl1
      by_cases c1 : k = 0
      · subst c1
        go_wp2_with fail
        go_ret
        exact ⟨ret_bool (by rw [HFIN.out]; simp), hb.out⟩
      · have c1' : ((k : Int) == 0) = false := by simp; omega
        have C1 := Lib.hid c1
        clear c1
        go_wp2_with fail
        go_ret
        exact ⟨ret_bool (by rw [HFIN.out]; have := C1.out; rw [Bool.eq_iff_iff]; simp [this]), hb.out⟩
end Go.Proofs.Ytjnggjhijedcpaa
