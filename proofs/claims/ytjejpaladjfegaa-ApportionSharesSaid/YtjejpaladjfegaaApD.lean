/- Shares: an amount shared out, walked. -/
import Derived.Test.YtjejpaladjfegaaApE
import Derived.Test.YtjejpaladjfegaaIr
namespace Go.Proofs.Ytjejpaladjfegaa.Ap
open Go.RowKit Go.V Go.Proofs Go.Sort Go.Shelf
open Go.Proofs.Ytjejpaladjfegaa.Ne (icod int_at box_new box_cell)
open Go.Proofs.Ytjejpaladjfegaa.Ir

def wtB (x : Int) : Bool := decide (0 ≤ x ∧ x ≤ 4294967296)
def shMay (amount : Int) (ws : List Int) : Bool := decide (ws.length ≤ 64) && ws.all wtB && decide (0 ≤ amount ∧ amount ≤ 34359738368) && decide (0 < ws.sum)
set_option maxHeartbeats 400000 in
theorem awithin_any (n lo hi : Int) (w : World) :
    Calls Try.prog 122 #[.int .i64 n, .int .i64 lo, .int .i64 hi] w fun e w' => e = .returned (.bool (decide (lo ≤ n ∧ n ≤ hi))) ∧ w = w' := by
  by_cases h1 : lo ≤ n
  all_goals
    go_enter Try.func122, Try.ntmps122
    go_wp2
    go_ret
    exact ⟨ret_bool (by rw [Bool.eq_iff_iff]; simp [*] <;> omega), rfl⟩

theorem all_take {f : Int → Bool} {xs : List Int} {j : Nat} {x : Int} (h : xs[j]? = some x) (hx : f x = true) (hh : (xs.take j).all f = true) : (xs.take (j + 1)).all f = true := by
  rw [take_at h, List.all_append, hh]; simp [hx]
theorem all_bad {f : Int → Bool} {xs : List Int} {j : Nat} {x : Int} (h : xs[j]? = some x) (hx : f x = false) : xs.all f = false := by
  rw [Bool.eq_false_iff]
  intro hh
  have := List.all_eq_true.1 hh x (List.mem_of_getElem? h)
  rw [hx] at this; cases this
theorem sum_snoc {xs : List Int} {j : Nat} {x : Int} (h : xs[j]? = some x) : (xs.take (j + 1)).sum = (xs.take j).sum + x := by
  rw [take_at h]; simp
theorem sum_in {xs : List Int} (h : xs.all wtB = true) : 0 ≤ xs.sum ∧ xs.sum ≤ xs.length * 4294967296 := by
  induction xs with
  | nil => simp
  | cons x xs ih =>
    rw [List.all_cons, Bool.and_eq_true] at h
    have := ih h.2
    have hx : 0 ≤ x ∧ x ≤ 4294967296 := of_decide_eq_true h.1
    rw [List.sum_cons, List.length_cons, Int.natCast_add, Int.add_mul]
    simp only [Int.natCast_one, Int.one_mul]
    omega
theorem may_no {amount : Int} {ws : List Int} (h : 64 < ws.length ∨ ws.all wtB = false ∨ ¬ (0 ≤ amount ∧ amount ≤ 34359738368) ∨ ¬ 0 < ws.sum) : shMay amount ws = false := by
  unfold shMay
  rcases h with h | h | h | h
  · rw [decide_eq_false (by omega : ¬ ws.length ≤ 64)]; simp
  · rw [h]; simp
  · rw [decide_eq_false h]; simp
  · rw [decide_eq_false h]; simp
theorem may_yes {amount : Int} {ws : List Int} (h1 : ws.length ≤ 64) (h2 : ws.all wtB = true) (h3 : 0 ≤ amount ∧ amount ≤ 34359738368) (h4 : 0 < ws.sum) : shMay amount ws = true := by
  unfold shMay
  rw [decide_eq_true h1, h2, decide_eq_true h3, decide_eq_true h4]; rfl

theorem infoP : (Try.prog.info? 202).map (fun i => (i.zero, i.size, i.bytes)) = some (some (.agg #[.int .i64 0, .int .i64 0, .int .u64 0]), 3, 24) := by kernel_rfl
theorem eltP : Elt Try.prog 198 202 pcod 24 := Elt.of Try.underlying198 infoP rfl (by decide)
theorem ptys_snoc {amount all : Int} {ws : List Int} {j : Nat} {x : Int} (h : ws[j]? = some x) : (ptys amount all ws).take (j + 1) = (ptys amount all ws).take j ++ [⟨(j : Int), tmsQ amount x all, tmsR amount x all⟩] := by
  have e : (ptys amount all ws)[j]? = some ⟨(j : Int), tmsQ amount x all, tmsR amount x all⟩ := by rw [ptys_get, h]; rfl
  rw [take_at e]
theorem left_snoc {amount all : Int} {ws : List Int} {j : Nat} {x : Int} (h : ws[j]? = some x) : leftE amount all (ws.take (j + 1)) = leftE amount all (ws.take j) - tmsQ amount x all := by
  unfold leftE
  rw [take_at h, List.map_append, List.sum_append]
  simp [tmsQ]; omega
theorem mem_sum {x : Int} : ∀ {xs : List Int}, xs.all wtB = true → x ∈ xs → 0 ≤ x ∧ x ≤ 4294967296 ∧ x ≤ xs.sum
  | y :: xs, h, hx => by
    rw [List.all_cons, Bool.and_eq_true] at h
    have hy : 0 ≤ y ∧ y ≤ 4294967296 := of_decide_eq_true h.1
    have hs := sum_in h.2
    rw [List.sum_cons]
    rcases List.mem_cons.1 hx with e | e
    · subst e; omega
    · have := mem_sum h.2 e; omega
theorem left_in {amount all : Int} {ws : List Int} (ha : 0 ≤ amount) (hall : 0 < all) (hw : ∀ x ∈ ws, 0 ≤ x ∧ x ≤ all) : amount - ws.length * amount ≤ leftE amount all ws ∧ leftE amount all ws ≤ amount := by
  have key : ∀ l : List Int, (∀ x ∈ l, 0 ≤ x ∧ x ≤ all) → 0 ≤ (l.map fun w => amount * w / all).sum ∧ (l.map fun w => amount * w / all).sum ≤ l.length * amount := by
    intro l
    induction l with
    | nil => intro _; simp
    | cons y l ih =>
      intro hl
      obtain ⟨y0, y1⟩ := hl y (by simp)
      obtain ⟨t0, t1, -, -⟩ := tms_in (A := amount) ha y0 y1 hall
      have := ih (fun x hx => hl x (by simp [hx]))
      rw [List.map_cons, List.sum_cons, List.length_cons, Int.natCast_add, Int.add_mul]
      unfold tmsQ at t0 t1
      simp only [Int.natCast_one, Int.one_mul]
      omega
  have := key ws hw
  unfold leftE; omega
theorem pp_len {amount all : Int} {ws : List Int} {j : Nat} (h : j ≤ ws.length) : ((ptys amount all ws).take j).length = j := by
  rw [List.length_take, ptys_len]; omega

/-- What is told of the first i. -/
structure Part (S : List Pty) (n t i : Nat) (out : List Int) : Prop where
  len : out.length = n
  at_ : ∀ (j : Nat) (p : Pty), j < i → S[j]? = some p → out[p.place.toNat]? = some (p.share + if j < t then 1 else 0)
theorem Part.step {S : List Pty} {n t i : Nat} {out : List Int} {p : Pty} (hW : Whole S n) (h : Part S n t i out) (hp : S[i]? = some p) (v : Int) (hv : v = p.share + if i < t then 1 else 0) : Part S n t (i + 1) (out.set p.place.toNat v) := by
  obtain ⟨p0, p1, -⟩ := hW.low i p hp
  have hl := h.len
  refine ⟨by rw [List.length_set]; exact hl, fun j q hj hq => ?_⟩
  obtain ⟨q0, q1, -⟩ := hW.low j q hq
  by_cases e : q.place = p.place
  · have := hW.one j i q p hq hp e
    subst this
    rw [hp] at hq; cases hq
    rw [List.getElem?_set_self (by omega), hv]
  · rw [List.getElem?_set_ne (by omega)]
    have : j ≠ i := by rintro rfl; rw [hp] at hq; cases hq; exact e rfl
    exact h.at_ j q (by omega) hq
theorem Part.filled {S : List Pty} {n t : Nat} {out : List Int} (hW : Whole S n) (h : Part S n t n out) : Filled S n t out :=
  ⟨h.len, fun i p hi => h.at_ i p (by rw [← hW.len]; exact (List.getElem?_eq_some_iff.1 hi).1) hi⟩
theorem pcells {T : TypeId} {base : Nat} {w : World} {b n cap : Nat} {xs : List Pty} (h : V.Own T pcod base w (.slice (some ⟨b, 0, none⟩) n cap) xs) (hn : n = xs.length) {i : Nat} {p : Pty} (hp : xs[i]? = some p) :
    w.cell? ⟨b, i * 3, none⟩ = some (.int .i64 p.place) ∧ w.cell? ⟨b, i * 3 + 1, none⟩ = some (.int .i64 p.share) ∧ w.cell? ⟨b, i * 3 + 2, none⟩ = some (.int .u64 p.rest) ∧ b < w.heap.size := by
  obtain ⟨h1, -⟩ := h.at hn hp
  exact ⟨h1 0 _ rfl, h1 1 _ rfl, h1 2 _ rfl, (World.ownsRow.lt h b rfl).2⟩

theorem ptys_share {amount all : Int} {ws : List Int} {p : Pty} (ha : 0 ≤ amount) (hall : 0 < all) (hw : ∀ x ∈ ws, 0 ≤ x ∧ x ≤ 4294967296 ∧ x ≤ all) (hp : p ∈ ptys amount all ws) : 0 ≤ p.share ∧ p.share ≤ amount := by
  obtain ⟨i, hi, rfl⟩ := List.mem_iff_getElem.1 hp
  rw [ptys_len] at hi
  have e : (ptys amount all ws)[i] = ptyAt amount all i ws[i] := List.getElem_mapIdx ..
  rw [e]
  obtain ⟨h1, -, h2⟩ := hw _ (List.getElem_mem hi)
  obtain ⟨a, b, -, -⟩ := tms_in (A := amount) ha h1 h2 hall
  exact ⟨a, b⟩

set_option maxHeartbeats 1000000 in
theorem shares_any (amount : Int) (a : Option Addr) (n cap : Nat) (ws : List Int) (w : World) (hn : n ≤ 200) (h : Sl icod w a n cap ws) :
    Calls Try.prog 48 #[.int .i64 amount, .slice a n cap] w fun e w' => (shMay amount ws = false → e = .returned (.tuple #[.slice none 0 0, .int .i64 2])) ∧
      (shMay amount ws = true → ∃ v out S, e = .returned (.tuple #[v, .int .i64 0]) ∧ V.Own 3 icod w.heap.size w' v out ∧ S.Perm (ptys amount ws.sum ws) ∧ Whole S n ∧ Filled S n (leftE amount ws.sum ws).toNat out) ∧ Below w.heap.size w w' := by
  have HLEN := Lib.hid h.hlen
  have hcap := h.hcap
  have HH := Lib.hid h
  clear h
  obtain ⟨m, hm⟩ : ∃ m, min n 64 = m := ⟨_, rfl⟩
  have hmin : min (n : Int) 64 = (m : Int) := by omega
  have hmx : max (m : Int) 0 = (m : Int) := by omega
  have hmn : m ≤ n ∧ m ≤ 64 := by omega
  have HM := Lib.hid hm
  clear hm
  go_enter Try.func48, Try.ntmps48
  go_wp2_with fail
  clear hmin hmx
  go_loop [6, 8, 25] (fun s l i => ∃ k : Nat, i = .int .i64 k ∧ k ≤ m ∧ ∃ s1 : Int, s = .int .i64 s1 ∧ Hid (s1 = (ws.take k).sum ∧ (ws.take k).all wtB = true)) (fun _ _ i => m - (intOf i).toNat)
  case atStart => exact ⟨0, rfl, by omega, 0, rfl, rfl, rfl⟩
  case round =>
    obtain ⟨k, rfl, hk, s1, rfl, HS⟩ := hrel
    have hs2 := sum_in HS.out.2
    rw [← HS.out.1, List.length_take] at hs2
    have hs3 : 0 ≤ s1 ∧ s1 ≤ 274877906944 := by omega
    clear hs2
    by_cases hlt : k < m
    · obtain ⟨b, off, x, rfl, hbl, hx, hcx⟩ := int_at HH.out (show k < n by omega)
      have HX := Lib.hid hx
      have hki : (k : Int) < (m : Int) := by omega
      clear hx
      cases hb : decide (0 ≤ x ∧ x ≤ 4294967296) with
      | false =>
        have HNO : Hid (shMay amount ws = false) := may_no (.inr (.inl (all_bad HX.out hb)))
        have HB := Lib.hid hb
        clear hb
        go_wp2_with (go_at_call 122; refine (awithin_any _ _ _ _).mono ?_; rintro e w' ⟨rfl, rfl⟩; rw [HB.out])
        go_ret2
        refine ⟨fun _ => rfl, fun hh => ?_, Below.refl _ _⟩
        rw [HNO.out] at hh; cases hh
      | true =>
        have hx2 : 0 ≤ x ∧ x ≤ 4294967296 := of_decide_eq_true hb
        have HB := Lib.hid hb
        clear hb
        go_wp2_with (go_at_call 122; refine (awithin_any _ _ _ _).mono ?_; rintro e w' ⟨rfl, rfl⟩; rw [HB.out])
        go_round
        case rel => exact ⟨k + 1, by go_num, by omega, _, rfl, by rw [sum_snoc HX.out, ← HS.out.1], all_take HX.out HB.out HS.out.2⟩
        case measure => simp [intOf] <;> omega
    · have hkm : k = m := by omega
      subst hkm
      by_cases h64 : n ≤ 64
      · have hkn : k = n := by have := HM.out; omega
        subst hkn
        have HS2 : Hid (s1 = ws.sum ∧ ws.all wtB = true) := by
          have := HS.out
          rwa [List.take_of_length_le (by have := HLEN.out; omega)] at this
        clear HS
        cases hb : decide (0 ≤ amount ∧ amount ≤ 34359738368) with
        | false =>
          have HNO : Hid (shMay amount ws = false) := may_no (.inr (.inr (.inl (of_decide_eq_false hb))))
          have HB := Lib.hid hb
          clear hb
          go_wp2_with (go_at_call 122; refine (awithin_any _ _ _ _).mono ?_; rintro e w' ⟨rfl, rfl⟩; rw [HB.out])
          go_ret2
          refine ⟨fun _ => rfl, fun hh => ?_, Below.refl _ _⟩
          rw [HNO.out] at hh; cases hh
        | true =>
          have ham : 0 ≤ amount ∧ amount ≤ 34359738368 := of_decide_eq_true hb
          have HB := Lib.hid hb
          clear hb
          by_cases h0 : s1 = 0
          · have HNO : Hid (shMay amount ws = false) := may_no (.inr (.inr (.inr (by have := HS2.out.1; omega))))
            subst h0
            go_wp2_with (go_at_call 122; refine (awithin_any _ _ _ _).mono ?_; rintro e w' ⟨rfl, rfl⟩; rw [HB.out])
            go_ret2
            refine ⟨fun _ => rfl, fun hh => ?_, Below.refl _ _⟩
            rw [HNO.out] at hh; cases hh
          · have h0b : (s1 == 0) = false := by simpa using h0
            have hs4 : 0 < s1 := by omega
            clear h0
            go_wp2_with (go_at_call 122; refine (awithin_any _ _ _ _).mono ?_; rintro e w' ⟨rfl, rfl⟩; rw [HB.out])
            have HALL : Hid (∀ x ∈ ws, 0 ≤ x ∧ x ≤ 4294967296 ∧ x ≤ s1) := fun x hx => by
              have := mem_sum HS2.out.2 hx
              rw [← HS2.out.1] at this; exact this
            have HYES : Hid (shMay amount ws = true) := may_yes (by have := HLEN.out; omega) HS2.out.2 ham (by have := HS2.out.1; omega)
            obtain ⟨am0, am1⟩ := ham
            go_loopw [9, 10, 51] (fun v l i wr => ∃ j : Nat, i = .int .i64 j ∧ j ≤ k ∧ Hid (V.Own 202 pcod w.heap.size wr v ((ptys amount s1 ws).take j)) ∧ (∃ lv : Int, l = .int .i64 lv ∧ Hid (lv = leftE amount s1 (ws.take j))) ∧ Hid (Below w.heap.size w wr)) (fun _ _ i _ => k - (intOf i).toNat)
            case atStart => exact ⟨0, by go_num, by omega, Own.nil, ⟨amount, rfl, by show _ = _; unfold leftE; simp⟩, Below.refl _ _⟩
            case round =>
              obtain ⟨j, rfl, hj, HO, ⟨lv, rfl, HLV⟩, HBr⟩ := hrel
              have hlv : -2199023255552 ≤ lv ∧ lv ≤ 34359738368 := by
                have h1 := left_in (ws := ws.take j) am0 hs4 (fun x hx => by have := HALL.out x (List.mem_of_mem_take hx); omega)
                rw [← HLV.out, List.length_take] at h1
                have h2 : ((min j ws.length : Nat) : Int) * amount ≤ 64 * amount := Int.mul_le_mul_of_nonneg_right (by omega) am0
                omega
              by_cases hlt2 : j < k
              · obtain ⟨b, off, x, rfl, hbl, hx, hcx⟩ := int_at (HH.out.below HBr.out) hlt2
                obtain ⟨x0, x1, x2⟩ := HALL.out x (List.mem_of_getElem? hx)
                have HX := Lib.hid hx
                have hji : (j : Int) < (k : Int) := by omega
                have HM1 : Hid (((ptys amount s1 ws).take j).length + 1 ≤ maxLen) := by show _ ≤ _; rw [pp_len (by have := HLEN.out; omega)]; unfold maxLen; omega
                have HM2 : Hid ((((ptys amount s1 ws).take j).length + 1) * 24 ≤ 140737488355328) := by show _ ≤ _; rw [pp_len (by have := HLEN.out; omega)]; omega
                obtain ⟨tq0, tq1, -, -⟩ := tms_in (A := amount) am0 x0 x2 hs4
                obtain ⟨q, hq⟩ : ∃ q, tmsQ amount x s1 = q := ⟨_, rfl⟩
                obtain ⟨r, hr⟩ : ∃ r, tmsR amount x s1 = r := ⟨_, rfl⟩
                have HQ : Hid (tmsQ amount x s1 = q ∧ tmsR amount x s1 = r) := ⟨hq, hr⟩
                rw [hq] at tq0 tq1
                clear hx hq hr
                go_wp2_with (first
                  | (go_at_call 123; go_loud (refine (times_any amount x s1 _ ⟨am0, am1⟩ ⟨x0, x1⟩ x2 ⟨hs4, hs3.2⟩).mono ?_); rintro e w1 ⟨rfl, q9, rfl⟩; rw [HQ.out.1, HQ.out.2])
                  | (at_builtin; go_loud (refine wpList_app eltP rfl (.tmp 63) (.tmp 68) rfl (base := w.heap.size) _ ((ptys amount s1 ws).take j) rfl ((HO.out.below (below_drewN (Below.refl _ _) _)).alloc _) _ 1 1 [⟨(j : Int), q, r⟩] rfl (sl_new (c := pcod) _ #[.int .i64 j, .int .i64 q, .int .u64 r] 202 [⟨(j : Int), q, r⟩] 1 rfl (by unfold maxLen; omega) rfl) HM1.out HM2.out (by have := HBr.out.size; simp; omega) ?_); intro v1 w2 ho hg; have HO2 := Lib.hid ho; have HB2 : Hid (Below w.heap.size w w2) := ((below_drewN HBr.out _).alloc (by have := HBr.out.size; simp; omega) _).trans (own_below ((HO.out.below (below_drewN (Below.refl _ _) _)).alloc _) hg (by have := HBr.out.size; simp; omega)); clear ho hg))
                go_roundw
                case rel => exact ⟨j + 1, by go_num, by omega, by rw [ptys_snoc HX.out, HQ.out.1, HQ.out.2]; exact HO2.out, ⟨_, rfl, by show _ = _; rw [left_snoc HX.out, HQ.out.1, ← HLV.out]⟩, HB2.out⟩
                case measure => simp [intOf] <;> omega
              · have hjk : k = j := by omega
                subst hjk
                have hk0 : 0 < k := by
                  rcases Nat.eq_zero_or_pos k with e | e
                  · exfalso
                    have h1 := HLEN.out
                    have h2 : ws = [] := List.eq_nil_of_length_eq_zero (by omega)
                    have h3 := HS2.out.1
                    rw [h2] at h3
                    simp at h3; omega
                  · exact e
                have HPT : Hid ((ptys amount s1 ws).take k = ptys amount s1 ws ∧ ws.take k = ws) := ⟨List.take_of_length_le (by rw [ptys_len, ← HLEN.out]; exact Nat.le_refl _), List.take_of_length_le (by rw [← HLEN.out]; exact Nat.le_refl _)⟩
                have ho0 := HO.out
                rw [HPT.out.1] at ho0
                obtain ⟨g, cp, cur, hv, hgb, -⟩ := own_ne ho0 (by intro e; have := congrArg List.length e; rw [ptys_len, ← HLEN.out] at this; simp at this; omega)
                rw [ptys_len, ← HLEN.out] at hv
                subst hv
                have HO0 := Lib.hid ho0
                have HL0 : Hid (lv = leftE amount s1 ws) := by
                  have := HLV.out
                  rwa [HPT.out.2] at this
                have hl0 := left_lt (amount := amount) (ws := ws) hs4 HS2.out.1
                rw [← HL0.out] at hl0
                obtain ⟨lv0, -⟩ := hl0
                have hmk := make_any k (by omega)
                clear ho0 HO HLV
                go_wp2_with (go_at_call 127; go_loud (refine (psort_any w.heap.size g k cp (ptys amount s1 ws) _ HO0.out (by rw [ptys_len]; exact HLEN.out) (by omega)).mono ?_); rintro e w3 ⟨rfl, S, hperm, hsort, ho3, hb3⟩; have HO3 := Lib.hid ho3; have HP3 := Lib.hid hperm; have HS3 := Lib.hid hsort; have HB3 : Hid (Below w.heap.size w w3) := HBr.out.trans (hb3.mono hgb); have hgw3 := (World.ownsRow.lt ho3 g rfl).2; clear hperm hsort ho3 hb3)
                have HW := Lib.hid (whole_of HP3.out hs4 HS3.out)
                have HSL : Hid (k = S.length) := by
                  have := HW.out.len
                  show k = _
                  rw [this]; exact HLEN.out
                have HOUT := Lib.hid (own_made w3 k w.heap.size HB3.out.size (by unfold maxLen; omega))
                have HO4 := Lib.hid (HO3.out.alloc (.cells (madeCells #[.int .i64 0] k) 3))
                have HB4 : Hid (Below w.heap.size w (w3.alloc (.cells (madeCells #[.int .i64 0] k) 3))) := HB3.out.alloc HB3.out.size _
                obtain ⟨o, ho⟩ : ∃ o, w3.heap.size = o := ⟨_, rfl⟩
                obtain ⟨W, hW⟩ : ∃ W, w3.alloc (.cells (madeCells #[.int .i64 0] k) 3) = W := ⟨_, rfl⟩
                rw [hW] at HOUT HO4 HB4 ⊢
                rw [ho] at HOUT ⊢
                have hgo : g ≠ o := by omega
                clear hW ho hmk HO3 HB3 HO0 hgw3
                have hlv2 : lv ≤ 34359738368 := hlv.2
                go_loopw [82] (fun i wr => ∃ j out, i = .int .i64 ((j : Nat) : Int) ∧ j ≤ k ∧ Hid (V.Own 3 icod w.heap.size wr (.slice (some ⟨o, 0, none⟩) k k) out) ∧ Hid (V.Own 202 pcod w.heap.size wr (.slice (some ⟨g, 0, none⟩) k cp) S) ∧ Hid (Part S k lv.toNat j out) ∧ Hid (Below w.heap.size w wr)) (fun i _ => k - (intOf i).toNat)
                case atStart => exact ⟨0, _, by go_num, by omega, HOUT.out, HO4.out, ⟨by simp, fun j p hj => by omega⟩, HB4.out⟩
                case round =>
                  clear HOUT HO4 HB4
                  obtain ⟨j, out, rfl, hj, HOUT, HOS, HPA, HBw⟩ := hrel
                  by_cases hlt3 : j < k
                  · have hjs : j < S.length := by have := HSL.out; omega
                    obtain ⟨p, hp⟩ : ∃ p, S[j]? = some p := ⟨_, List.getElem?_eq_getElem hjs⟩
                    obtain ⟨c0, c1, c2, hgl⟩ := pcells HOS.out HSL.out hp
                    obtain ⟨p0, p1, p2⟩ := HW.out.low j p hp
                    have HPP := Lib.hid hp
                    clear hp
                    obtain ⟨pl, sh, rs⟩ := p
                    obtain ⟨t, rfl⟩ : ∃ t : Nat, pl = t := ⟨pl.toNat, by simp at p0; omega⟩
                    have htn : t < k := by have := HLEN.out; simp at p1; omega
                    have HOL : Hid (k = out.length) := by have := HPA.out.len; exact this.symm
                    obtain ⟨dv, hdv, q0, qf, hol⟩ := icells HOUT.out HOL.out htn
                    have hji : (j : Int) < (k : Int) := by omega
                    have hti : (t : Int) < (k : Int) := by omega
                    have hsh : 0 ≤ sh ∧ sh ≤ amount := ptys_share am0 hs4 HALL.out (HP3.out.mem_iff.1 (List.mem_of_getElem? HPP.out))
                    have hne1 : o ≠ wr.heap.size := by omega
                    have hne2 : wr.heap.size ≠ o := by omega
                    obtain ⟨o1, g1⟩ := iset HOUT.out HOL.out t sh
                    obtain ⟨o2, g2⟩ := iset o1 (by rw [List.length_set]; exact HOL.out) t (sh + 1)
                    rw [List.set_set] at o2
                    have hs1 := HOS.out.kept g1 (.inr (by simp [Value.ownBlock]; exact hgo))
                    have hb1 := HBw.out.trans (own_below HOUT.out g1 HBw.out.size)
                    have hs2 := hs1.kept g2 (.inr (by simp [Value.ownBlock]; exact hgo))
                    have hb2 := hb1.trans (own_below o1 g2 hb1.size)
                    have HO1 := Lib.hid (o1.alloc (.cells #[.int .i64 t, .int .i64 sh, .int .u64 rs] 202))
                    have HO2 := Lib.hid (o2.alloc (.cells #[.int .i64 t, .int .i64 sh, .int .u64 rs] 202))
                    have HS1 := Lib.hid (hs1.alloc (.cells #[.int .i64 t, .int .i64 sh, .int .u64 rs] 202))
                    have HS2' := Lib.hid (hs2.alloc (.cells #[.int .i64 t, .int .i64 sh, .int .u64 rs] 202))
                    have HB1 := Lib.hid (hb1.alloc hb1.size (.cells #[.int .i64 t, .int .i64 sh, .int .u64 rs] 202))
                    have HB2' := Lib.hid (hb2.alloc hb2.size (.cells #[.int .i64 t, .int .i64 sh, .int .u64 rs] 202))
                    clear o1 o2 g1 g2 hs1 hb1 hs2 hb2
                    by_cases hlt4 : (j : Int) < lv
                    · go_wp2_with fail
                      go_roundw
                      case rel => exact ⟨j + 1, _, by go_num, by omega, HO2.out, HS2'.out, Part.step (p := ⟨t, sh, rs⟩) (by have := HW.out; rwa [← HLEN.out] at this) HPA.out HPP.out (sh + 1) (by rw [if_pos (by omega)]), HB2'.out⟩
                      case measure => simp [intOf] <;> omega
                    · have hd4 : decide ((j : Int) < lv) = false := decide_eq_false hlt4
                      go_wp2_with fail
                      go_roundw
                      case rel => exact ⟨j + 1, _, by go_num, by omega, HO1.out, HS1.out, Part.step (p := ⟨t, sh, rs⟩) (by have := HW.out; rwa [← HLEN.out] at this) HPA.out HPP.out sh (by rw [if_neg (by omega)]; simp), HB1.out⟩
                      case measure => simp [intOf] <;> omega
                  · have hjk2 : k = j := by omega
                    subst hjk2
                    go_wp2_with fail
                    refine bodyPost_ret (v := .tuple #[.slice (some ⟨o, 0, none⟩) k k, .int .i64 0]) (by simp [results, Try.results48, go_sem]) rfl ⟨fun hh => ?_, fun _ => ⟨_, out, S, rfl, HOUT.out, ?_, ?_, ?_⟩, HBw.out⟩
                    · rw [HYES.out] at hh; cases hh
                    · rw [← HS2.out.1]; exact HP3.out
                    · have := HW.out
                      rwa [← HLEN.out] at this
                    · rw [← HS2.out.1, ← HL0.out]
                      exact HPA.out.filled (by have := HW.out; rwa [← HLEN.out] at this)
      · have HNO : Hid (shMay amount ws = false) := may_no (.inl (by have := HLEN.out; omega))
        have hbig : (64 : Int) < (n : Int) := by omega
        go_wp2_with fail
        go_ret2
        refine ⟨fun _ => rfl, fun hh => ?_, Below.refl _ _⟩
        rw [HNO.out] at hh; cases hh
end Go.Proofs.Ytjejpaladjfegaa.Ap
