/- Shares: parties, sorted by the shelf's slices.SortFunc. -/
/- Shares: an amount shared out, walked. -/
/- Shares: which amounts may be shared out, by the document: walked. -/
/- Shares: the document's shares: walked. -/
/- Shares as one list; what is true of them: plain. -/
import Derived.Test.YtgfakkkiejeofaaApZ
import Derived.Test.YtgfakkkiejeofaaApLay
import Derived.Test.YtgfakkkiejeofaaIr
namespace Go.Proofs.Ytgfakkkiejeofaa.Ap
open Go.RowKit Go.V Go.Proofs Go.Sort Go.Shelf
open Go.Proofs.Ytgfakkkiejeofaa.Ne (cmpI icod int_at box_new box_cell)

theorem cmpP_lt (x y : Pty) : ltOf cmpP x y = true ↔ ltP x y := by
  unfold ltOf cmpP cmpI ltP
  rw [decide_eq_true_iff]
  (repeat' split) <;> omega
theorem swoP : SWO (ltOf cmpP) where
  irrefl x := by
    cases h : ltOf cmpP x x with
    | false => rfl
    | true => have := (cmpP_lt x x).1 h; unfold ltP at this; omega
  trans x y z h1 h2 := by
    have a := (cmpP_lt x y).1 h1
    have b := (cmpP_lt y z).1 h2
    refine (cmpP_lt x z).2 ?_
    unfold ltP at *; omega
  ntrans x y z h1 h2 := by
    cases h : ltOf cmpP x z with
    | false => rfl
    | true =>
      have a := (cmpP_lt x z).1 h
      have b : ¬ ltP x y := fun q => by rw [(cmpP_lt x y).2 q] at h1; cases h1
      have c : ¬ ltP y z := fun q => by rw [(cmpP_lt y z).2 q] at h2; cases h2
      unfold ltP at *; omega

theorem psort_any (base g n cap : Nat) (xs : List Pty) (w : World) (h : V.Own 66 pcod base w (.slice (some ⟨g, 0, none⟩) n cap) xs) (hn : n = xs.length) (hm : n ≤ 1000000) :
    Calls Try.prog 30 #[.slice (some ⟨g, 0, none⟩) n cap, .func (.func 26) #[] #[]] w fun e w' => e = .returned (.tuple #[]) ∧
      ∃ S : List Pty, S.Perm xs ∧ (∀ (i j : Nat) (p q : Pty), S[i]? = some p → S[j]? = some q → i < j → ¬ ltP q p) ∧ V.Own 66 pcod base w' (.slice (some ⟨g, 0, none⟩) n cap) S ∧ Below g w w' := by
  subst hn
  obtain ⟨a', cap', he, hsl, hd⟩ := h.slice
  cases he
  obtain ⟨g', cur, hg1, hg2, hg3⟩ := hd _ rfl
  cases hg1
  have hgs := (Array.getElem?_eq_some_iff.1 hg3).1
  have hfz : ∀ j, w.frozen? ⟨g, j, none⟩ = false := fun j => by simp [World.frozen?, hg3]
  have hH : HoldsK pcod.enc pcod.k w g 0 xs.toArray := holdsK_of_cells pcod (fun j u hu => by have := hsl.src j u hu; rwa [Go.V.add_addr] at this) hfz
  have hc := AnyQ.slices_SortFunc sortL 3 (fun _ => by kernel_rfl) (fun _ => by kernel_rfl) pcod.enc pcod.len pcod.one cmpP swoP 26 #[] g 0 cap xs.toArray w (enters_of Try.func26 (by kernel_rfl) rfl) (fun m os dk _ x y => first_any x y _) hH hgs (by simp; omega)
  refine hc.mono ?_
  rintro e w' ⟨rfl, d', m, os, hp, hs, rfl⟩
  have hsz : d'.size = xs.length := by rw [hp.1]; simp
  have hS : SWK pcod.enc pcod.k w g 0 d' (sortWorldK pcod.enc pcod.k w g 0 m d' os) := ⟨m, os, rfl⟩
  have hperm : d'.toList.Perm xs := by
    have := hp.2.2
    simp only [List.size_toArray] at this
    rw [show d'.extract 0 xs.length = d' by rw [← hsz]; exact Array.extract_size] at this
    simpa using this
  have hlen : d'.toList.length = xs.length := hperm.length_eq
  refine ⟨rfl, d'.toList, hperm, fun i j p q hi hj hij hlt => ?_, ?_, swk_below hS (Nat.le_refl _) (by omega)⟩
  · have h1 := (List.getElem?_eq_some_iff.1 hi).1
    have h2 := (List.getElem?_eq_some_iff.1 hj).1
    have hs' := hs i j (Nat.zero_le _) hij (by simp; omega)
    have e1 : d'[i]! = p := by
      rw [getElem!_pos d' i (by simpa using h1)]
      have := (List.getElem?_eq_some_iff.1 hi).2
      simpa using this
    have e2 : d'[j]! = q := by
      rw [getElem!_pos d' j (by simpa using h2)]
      have := (List.getElem?_eq_some_iff.1 hj).2
      simpa using this
    rw [e1, e2, (cmpP_lt q p).2 hlt] at hs'
    cases hs'
  · have := swk_own pcod (e := 66) h hS hsz
    unfold V.Own
    rw [hlen]
    exact this
end Go.Proofs.Ytgfakkkiejeofaa.Ap

namespace Go.Proofs.Ytgfakkkiejeofaa.Ap
open Go.RowKit Go.V Go.Proofs Go.Sort Go.Shelf
open Go.Proofs.Ytgfakkkiejeofaa.Ne (icod int_at box_new box_cell)
open Go.Proofs.Ytgfakkkiejeofaa.Ir

def wtB (x : Int) : Bool := decide (0 ≤ x ∧ x ≤ 4294967296)
def shMay (amount : Int) (ws : List Int) : Bool := decide (ws.length ≤ 64) && ws.all wtB && decide (0 ≤ amount ∧ amount ≤ 34359738368) && decide (0 < ws.sum)
set_option maxHeartbeats 400000 in
theorem awithin_any (n lo hi : Int) (w : World) :
    Calls Try.prog 17 #[.int .i64 n, .int .i64 lo, .int .i64 hi] w fun e w' => e = .returned (.bool (decide (lo ≤ n ∧ n ≤ hi))) ∧ w = w' := by
  by_cases h1 : lo ≤ n
  all_goals
    go_enter Try.func17, Try.ntmps17
    go_wp2
    go_ret
    exact ⟨ret_bool (by rw [Bool.eq_iff_iff]; simp [*] <;> omega), rfl⟩

theorem all_take {f : Int → Bool} {xs : List Int} {j : Nat} {x : Int} (h : xs[j]? = some x) (hx : f x = true) (hh : (xs.take j).all f = true) : (xs.take (j + 1)).all f = true := by
  rw [take_at h, List.all_append, hh]; simp [hx]
theorem all_bad {f : Int → Bool} {xs : List Int} {j : Nat} {x : Int} (h : xs[j]? = some x) (hx : f x = false) : xs.all f = false := by
  rw [Bool.eq_false_iff]
  intro hh
  have := List.all_eq_true.1 hh x (List.mem_of_getElem? h)
  rw [hx] at this; cases this
theorem sum_snoc {xs : List Int} {j : Nat} {x : Int} (h : xs[j]? = some x) : (xs.take (j + 1)).sum = (xs.take j).sum + x := by
  rw [take_at h]; simp
theorem sum_in {xs : List Int} (h : xs.all wtB = true) : 0 ≤ xs.sum ∧ xs.sum ≤ xs.length * 4294967296 := by
  induction xs with
  | nil => simp
  | cons x xs ih =>
    rw [List.all_cons, Bool.and_eq_true] at h
    have := ih h.2
    have hx : 0 ≤ x ∧ x ≤ 4294967296 := of_decide_eq_true h.1
    rw [List.sum_cons, List.length_cons, Int.natCast_add, Int.add_mul]
    simp only [Int.natCast_one, Int.one_mul]
    omega
theorem may_no {amount : Int} {ws : List Int} (h : 64 < ws.length ∨ ws.all wtB = false ∨ ¬ (0 ≤ amount ∧ amount ≤ 34359738368) ∨ ¬ 0 < ws.sum) : shMay amount ws = false := by
  unfold shMay
  rcases h with h | h | h | h
  · rw [decide_eq_false (by omega : ¬ ws.length ≤ 64)]; simp
  · rw [h]; simp
  · rw [decide_eq_false h]; simp
  · rw [decide_eq_false h]; simp
theorem may_yes {amount : Int} {ws : List Int} (h1 : ws.length ≤ 64) (h2 : ws.all wtB = true) (h3 : 0 ≤ amount ∧ amount ≤ 34359738368) (h4 : 0 < ws.sum) : shMay amount ws = true := by
  unfold shMay
  rw [decide_eq_true h1, h2, decide_eq_true h3, decide_eq_true h4]; rfl

theorem infoP : (Try.prog.info? 66).map (fun i => (i.zero, i.size, i.bytes)) = some (some (.agg #[.int .i64 0, .int .i64 0, .int .u64 0]), 3, 24) := by kernel_rfl
theorem eltP : Elt Try.prog 61 66 pcod 24 := Elt.of Try.underlying61 infoP rfl (by decide)
theorem ptys_snoc {amount all : Int} {ws : List Int} {j : Nat} {x : Int} (h : ws[j]? = some x) : (ptys amount all ws).take (j + 1) = (ptys amount all ws).take j ++ [⟨(j : Int), tmsQ amount x all, tmsR amount x all⟩] := by
  have e : (ptys amount all ws)[j]? = some ⟨(j : Int), tmsQ amount x all, tmsR amount x all⟩ := by rw [ptys_get, h]; rfl
  rw [take_at e]
theorem left_snoc {amount all : Int} {ws : List Int} {j : Nat} {x : Int} (h : ws[j]? = some x) : leftE amount all (ws.take (j + 1)) = leftE amount all (ws.take j) - tmsQ amount x all := by
  unfold leftE
  rw [take_at h, List.map_append, List.sum_append]
  simp [tmsQ]; omega
theorem mem_sum {x : Int} : ∀ {xs : List Int}, xs.all wtB = true → x ∈ xs → 0 ≤ x ∧ x ≤ 4294967296 ∧ x ≤ xs.sum
  | y :: xs, h, hx => by
    rw [List.all_cons, Bool.and_eq_true] at h
    have hy : 0 ≤ y ∧ y ≤ 4294967296 := of_decide_eq_true h.1
    have hs := sum_in h.2
    rw [List.sum_cons]
    rcases List.mem_cons.1 hx with e | e
    · subst e; omega
    · have := mem_sum h.2 e; omega
theorem left_in {amount all : Int} {ws : List Int} (ha : 0 ≤ amount) (hall : 0 < all) (hw : ∀ x ∈ ws, 0 ≤ x ∧ x ≤ all) : amount - ws.length * amount ≤ leftE amount all ws ∧ leftE amount all ws ≤ amount := by
  have key : ∀ l : List Int, (∀ x ∈ l, 0 ≤ x ∧ x ≤ all) → 0 ≤ (l.map fun w => amount * w / all).sum ∧ (l.map fun w => amount * w / all).sum ≤ l.length * amount := by
    intro l
    induction l with
    | nil => intro _; simp
    | cons y l ih =>
      intro hl
      obtain ⟨y0, y1⟩ := hl y (by simp)
      obtain ⟨t0, t1, -, -⟩ := tms_in (A := amount) ha y0 y1 hall
      have := ih (fun x hx => hl x (by simp [hx]))
      rw [List.map_cons, List.sum_cons, List.length_cons, Int.natCast_add, Int.add_mul]
      unfold tmsQ at t0 t1
      simp only [Int.natCast_one, Int.one_mul]
      omega
  have := key ws hw
  unfold leftE; omega
theorem pp_len {amount all : Int} {ws : List Int} {j : Nat} (h : j ≤ ws.length) : ((ptys amount all ws).take j).length = j := by
  rw [List.length_take, ptys_len]; omega

/-- What is told of the first i. -/
structure Part (S : List Pty) (n t i : Nat) (out : List Int) : Prop where
  len : out.length = n
  at_ : ∀ (j : Nat) (p : Pty), j < i → S[j]? = some p → out[p.place.toNat]? = some (p.share + if j < t then 1 else 0)
theorem Part.step {S : List Pty} {n t i : Nat} {out : List Int} {p : Pty} (hW : Whole S n) (h : Part S n t i out) (hp : S[i]? = some p) (v : Int) (hv : v = p.share + if i < t then 1 else 0) : Part S n t (i + 1) (out.set p.place.toNat v) := by
  obtain ⟨p0, p1, -⟩ := hW.low i p hp
  have hl := h.len
  refine ⟨by rw [List.length_set]; exact hl, fun j q hj hq => ?_⟩
  obtain ⟨q0, q1, -⟩ := hW.low j q hq
  by_cases e : q.place = p.place
  · have := hW.one j i q p hq hp e
    subst this
    rw [hp] at hq; cases hq
    rw [List.getElem?_set_self (by omega), hv]
  · rw [List.getElem?_set_ne (by omega)]
    have : j ≠ i := by rintro rfl; rw [hp] at hq; cases hq; exact e rfl
    exact h.at_ j q (by omega) hq
theorem Part.filled {S : List Pty} {n t : Nat} {out : List Int} (hW : Whole S n) (h : Part S n t n out) : Filled S n t out :=
  ⟨h.len, fun i p hi => h.at_ i p (by rw [← hW.len]; exact (List.getElem?_eq_some_iff.1 hi).1) hi⟩
theorem pcells {T : TypeId} {base : Nat} {w : World} {b n cap : Nat} {xs : List Pty} (h : V.Own T pcod base w (.slice (some ⟨b, 0, none⟩) n cap) xs) (hn : n = xs.length) {i : Nat} {p : Pty} (hp : xs[i]? = some p) :
    w.cell? ⟨b, i * 3, none⟩ = some (.int .i64 p.place) ∧ w.cell? ⟨b, i * 3 + 1, none⟩ = some (.int .i64 p.share) ∧ w.cell? ⟨b, i * 3 + 2, none⟩ = some (.int .u64 p.rest) ∧ b < w.heap.size := by
  obtain ⟨h1, -⟩ := h.at hn hp
  exact ⟨h1 0 _ rfl, h1 1 _ rfl, h1 2 _ rfl, (World.ownsRow.lt h b rfl).2⟩

theorem ptys_share {amount all : Int} {ws : List Int} {p : Pty} (ha : 0 ≤ amount) (hall : 0 < all) (hw : ∀ x ∈ ws, 0 ≤ x ∧ x ≤ 4294967296 ∧ x ≤ all) (hp : p ∈ ptys amount all ws) : 0 ≤ p.share ∧ p.share ≤ amount := by
  obtain ⟨i, hi, rfl⟩ := List.mem_iff_getElem.1 hp
  rw [ptys_len] at hi
  have e : (ptys amount all ws)[i] = ptyAt amount all i ws[i] := List.getElem_mapIdx ..
  rw [e]
  obtain ⟨h1, -, h2⟩ := hw _ (List.getElem_mem hi)
  obtain ⟨a, b, -, -⟩ := tms_in (A := amount) ha h1 h2 hall
  exact ⟨a, b⟩

set_option maxHeartbeats 1000000 in
theorem shares_any (amount : Int) (a : Option Addr) (n cap : Nat) (ws : List Int) (w : World) (hn : n ≤ 200) (h : Sl icod w a n cap ws) :
    Calls Try.prog 14 #[.int .i64 amount, .slice a n cap] w fun e w' => (shMay amount ws = false → e = .returned (.tuple #[.slice none 0 0, .int .i64 2])) ∧
      (shMay amount ws = true → ∃ v out S, e = .returned (.tuple #[v, .int .i64 0]) ∧ V.Own 3 icod w.heap.size w' v out ∧ S.Perm (ptys amount ws.sum ws) ∧ Whole S n ∧ Filled S n (leftE amount ws.sum ws).toNat out) ∧ Below w.heap.size w w' := by
  have HLEN := Lib.hid h.hlen
  have hcap := h.hcap
  have HH := Lib.hid h
  clear h
  obtain ⟨m, hm⟩ : ∃ m, min n 64 = m := ⟨_, rfl⟩
  have hmin : min (n : Int) 64 = (m : Int) := by omega
  have hmx : max (m : Int) 0 = (m : Int) := by omega
  have hmn : m ≤ n ∧ m ≤ 64 := by omega
  have HM := Lib.hid hm
  clear hm
  go_enter Try.func14, Try.ntmps14
  go_wp2_with fail
  clear hmin hmx
  go_loop [6, 8, 25] (fun s l i => ∃ k : Nat, i = .int .i64 k ∧ k ≤ m ∧ ∃ s1 : Int, s = .int .i64 s1 ∧ Hid (s1 = (ws.take k).sum ∧ (ws.take k).all wtB = true)) (fun _ _ i => m - (intOf i).toNat)
  case atStart => exact ⟨0, rfl, by omega, 0, rfl, rfl, rfl⟩
  case round =>
    obtain ⟨k, rfl, hk, s1, rfl, HS⟩ := hrel
    have hs2 := sum_in HS.out.2
    rw [← HS.out.1, List.length_take] at hs2
    have hs3 : 0 ≤ s1 ∧ s1 ≤ 274877906944 := by omega
    clear hs2
    by_cases hlt : k < m
    · obtain ⟨b, off, x, rfl, hbl, hx, hcx⟩ := int_at HH.out (show k < n by omega)
      have HX := Lib.hid hx
      have hki : (k : Int) < (m : Int) := by omega
      clear hx
      cases hb : decide (0 ≤ x ∧ x ≤ 4294967296) with
      | false =>
        have HNO : Hid (shMay amount ws = false) := may_no (.inr (.inl (all_bad HX.out hb)))
        have HB := Lib.hid hb
        clear hb
        go_wp2_with (go_at_call 17; refine (awithin_any _ _ _ _).mono ?_; rintro e w' ⟨rfl, rfl⟩; rw [HB.out])
        go_ret2
        refine ⟨fun _ => rfl, fun hh => ?_, Below.refl _ _⟩
        rw [HNO.out] at hh; cases hh
      | true =>
        have hx2 : 0 ≤ x ∧ x ≤ 4294967296 := of_decide_eq_true hb
        have HB := Lib.hid hb
        clear hb
        go_wp2_with (go_at_call 17; refine (awithin_any _ _ _ _).mono ?_; rintro e w' ⟨rfl, rfl⟩; rw [HB.out])
        go_round
        case rel => exact ⟨k + 1, by go_num, by omega, _, rfl, by rw [sum_snoc HX.out, ← HS.out.1], all_take HX.out HB.out HS.out.2⟩
        case measure => simp [intOf] <;> omega
    · have hkm : k = m := by omega
      subst hkm
      by_cases h64 : n ≤ 64
      · have hkn : k = n := by have := HM.out; omega
        subst hkn
        have HS2 : Hid (s1 = ws.sum ∧ ws.all wtB = true) := by
          have := HS.out
          rwa [List.take_of_length_le (by have := HLEN.out; omega)] at this
        clear HS
        cases hb : decide (0 ≤ amount ∧ amount ≤ 34359738368) with
        | false =>
          have HNO : Hid (shMay amount ws = false) := may_no (.inr (.inr (.inl (of_decide_eq_false hb))))
          have HB := Lib.hid hb
          clear hb
          go_wp2_with (go_at_call 17; refine (awithin_any _ _ _ _).mono ?_; rintro e w' ⟨rfl, rfl⟩; rw [HB.out])
          go_ret2
          refine ⟨fun _ => rfl, fun hh => ?_, Below.refl _ _⟩
          rw [HNO.out] at hh; cases hh
        | true =>
          have ham : 0 ≤ amount ∧ amount ≤ 34359738368 := of_decide_eq_true hb
          have HB := Lib.hid hb
          clear hb
          by_cases h0 : s1 = 0
          · have HNO : Hid (shMay amount ws = false) := may_no (.inr (.inr (.inr (by have := HS2.out.1; omega))))
            subst h0
            go_wp2_with (go_at_call 17; refine (awithin_any _ _ _ _).mono ?_; rintro e w' ⟨rfl, rfl⟩; rw [HB.out])
            go_ret2
            refine ⟨fun _ => rfl, fun hh => ?_, Below.refl _ _⟩
            rw [HNO.out] at hh; cases hh
          · have h0b : (s1 == 0) = false := by simpa using h0
            have hs4 : 0 < s1 := by omega
            clear h0
            go_wp2_with (go_at_call 17; refine (awithin_any _ _ _ _).mono ?_; rintro e w' ⟨rfl, rfl⟩; rw [HB.out])
            have HALL : Hid (∀ x ∈ ws, 0 ≤ x ∧ x ≤ 4294967296 ∧ x ≤ s1) := fun x hx => by
              have := mem_sum HS2.out.2 hx
              rw [← HS2.out.1] at this; exact this
            have HYES : Hid (shMay amount ws = true) := may_yes (by have := HLEN.out; omega) HS2.out.2 ham (by have := HS2.out.1; omega)
            obtain ⟨am0, am1⟩ := ham
            go_loopw [9, 10, 51] (fun v l i wr => ∃ j : Nat, i = .int .i64 j ∧ j ≤ k ∧ Hid (V.Own 66 pcod w.heap.size wr v ((ptys amount s1 ws).take j)) ∧ (∃ lv : Int, l = .int .i64 lv ∧ Hid (lv = leftE amount s1 (ws.take j))) ∧ Hid (Below w.heap.size w wr)) (fun _ _ i _ => k - (intOf i).toNat)
            case atStart => exact ⟨0, by go_num, by omega, Own.nil, ⟨amount, rfl, by show _ = _; unfold leftE; simp⟩, Below.refl _ _⟩
            case round =>
              obtain ⟨j, rfl, hj, HO, ⟨lv, rfl, HLV⟩, HBr⟩ := hrel
              have hlv : -2199023255552 ≤ lv ∧ lv ≤ 34359738368 := by
                have h1 := left_in (ws := ws.take j) am0 hs4 (fun x hx => by have := HALL.out x (List.mem_of_mem_take hx); omega)
                rw [← HLV.out, List.length_take] at h1
                have h2 : ((min j ws.length : Nat) : Int) * amount ≤ 64 * amount := Int.mul_le_mul_of_nonneg_right (by omega) am0
                omega
              by_cases hlt2 : j < k
              · obtain ⟨b, off, x, rfl, hbl, hx, hcx⟩ := int_at (HH.out.below HBr.out) hlt2
                obtain ⟨x0, x1, x2⟩ := HALL.out x (List.mem_of_getElem? hx)
                have HX := Lib.hid hx
                have hji : (j : Int) < (k : Int) := by omega
                have HM1 : Hid (((ptys amount s1 ws).take j).length + 1 ≤ maxLen) := by show _ ≤ _; rw [pp_len (by have := HLEN.out; omega)]; unfold maxLen; omega
                have HM2 : Hid ((((ptys amount s1 ws).take j).length + 1) * 24 ≤ 140737488355328) := by show _ ≤ _; rw [pp_len (by have := HLEN.out; omega)]; omega
                obtain ⟨tq0, tq1, -, -⟩ := tms_in (A := amount) am0 x0 x2 hs4
                obtain ⟨q, hq⟩ : ∃ q, tmsQ amount x s1 = q := ⟨_, rfl⟩
                obtain ⟨r, hr⟩ : ∃ r, tmsR amount x s1 = r := ⟨_, rfl⟩
                have HQ : Hid (tmsQ amount x s1 = q ∧ tmsR amount x s1 = r) := ⟨hq, hr⟩
                rw [hq] at tq0 tq1
                clear hx hq hr
                go_wp2_with (first
                  | (go_at_call 25; go_loud (refine (times_any amount x s1 _ ⟨am0, am1⟩ ⟨x0, x1⟩ x2 ⟨hs4, hs3.2⟩).mono ?_); rintro e w1 ⟨rfl, q9, rfl⟩; rw [HQ.out.1, HQ.out.2])
                  | (at_builtin; go_loud (refine wpList_app eltP rfl (.tmp 63) (.tmp 68) rfl (base := w.heap.size) _ ((ptys amount s1 ws).take j) rfl ((HO.out.below (below_drewN (Below.refl _ _) _)).alloc _) _ 1 1 [⟨(j : Int), q, r⟩] rfl (sl_new (c := pcod) _ #[.int .i64 j, .int .i64 q, .int .u64 r] 66 [⟨(j : Int), q, r⟩] 1 rfl (by unfold maxLen; omega) rfl) HM1.out HM2.out (by have := HBr.out.size; simp; omega) ?_); intro v1 w2 ho hg; have HO2 := Lib.hid ho; have HB2 : Hid (Below w.heap.size w w2) := ((below_drewN HBr.out _).alloc (by have := HBr.out.size; simp; omega) _).trans (own_below ((HO.out.below (below_drewN (Below.refl _ _) _)).alloc _) hg (by have := HBr.out.size; simp; omega)); clear ho hg))
                go_roundw
                case rel => exact ⟨j + 1, by go_num, by omega, by rw [ptys_snoc HX.out, HQ.out.1, HQ.out.2]; exact HO2.out, ⟨_, rfl, by show _ = _; rw [left_snoc HX.out, HQ.out.1, ← HLV.out]⟩, HB2.out⟩
                case measure => simp [intOf] <;> omega
              · have hjk : k = j := by omega
                subst hjk
                have hk0 : 0 < k := by
                  rcases Nat.eq_zero_or_pos k with e | e
                  · exfalso
                    have h1 := HLEN.out
                    have h2 : ws = [] := List.eq_nil_of_length_eq_zero (by omega)
                    have h3 := HS2.out.1
                    rw [h2] at h3
                    simp at h3; omega
                  · exact e
                have HPT : Hid ((ptys amount s1 ws).take k = ptys amount s1 ws ∧ ws.take k = ws) := ⟨List.take_of_length_le (by rw [ptys_len, ← HLEN.out]; exact Nat.le_refl _), List.take_of_length_le (by rw [← HLEN.out]; exact Nat.le_refl _)⟩
                have ho0 := HO.out
                rw [HPT.out.1] at ho0
                obtain ⟨g, cp, cur, hv, hgb, -⟩ := own_ne ho0 (by intro e; have := congrArg List.length e; rw [ptys_len, ← HLEN.out] at this; simp at this; omega)
                rw [ptys_len, ← HLEN.out] at hv
                subst hv
                have HO0 := Lib.hid ho0
                have HL0 : Hid (lv = leftE amount s1 ws) := by
                  have := HLV.out
                  rwa [HPT.out.2] at this
                have hl0 := left_lt (amount := amount) (ws := ws) hs4 HS2.out.1
                rw [← HL0.out] at hl0
                obtain ⟨lv0, -⟩ := hl0
                have hmk := make_any k (by omega)
                clear ho0 HO HLV
                go_wp2_with (go_at_call 30; go_loud (refine (psort_any w.heap.size g k cp (ptys amount s1 ws) _ HO0.out (by rw [ptys_len]; exact HLEN.out) (by omega)).mono ?_); rintro e w3 ⟨rfl, S, hperm, hsort, ho3, hb3⟩; have HO3 := Lib.hid ho3; have HP3 := Lib.hid hperm; have HS3 := Lib.hid hsort; have HB3 : Hid (Below w.heap.size w w3) := HBr.out.trans (hb3.mono hgb); have hgw3 := (World.ownsRow.lt ho3 g rfl).2; clear hperm hsort ho3 hb3)
                have HW := Lib.hid (whole_of HP3.out hs4 HS3.out)
                have HSL : Hid (k = S.length) := by
                  have := HW.out.len
                  show k = _
                  rw [this]; exact HLEN.out
                have HOUT := Lib.hid (own_made w3 k w.heap.size HB3.out.size (by unfold maxLen; omega))
                have HO4 := Lib.hid (HO3.out.alloc (.cells (madeCells #[.int .i64 0] k) 3))
                have HB4 : Hid (Below w.heap.size w (w3.alloc (.cells (madeCells #[.int .i64 0] k) 3))) := HB3.out.alloc HB3.out.size _
                obtain ⟨o, ho⟩ : ∃ o, w3.heap.size = o := ⟨_, rfl⟩
                obtain ⟨W, hW⟩ : ∃ W, w3.alloc (.cells (madeCells #[.int .i64 0] k) 3) = W := ⟨_, rfl⟩
                rw [hW] at HOUT HO4 HB4 ⊢
                rw [ho] at HOUT ⊢
                have hgo : g ≠ o := by omega
                clear hW ho hmk HO3 HB3 HO0 hgw3
                have hlv2 : lv ≤ 34359738368 := hlv.2
                go_loopw [82] (fun i wr => ∃ j out, i = .int .i64 ((j : Nat) : Int) ∧ j ≤ k ∧ Hid (V.Own 3 icod w.heap.size wr (.slice (some ⟨o, 0, none⟩) k k) out) ∧ Hid (V.Own 66 pcod w.heap.size wr (.slice (some ⟨g, 0, none⟩) k cp) S) ∧ Hid (Part S k lv.toNat j out) ∧ Hid (Below w.heap.size w wr)) (fun i _ => k - (intOf i).toNat)
                case atStart => exact ⟨0, _, by go_num, by omega, HOUT.out, HO4.out, ⟨by simp, fun j p hj => by omega⟩, HB4.out⟩
                case round =>
                  clear HOUT HO4 HB4
                  obtain ⟨j, out, rfl, hj, HOUT, HOS, HPA, HBw⟩ := hrel
                  by_cases hlt3 : j < k
                  · have hjs : j < S.length := by have := HSL.out; omega
                    obtain ⟨p, hp⟩ : ∃ p, S[j]? = some p := ⟨_, List.getElem?_eq_getElem hjs⟩
                    obtain ⟨c0, c1, c2, hgl⟩ := pcells HOS.out HSL.out hp
                    obtain ⟨p0, p1, p2⟩ := HW.out.low j p hp
                    have HPP := Lib.hid hp
                    clear hp
                    obtain ⟨pl, sh, rs⟩ := p
                    obtain ⟨t, rfl⟩ : ∃ t : Nat, pl = t := ⟨pl.toNat, by simp at p0; omega⟩
                    have htn : t < k := by have := HLEN.out; simp at p1; omega
                    have HOL : Hid (k = out.length) := by have := HPA.out.len; exact this.symm
                    obtain ⟨dv, hdv, q0, qf, hol⟩ := icells HOUT.out HOL.out htn
                    have hji : (j : Int) < (k : Int) := by omega
                    have hti : (t : Int) < (k : Int) := by omega
                    have hsh : 0 ≤ sh ∧ sh ≤ amount := ptys_share am0 hs4 HALL.out (HP3.out.mem_iff.1 (List.mem_of_getElem? HPP.out))
                    have hne1 : o ≠ wr.heap.size := by omega
                    have hne2 : wr.heap.size ≠ o := by omega
                    obtain ⟨o1, g1⟩ := iset HOUT.out HOL.out t sh
                    obtain ⟨o2, g2⟩ := iset o1 (by rw [List.length_set]; exact HOL.out) t (sh + 1)
                    rw [List.set_set] at o2
                    have hs1 := HOS.out.kept g1 (.inr (by simp [Value.ownBlock]; exact hgo))
                    have hb1 := HBw.out.trans (own_below HOUT.out g1 HBw.out.size)
                    have hs2 := hs1.kept g2 (.inr (by simp [Value.ownBlock]; exact hgo))
                    have hb2 := hb1.trans (own_below o1 g2 hb1.size)
                    have HO1 := Lib.hid (o1.alloc (.cells #[.int .i64 t, .int .i64 sh, .int .u64 rs] 66))
                    have HO2 := Lib.hid (o2.alloc (.cells #[.int .i64 t, .int .i64 sh, .int .u64 rs] 66))
                    have HS1 := Lib.hid (hs1.alloc (.cells #[.int .i64 t, .int .i64 sh, .int .u64 rs] 66))
                    have HS2' := Lib.hid (hs2.alloc (.cells #[.int .i64 t, .int .i64 sh, .int .u64 rs] 66))
                    have HB1 := Lib.hid (hb1.alloc hb1.size (.cells #[.int .i64 t, .int .i64 sh, .int .u64 rs] 66))
                    have HB2' := Lib.hid (hb2.alloc hb2.size (.cells #[.int .i64 t, .int .i64 sh, .int .u64 rs] 66))
                    clear o1 o2 g1 g2 hs1 hb1 hs2 hb2
                    by_cases hlt4 : (j : Int) < lv
                    · go_wp2_with fail
                      go_roundw
                      case rel => exact ⟨j + 1, _, by go_num, by omega, HO2.out, HS2'.out, Part.step (p := ⟨t, sh, rs⟩) (by have := HW.out; rwa [← HLEN.out] at this) HPA.out HPP.out (sh + 1) (by rw [if_pos (by omega)]), HB2'.out⟩
                      case measure => simp [intOf] <;> omega
                    · have hd4 : decide ((j : Int) < lv) = false := decide_eq_false hlt4
                      go_wp2_with fail
                      go_roundw
                      case rel => exact ⟨j + 1, _, by go_num, by omega, HO1.out, HS1.out, Part.step (p := ⟨t, sh, rs⟩) (by have := HW.out; rwa [← HLEN.out] at this) HPA.out HPP.out sh (by rw [if_neg (by omega)]; simp), HB1.out⟩
                      case measure => simp [intOf] <;> omega
                  · have hjk2 : k = j := by omega
                    subst hjk2
                    go_wp2_with fail
                    refine bodyPost_ret (v := .tuple #[.slice (some ⟨o, 0, none⟩) k k, .int .i64 0]) (by simp [results, Try.results14, go_sem]) rfl ⟨fun hh => ?_, fun _ => ⟨_, out, S, rfl, HOUT.out, ?_, ?_, ?_⟩, HBw.out⟩
                    · rw [HYES.out] at hh; cases hh
                    · rw [← HS2.out.1]; exact HP3.out
                    · have := HW.out
                      rwa [← HLEN.out] at this
                    · rw [← HS2.out.1, ← HL0.out]
                      exact HPA.out.filled (by have := HW.out; rwa [← HLEN.out] at this)
      · have HNO : Hid (shMay amount ws = false) := may_no (.inl (by have := HLEN.out; omega))
        have hbig : (64 : Int) < (n : Int) := by omega
        go_wp2_with fail
        go_ret2
        refine ⟨fun _ => rfl, fun hh => ?_, Below.refl _ _⟩
        rw [HNO.out] at hh; cases hh
end Go.Proofs.Ytgfakkkiejeofaa.Ap

namespace Go.Proofs.Ytgfakkkiejeofaa.Ap
open Go.RowKit Go.V Go.Proofs Go.Sort Go.Shelf
open Go.Proofs.Ytgfakkkiejeofaa.Ne (icod int_at box_new box_cell)
open Go.Proofs.Ytgfakkkiejeofaa.Ir

set_option maxHeartbeats 1000000 in
theorem rmay_any (amount : Int) (a : Option Addr) (n cap : Nat) (ws : List Int) (w : World) (hn : n ≤ 200) (h : Sl icod w a n cap ws) :
    Calls Try.prog 12 #[.int .i64 amount, .slice a n cap] w fun e w' => e = .returned (.bool (shMay amount ws)) ∧ w = w' := by
  have HLEN := Lib.hid h.hlen
  have HH := Lib.hid h
  clear h
  obtain ⟨mb, hmb⟩ : ∃ mb, shMay amount ws = mb := ⟨_, rfl⟩
  have HMB := Lib.hid hmb
  rw [hmb]
  clear hmb
  go_enter Try.func12, Try.ntmps12
  go_wp2_with fail
  go_loop [5, 6] (fun s i => ∃ k : Nat, i = .int .i64 k ∧ k ≤ n ∧ k ≤ 64 ∧ ∃ s1 : Int, s = .int .i64 s1 ∧ Hid (s1 = (ws.take k).sum ∧ (ws.take k).all wtB = true)) (fun _ i => n - (intOf i).toNat)
  case atStart => exact ⟨0, rfl, by omega, by omega, 0, rfl, rfl, rfl⟩
  case round =>
    obtain ⟨k, rfl, hk, hk6, s1, rfl, HS⟩ := hrel
    have hs2 := sum_in HS.out.2
    rw [← HS.out.1, List.length_take] at hs2
    have hs3 : 0 ≤ s1 ∧ s1 ≤ 274877906944 := by omega
    clear hs2
    by_cases hlt : k < n
    · by_cases h64 : (64 : Int) ≤ (k : Int)
      · have hz : mb = false := by rw [← HMB.out]; exact may_no (.inl (by have := HLEN.out; omega))
        subst hz
        go_wp2_with fail
        go_ret
        exact ⟨rfl, rfl⟩
      · obtain ⟨b, off, x, rfl, hbl, hx, hcx⟩ := int_at HH.out hlt
        have HX := Lib.hid hx
        have hki : (k : Int) < (n : Int) := by omega
        clear hx
        by_cases hx0 : x < 0
        · have hz : mb = false := by rw [← HMB.out]; exact may_no (.inr (.inl (all_bad HX.out (decide_eq_false (by omega)))))
          subst hz
          go_wp2_with fail
          go_ret
          exact ⟨rfl, rfl⟩
        · by_cases hx1 : 4294967296 < x
          · have hz : mb = false := by rw [← HMB.out]; exact may_no (.inr (.inl (all_bad HX.out (decide_eq_false (by omega)))))
            subst hz
            go_wp2_with fail
            go_ret
            exact ⟨rfl, rfl⟩
          · have HB : Hid (wtB x = true) := decide_eq_true (by omega)
            go_wp2_with fail
            go_round
            case rel => exact ⟨k + 1, by go_num, by omega, by omega, _, rfl, by rw [sum_snoc HX.out, ← HS.out.1], all_take HX.out HB.out HS.out.2⟩
            case measure => simp [intOf] <;> omega
    · have hkn : k = n := by omega
      subst hkn
      have HS2 : Hid (s1 = ws.sum ∧ ws.all wtB = true) := by
        have := HS.out
        rwa [List.take_of_length_le (by have := HLEN.out; omega)] at this
      clear HS
      by_cases ha0 : 0 ≤ amount
      · by_cases ha1 : amount ≤ 34359738368
        · by_cases h0 : 0 < s1
          · have hz : mb = true := by rw [← HMB.out]; exact may_yes (by have := HLEN.out; omega) HS2.out.2 ⟨ha0, ha1⟩ (by have := HS2.out.1; omega)
            subst hz
            go_wp2_with fail
            go_ret
            exact ⟨rfl, rfl⟩
          · have hz : mb = false := by rw [← HMB.out]; exact may_no (.inr (.inr (.inr (by have := HS2.out.1; omega))))
            subst hz
            have hd : decide (0 < s1) = false := decide_eq_false h0
            go_wp2_with fail
            go_ret
            exact ⟨rfl, rfl⟩
        · have hz : mb = false := by rw [← HMB.out]; exact may_no (.inr (.inr (.inl (by omega))))
          subst hz
          have hd : decide (amount ≤ 34359738368) = false := decide_eq_false ha1
          go_wp2_with fail
          go_ret
          exact ⟨rfl, rfl⟩
      · have hz : mb = false := by rw [← HMB.out]; exact may_no (.inr (.inr (.inl (by omega))))
        subst hz
        have hd : decide (0 ≤ amount) = false := decide_eq_false ha0
        go_wp2_with fail
        go_ret
        exact ⟨rfl, rfl⟩
end Go.Proofs.Ytgfakkkiejeofaa.Ap

namespace Go.Proofs.Ytgfakkkiejeofaa.Ap
open Go.RowKit Go.V Go.Proofs Go.Sort Go.Shelf
open Go.Proofs.Ytgfakkkiejeofaa.Ne (icod int_at box_new box_cell)
open Go.Proofs.Ytgfakkkiejeofaa.Ir

def qsE (amount all : Int) (ws : List Int) : List Int := ws.map fun x => tmsQ amount x all
def rsE (amount all : Int) (ws : List Int) : List Int := ws.map fun x => tmsR amount x all
theorem start_of {amount all : Int} {ws : List Int} {S : List Pty} (h : S.Perm (ptys amount all ws)) : Filled S ws.length 0 (qsE amount all ws) ∧ Rests S ws.length 0 (rsE amount all ws) := by
  have key : ∀ (i : Nat) (p : Pty), S[i]? = some p → ∃ (k : Nat) (w : Int), ws[k]? = some w ∧ p = ptyAt amount all k w := by
    intro i p hi
    have hm := h.mem_iff.1 (List.mem_of_getElem? hi)
    obtain ⟨k, hk, hkp⟩ := List.mem_iff_getElem.1 hm
    have e : (ptys amount all ws)[k]? = some p := by rw [List.getElem?_eq_getElem hk, hkp]
    rw [ptys_get] at e
    cases hw : ws[k]? with
    | none => rw [hw] at e; cases e
    | some w => rw [hw] at e; exact ⟨k, w, hw, (Option.some.inj e).symm⟩
  refine ⟨⟨by simp [qsE], fun i p hi => ?_⟩, ⟨by simp [rsE], fun i p hi => ?_⟩⟩
  · obtain ⟨k, w, hw, rfl⟩ := key i p hi
    show (qsE amount all ws)[((k : Int)).toNat]? = _
    unfold qsE
    rw [Int.toNat_natCast, List.getElem?_map, hw, if_neg (by omega)]
    simp [ptyAt, tmsQ]
  · obtain ⟨k, w, hw, rfl⟩ := key i p hi
    show (rsE amount all ws)[((k : Int)).toNat]? = _
    unfold rsE
    rw [Int.toNat_natCast, List.getElem?_map, hw, if_neg (by omega)]
    simp [ptyAt, tmsR]
theorem map_snoc {f : Int → Int} {ws : List Int} {j : Nat} {x : Int} (h : ws[j]? = some x) : (ws.take (j + 1)).map f = (ws.take j).map f ++ [f x] := by rw [take_at h, List.map_append]; rfl
theorem may_ok {amount : Int} {ws : List Int} (h : shMay amount ws = true) : ws.length ≤ 64 ∧ ws.all wtB = true ∧ (0 ≤ amount ∧ amount ≤ 34359738368) ∧ 0 < ws.sum := by
  unfold shMay at h
  simp only [Bool.and_eq_true, decide_eq_true_eq] at h
  exact ⟨h.1.1.1, h.1.1.2, h.1.2, h.2⟩

/-- What the document's shares have in memory. -/
structure RS (w wr : World) (o oc g gc n t : Nat) (S : List Pty) (out rests : List Int) : Prop where
  ow : V.Own 3 icod w.heap.size wr (.slice (some ⟨o, 0, none⟩) n oc) out
  rw_ : V.Own 3 icod w.heap.size wr (.slice (some ⟨g, 0, none⟩) n gc) rests
  ne : o ≠ g
  bel : RowKit.Below w.heap.size w wr
  fil : Filled S n t out
  res : Rests S n t rests
theorem RS.below {w wr w' : World} {o oc g gc n t : Nat} {S : List Pty} {out rests : List Int} (h : RS w wr o oc g gc n t S out rests) (hb : RowKit.Below wr.heap.size wr w') : RS w w' o oc g gc n t S out rests :=
  ⟨h.ow.below hb, h.rw_.below hb, h.ne, h.bel.trans (hb.mono h.bel.size), h.fil, h.res⟩

theorem amax_t {l : List Int} {j : Nat} {a b : Int} (h : l.getD (amax l j) 0 = a ∧ l.getD j 0 = b) (hj : 1 ≤ j) (hlt : a < b) : j = amax l (j + 1) := by
  show j = if j = 0 then 0 else if l.getD (amax l j) 0 < l.getD j 0 then j else amax l j
  rw [if_neg (by omega), h.1, h.2, if_pos hlt]
theorem amax_f {l : List Int} {j : Nat} {a b : Int} (h : l.getD (amax l j) 0 = a ∧ l.getD j 0 = b) (hj : 1 ≤ j) (hlt : ¬ a < b) : amax l j = amax l (j + 1) := by
  show amax l j = if j = 0 then 0 else if l.getD (amax l j) 0 < l.getD j 0 then j else amax l j
  rw [if_neg (by omega), h.1, h.2, if_neg hlt]
theorem RS.step {w wr : World} {o oc g gc n t bb : Nat} {S : List Pty} {out rests : List Int} {p : Pty} {d : Int} (h : RS w wr o oc g gc n t S out rests) (hW : Whole S n) (hp : S[t]? = some p) (hb : bb = p.place.toNat) (hd : out[bb]? = some d) :
    RS w ((wr.setCell ⟨o, bb, none⟩ (.int .i64 (d + 1))).setCell ⟨g, bb, none⟩ (.int .i64 (-1))) o oc g gc n (t + 1) S (out.set bb (d + 1)) (rests.set bb (-1)) := by
  obtain ⟨o1, g1⟩ := iset h.ow h.fil.len.symm bb (d + 1)
  have r1 := h.rw_.kept g1 (.inr (by simp [Value.ownBlock]; exact fun e => h.ne e.symm))
  have b1 := h.bel.trans (own_below h.ow g1 h.bel.size)
  obtain ⟨o2, g2⟩ := iset r1 h.res.len.symm bb (-1)
  have e1 : out.getD p.place.toNat 0 = d := by rw [← hb, List.getD_eq_getElem?_getD, hd]; rfl
  refine ⟨o1.kept g2 (.inr (by simp [Value.ownBlock]; exact h.ne)), o2, h.ne, b1.trans (own_below r1 g2 b1.size), ?_, ?_⟩
  · have := h.fil.step hW hp
    rw [e1, ← hb] at this; exact this
  · have := h.res.step hW hp
    rw [← hb] at this; exact this

set_option maxHeartbeats 4000000 in
set_option maxRecDepth 100000 in
theorem rshares_any (amount : Int) (a : Option Addr) (n cap : Nat) (ws : List Int) (S : List Pty) (w : World) (h : Sl icod w a n cap ws) (hmay : shMay amount ws = true) (hP : S.Perm (ptys amount ws.sum ws)) (hW : Whole S n) :
    Calls Try.prog 13 #[.int .i64 amount, .slice a n cap] w fun e w' => ∃ v out, e = .returned v ∧ V.Own 3 icod w.heap.size w' v out ∧ Filled S n (leftE amount ws.sum ws).toNat out ∧ RowKit.Below w.heap.size w w' := by
  have mixed : Try.prog.follows .mixedOrders = true := by kernel_rfl
  obtain ⟨y1, y2, y3, y4⟩ := may_ok hmay
  have HLEN := Lib.hid h.hlen
  have HH := Lib.hid h
  have HP := Lib.hid hP
  have HW := Lib.hid hW
  have HY2 := Lib.hid y2
  have hn : n ≤ 64 := by have := h.hlen; omega
  obtain ⟨am0, am1⟩ := y3
  have hsum := sum_in y2
  obtain ⟨al, hal⟩ : ∃ al, ws.sum = al := ⟨_, rfl⟩
  rw [hal] at y4 hsum
  have HAL := Lib.hid hal
  have hal2 : al ≤ 274877906944 := by omega
  have HX0 : Hid (∀ x ∈ ws, 0 ≤ x ∧ x ≤ 4294967296 ∧ x ≤ al) := fun x hx => by
    have := mem_sum HY2.out hx
    rw [HAL.out] at this; exact this
  rw [hal]
  clear h hmay hP hW y1 y2 hal hsum
  go_enter Try.func13, Try.ntmps13
  go_wp2_with fail
  go_loop [5, 6] (fun s i => ∃ k : Nat, i = .int .i64 k ∧ k ≤ n ∧ ∃ s1 : Int, s = .int .i64 s1 ∧ Hid (s1 = (ws.take k).sum)) (fun _ i => n - (intOf i).toNat)
  case atStart => exact ⟨0, rfl, by omega, 0, rfl, rfl⟩
  case round =>
    obtain ⟨k, rfl, hk, s1, rfl, HS⟩ := hrel
    have hs2 := sum_in (xs := ws.take k) (by
      have := HY2.out
      rw [List.all_eq_true] at this ⊢
      exact fun x hx => this x (List.mem_of_mem_take hx))
    rw [← HS.out, List.length_take] at hs2
    have hs3 : 0 ≤ s1 ∧ s1 ≤ 274877906944 := by omega
    clear hs2
    by_cases hlt : k < n
    · obtain ⟨b, off, x, rfl, hbl, hx, hcx⟩ := int_at HH.out hlt
      have HX := Lib.hid hx
      have hxx := HX0.out x (List.mem_of_getElem? hx)
      have hki : (k : Int) < (n : Int) := by omega
      clear hx
      go_wp2_with fail
      go_round
      case rel => exact ⟨k + 1, by go_num, by omega, _, rfl, by show _ = _; rw [sum_snoc HX.out, ← HS.out]⟩
      case measure => simp [intOf] <;> omega
    · have hkn : k = n := by omega
      subst hkn
      have hz : s1 = al := by
        have := HS.out
        rw [List.take_of_length_le (by have := HLEN.out; omega), HAL.out] at this
        exact this
      subst hz
      clear HS hs3
      go_wp2_with fail
      go_loopw [7, 8, 9, 10] (fun v u l i wr => ∃ j : Nat, i = .int .i64 j ∧ j ≤ k ∧ Hid (V.Own 3 icod w.heap.size wr v (qsE amount s1 (ws.take j))) ∧ Hid (V.Own 3 icod w.heap.size wr u (rsE amount s1 (ws.take j))) ∧ Hid (Apart v u) ∧ (∃ lv : Int, l = .int .i64 lv ∧ Hid (lv = leftE amount s1 (ws.take j))) ∧ Hid (RowKit.Below w.heap.size w wr)) (fun _ _ _ i _ => k - (intOf i).toNat)
      case atStart => exact ⟨0, by go_num, by omega, Own.nil, Own.nil, Apart.nil, ⟨amount, rfl, by show _ = _; unfold leftE; simp⟩, Below.refl _ _⟩
      case round =>
        obtain ⟨j, rfl, hj, HO, HU, HAP, ⟨lv, rfl, HLV⟩, HBr⟩ := hrel
        have hlv : -2199023255552 ≤ lv ∧ lv ≤ 34359738368 := by
          have h1 := left_in (ws := ws.take j) am0 y4 (fun x hx => by have := HX0.out x (List.mem_of_mem_take hx); omega)
          rw [← HLV.out, List.length_take] at h1
          have h2 : ((min j ws.length : Nat) : Int) * amount ≤ 64 * amount := Int.mul_le_mul_of_nonneg_right (by omega) am0
          omega
        by_cases hlt2 : j < k
        · obtain ⟨b, off, x, rfl, hbl, hx, hcx⟩ := int_at (HH.out.below HBr.out) hlt2
          obtain ⟨x0, x1, x2⟩ := HX0.out x (List.mem_of_getElem? hx)
          have HX := Lib.hid hx
          have hji : (j : Int) < (k : Int) := by omega
          have HLQ : Hid ((qsE amount s1 (ws.take j)).length = j ∧ (rsE amount s1 (ws.take j)).length = j) := by
            unfold qsE rsE
            refine ⟨?_, ?_⟩ <;> (rw [List.length_map, List.length_take]; have := HLEN.out; omega)
          have HM1 : Hid ((qsE amount s1 (ws.take j)).length + 1 ≤ maxLen) := by show _ ≤ _; rw [HLQ.out.1]; unfold maxLen; omega
          have HM2 : Hid (((qsE amount s1 (ws.take j)).length + 1) * 8 ≤ 140737488355328) := by show _ ≤ _; rw [HLQ.out.1]; omega
          have HM3 : Hid ((rsE amount s1 (ws.take j)).length + 1 ≤ maxLen) := by show _ ≤ _; rw [HLQ.out.2]; unfold maxLen; omega
          have HM4 : Hid (((rsE amount s1 (ws.take j)).length + 1) * 8 ≤ 140737488355328) := by show _ ≤ _; rw [HLQ.out.2]; omega
          obtain ⟨tq0, tq1, -, -⟩ := tms_in (A := amount) am0 x0 x2 y4
          obtain ⟨q, hq⟩ : ∃ q, tmsQ amount x s1 = q := ⟨_, rfl⟩
          obtain ⟨r, hr⟩ : ∃ r, tmsR amount x s1 = r := ⟨_, rfl⟩
          have HQ : Hid (tmsQ amount x s1 = q ∧ tmsR amount x s1 = r) := ⟨hq, hr⟩
          rw [hq] at tq0 tq1
          clear hx hq hr
          go_wp2_with (first
            | (go_at_call 24; go_loud (refine (rtimes_any amount x s1 _ ⟨am0, am1⟩ ⟨x0, x1⟩ x2 ⟨y4, hal2⟩).mono ?_); rintro e w1 ⟨rfl, hb1⟩; rw [HQ.out.1, HQ.out.2]; have HO1 := Lib.hid (HO.out.below hb1); have HU1 := Lib.hid (HU.out.below hb1); have HB1 : Hid (RowKit.Below w.heap.size w w1) := HBr.out.trans (hb1.mono HBr.out.size); clear hb1)
            | (at_builtin; refine wpList_app_at eltI rfl (.tmp 44) (.tmp 46) rfl (base := w.heap.size) _ (qsE amount s1 (ws.take j)) rfl (HO1.out.alloc _) _ 1 1 [q] rfl (sl_new (c := icod) _ #[.int .i64 q] 3 [q] 1 rfl (by unfold maxLen; omega) rfl) HM1.out HM2.out (by have := HB1.out.size; simp; omega) ?_; intro v3 w3 ho hg hat; have HO3 := Lib.hid ho; have HU3 := Lib.hid ((HU1.out.alloc _).kept hg HAP.out.symm); have HAP3 := Lib.hid (HAP.out.next hat (HU1.out.alloc _)); have HB3 : Hid (RowKit.Below w.heap.size w w3) := (HB1.out.alloc HB1.out.size _).trans (own_below (HO1.out.alloc _) hg (by have := HB1.out.size; simp; omega)); clear ho hg hat)
            | (at_builtin; go_loud (refine wpList_app_at eltI rfl (.tmp 48) (.tmp 50) rfl (base := w.heap.size) _ (rsE amount s1 (ws.take j)) rfl (HU3.out.alloc _) _ 1 1 [r] rfl (sl_new (c := icod) _ #[.int .i64 r] 3 [r] 1 rfl (by unfold maxLen; omega) rfl) HM3.out HM4.out (by have := HB3.out.size; simp; omega) ?_); intro v4 w4 ho hg hat; have HU4 := Lib.hid ho; have HO4 := Lib.hid ((HO3.out.alloc _).kept hg HAP3.out); have HAP4 := Lib.hid ((HAP3.out.symm.next hat (HO3.out.alloc _)).symm); have HB4 : Hid (RowKit.Below w.heap.size w w4) := (HB3.out.alloc HB3.out.size _).trans (own_below (HU3.out.alloc _) hg (by have := HB3.out.size; simp; omega)); clear ho hg hat))
          go_roundw
          case rel => exact ⟨j + 1, by go_num, by omega, by unfold qsE; rw [map_snoc HX.out, HQ.out.1]; exact HO4.out, by unfold rsE; rw [map_snoc HX.out, HQ.out.2]; exact HU4.out, HAP4.out, ⟨_, rfl, by show _ = _; rw [left_snoc HX.out, HQ.out.1, ← HLV.out]⟩, HB4.out⟩
          case measure => simp [intOf] <;> omega
        · have hjk : k = j := by omega
          subst hjk
          have hk0 : 0 < k := by
            rcases Nat.eq_zero_or_pos k with e | e
            · exfalso
              have h1 := HLEN.out
              have h2 : ws = [] := List.eq_nil_of_length_eq_zero (by omega)
              have h3 := HAL.out
              rw [h2] at h3
              simp at h3; omega
            · exact e
          have HFT : Hid (ws.take k = ws) := List.take_of_length_le (by rw [← HLEN.out]; exact Nat.le_refl _)
          have ho0 := HO.out
          have hu0 := HU.out
          rw [HFT.out] at ho0 hu0
          have hq0 : (qsE amount s1 ws).length = k := by unfold qsE; rw [List.length_map, HLEN.out]
          have hr0 : (rsE amount s1 ws).length = k := by unfold rsE; rw [List.length_map, HLEN.out]
          obtain ⟨o, oc, cur, hv, hob, -⟩ := own_ne ho0 (by intro e; have := congrArg List.length e; rw [hq0] at this; simp at this; omega)
          obtain ⟨g, gc, cur2, hu, hgb, -⟩ := own_ne hu0 (by intro e; have := congrArg List.length e; rw [hr0] at this; simp at this; omega)
          rw [hq0] at hv
          rw [hr0] at hu
          subst hv hu
          have hog : o ≠ g := by
            rcases HAP.out with e | e
            · cases e
            · exact fun q => e (by rw [q]; rfl)
          have HL0 : Hid (lv = leftE amount s1 ws) := by
            have := HLV.out
            rwa [HFT.out] at this
          have hl0 := left_lt (amount := amount) (ws := ws) y4 HAL.out.symm
          rw [← HL0.out] at hl0
          obtain ⟨lv0, lv1⟩ := hl0
          obtain ⟨L, rfl⟩ : ∃ L : Nat, lv = L := ⟨lv.toNat, by omega⟩
          have hLk : L < k := by
            have := lv1 (by intro e; have := HLEN.out; rw [e] at this; simp at this; omega)
            have := HLEN.out; omega
          have hst := start_of HP.out
          rw [HAL.out, ← HLEN.out] at hst
          have HRS : Hid (RS w wr o oc g gc k 0 S (qsE amount s1 ws) (rsE amount s1 ws)) := ⟨ho0, hu0, hog, HBr.out, hst.1, hst.2⟩
          clear ho0 hu0 HO HU HAP hst hq0 hr0 HLV lv0 lv1 hlv HBr
          go_wp2_with fail
          go_loopw [9] (fun l wr => ∃ t out rests, l = .int .i64 ((L : Int) - ((t : Nat) : Int)) ∧ t ≤ L ∧ Hid (RS w wr o oc g gc k t S out rests)) (fun l _ => (intOf l).toNat)
          case atStart => exact ⟨0, _, _, by go_num, by omega, HRS.out⟩
          case round =>
            clear HRS
            obtain ⟨t, out, rests, rfl, ht, HRS⟩ := hrel
            by_cases hlt3 : t < L
            · obtain ⟨p, hp⟩ : ∃ p, S[t]? = some p := ⟨_, List.getElem?_eq_getElem (by rw [HW.out.len]; omega)⟩
              obtain ⟨p0, p1, -⟩ := HW.out.low t p hp
              have HP9 := Lib.hid hp
              have HAM := Lib.hid (amax_next HW.out HRS.out.res hp)
              clear hp
              have hl3 : 0 < (L : Int) - (t : Int) := by omega
              have hl4 : (1 : Int) ≤ (L : Int) - (t : Int) := by omega
              have HRL : Hid (k = rests.length) := HRS.out.res.len.symm
              have HOL : Hid (k = out.length) := HRS.out.fil.len.symm
              obtain ⟨m, hm⟩ : ∃ m : Int, (L : Int) - (t : Int) = m := ⟨_, rfl⟩
              have HMM := Lib.hid hm
              have hm2 : m ≤ 64 := by omega
              rw [hm] at hl3 hl4 ⊢
              clear hm
              go_wp2_with fail
              go_loopw [13, 14] (fun b i wq => ∃ j bb : Nat, i = .int .i64 ((j : Nat) : Int) ∧ 1 ≤ j ∧ j ≤ k ∧ b = .int .i64 ((bb : Nat) : Int) ∧ Hid (bb = amax rests j) ∧ Hid (RS w wq o oc g gc k t S out rests)) (fun _ i _ => k - (intOf i).toNat)
              case atStart => exact ⟨1, 0, by go_num, by omega, by omega, by go_num, rfl, HRS.out⟩
              case round =>
                clear HRS
                obtain ⟨j, bb, rfl, hj1, hj, rfl, HBB, HRS⟩ := hrel
                have hbj : bb < j := by rw [HBB.out]; exact amax_lt rests j (by omega)
                by_cases hlt4 : j < k
                · obtain ⟨dj, hdj, q0, -, hgl⟩ := icells HRS.out.rw_ HRL.out hlt4
                  obtain ⟨db, hdb, r0, -, -⟩ := icells HRS.out.rw_ HRL.out (show bb < k by omega)
                  have hji : (j : Int) < (k : Int) := by omega
                  have hbi : (bb : Int) < (k : Int) := by omega
                  have HD : Hid (rests.getD (amax rests j) 0 = db ∧ rests.getD j 0 = dj) := by
                    rw [← HBB.out]
                    exact ⟨by rw [List.getD_eq_getElem?_getD, hdb]; rfl, by rw [List.getD_eq_getElem?_getD, hdj]; rfl⟩
                  clear hdj hdb
                  by_cases hgt : db < dj
                  · go_wp2_with fail
                    go_quiet (fail)
                    go_wp2_with fail
                    go_roundw
                    case rel => exact ⟨j + 1, j, by go_num, by omega, by omega, by go_num, amax_t HD.out hj1 (by omega), HRS.out.below (by first | exact below_drewN (Below.refl _ _) _ | exact Below.drew (Below.refl _ _))⟩
                    case measure => simp [intOf] <;> omega
                  · have hgd : decide (db < dj) = false := decide_eq_false hgt
                    go_wp2_with fail
                    go_quiet (fail)
                    go_wp2_with fail
                    go_roundw
                    case rel => exact ⟨j + 1, bb, by go_num, by omega, by omega, by go_num, HBB.out.trans (amax_f HD.out hj1 (by omega)), HRS.out.below (by first | exact below_drewN (Below.refl _ _) _ | exact Below.drew (Below.refl _ _))⟩
                    case measure => simp [intOf] <;> omega
                · have hjk4 : k = j := by omega
                  subst hjk4
                  have hbp : bb = p.place.toNat := HBB.out.trans HAM.out
                  have hbk : bb < k := hbj
                  obtain ⟨d, hd, q0, qf, hol⟩ := icells HRS.out.ow HOL.out hbk
                  obtain ⟨d2, hd2, r0, rf, hgl⟩ := icells HRS.out.rw_ HRL.out hbk
                  have hds : 0 ≤ d ∧ d ≤ amount := by
                    have h1 := HRS.out.fil.at_ t p HP9.out
                    rw [← hbp, hd, if_neg (by omega)] at h1
                    have h2 := ptys_share am0 y4 HX0.out (p := p) (by have := HP.out.mem_iff.1 (List.mem_of_getElem? HP9.out); rwa [HAL.out] at this)
                    have h3 := Option.some.inj h1
                    omega
                  have HST := Lib.hid (HRS.out.step HW.out HP9.out hbp hd)
                  have hbi : (bb : Int) < (k : Int) := by omega
                  have hne1 : o ≠ g := hog
                  have hne2 : g ≠ o := fun e => hog e.symm
                  clear hd hd2 hbp
                  go_wp2_with fail
                  go_roundw
                  case rel => exact ⟨t + 1, _, _, (by have := HMM.out; show Value.int .i64 _ = Value.int .i64 _; congr 1; omega), by omega, HST.out⟩
                  case measure => simp [intOf] <;> omega
            · have htl : t = L := by omega
              subst htl
              have hz0 : (t : Int) - (t : Int) = 0 := by omega
              go_wp2_with fail
              go_ret
              have hf := HRS.out.fil
              refine ⟨_, out, rfl, HRS.out.ow, ?_, HRS.out.bel⟩
              rw [← HL0.out, Int.toNat_natCast]; exact hf
end Go.Proofs.Ytgfakkkiejeofaa.Ap

namespace Go.Proofs.Ytgfakkkiejeofaa.Ap
open Go.RowKit Go.V Go.Proofs Go.Sort Go.Shelf

def leP (p q : Pty) : Bool := !ltOf cmpP q p
theorem leP_iff (p q : Pty) : leP p q = true ↔ ¬ ltP q p := by
  unfold leP
  rw [Bool.not_eq_true', ← Bool.not_eq_true, cmpP_lt]
/-- The parties in order. -/
def sortP (amount all : Int) (ws : List Int) : List Pty := (ptys amount all ws).mergeSort leP
theorem sortP_perm (amount all : Int) (ws : List Int) : (sortP amount all ws).Perm (ptys amount all ws) := List.mergeSort_perm _ _
theorem sortP_whole {amount all : Int} (ws : List Int) (h0 : 0 < all) : Whole (sortP amount all ws) ws.length := by
  refine whole_of (sortP_perm amount all ws) h0 (fun i j p q hi hj hij => ?_)
  have h := List.pairwise_mergeSort (le := leP) (fun a b c h1 h2 => by
    rw [leP_iff] at h1 h2 ⊢
    unfold ltP at *; omega) (fun a b => by
    rw [Bool.or_eq_true, leP_iff, leP_iff]
    unfold ltP; omega) (ptys amount all ws)
  rw [List.pairwise_iff_getElem] at h
  obtain ⟨x1, e1⟩ := List.getElem?_eq_some_iff.1 hi
  obtain ⟨x2, e2⟩ := List.getElem?_eq_some_iff.1 hj
  have := h i j x1 x2 hij
  rw [leP_iff] at this
  have e1 : ((ptys amount all ws).mergeSort leP)[i]'x1 = p := e1
  have e2 : ((ptys amount all ws).mergeSort leP)[j]'x2 = q := e2
  rw [e1, e2] at this; exact this
def fillE (S : List Pty) : Nat → List Int → List Int
  | 0, out => out
  | t + 1, out => match S[t]? with
    | some p => (fillE S t out).set p.place.toNat ((fillE S t out).getD p.place.toNat 0 + 1)
    | none => fillE S t out
theorem fillE_ok {S : List Pty} {n : Nat} (hW : Whole S n) {out : List Int} (h : Filled S n 0 out) : ∀ t, t ≤ n → Filled S n t (fillE S t out) ∧ (fillE S t out).sum = out.sum + t
  | 0, _ => ⟨h, by simp [fillE]⟩
  | t + 1, ht => by
    obtain ⟨i1, i2⟩ := fillE_ok hW h t (by omega)
    have hp : S[t]? = some (S[t]'(by rw [hW.len]; omega)) := List.getElem?_eq_getElem (by rw [hW.len]; omega)
    obtain ⟨p0, p1, p2⟩ := hW.low t _ hp
    have e : fillE S (t + 1) out = (fillE S t out).set (S[t]'(by rw [hW.len]; omega)).place.toNat ((fillE S t out).getD (S[t]'(by rw [hW.len]; omega)).place.toNat 0 + 1) := by
      show (match S[t]? with | some p => _ | none => _) = _
      rw [hp]
    rw [e]
    refine ⟨i1.step hW hp, ?_⟩
    have hs : ∀ (l : List Int) (j : Nat) (v : Int), j < l.length → (l.set j v).sum = l.sum - l.getD j 0 + v := by
      intro l
      induction l with
      | nil => intro j v hj; simp at hj
      | cons x l ih =>
        intro j v hj
        cases j with
        | zero => simp; omega
        | succ j =>
          have := ih j v (by simpa using hj)
          simp only [List.set_cons_succ, List.sum_cons, List.getD_cons_succ]
          omega
    rw [hs _ _ _ (by rw [i1.len]; omega), i2]
    omega
def shareE (amount : Int) (ws : List Int) : List Int := fillE (sortP amount ws.sum ws) (leftE amount ws.sum ws).toNat (qsE amount ws.sum ws)

theorem rest_sum {amount all : Int} {ws : List Int} (ha : all = ws.sum) : leftE amount all ws * all = (ws.map fun w => amount * w % all).sum := by
  have h1 : ∀ l : List Int, (l.map fun w => amount * w / all).sum * all + (l.map fun w => amount * w % all).sum = amount * l.sum := by
    intro l
    induction l with
    | nil => simp
    | cons x l ih =>
      simp only [List.map_cons, List.sum_cons]
      have := Int.mul_ediv_add_emod (amount * x) all
      rw [Int.mul_comm all] at this
      rw [Int.mul_add, ← ih, Int.add_mul]; omega
  have h3 := h1 ws
  unfold leftE
  rw [Int.sub_mul]
  rw [← ha] at h3
  omega
theorem perm_sum : ∀ {l m : List Int}, l.Perm m → l.sum = m.sum := by
  intro l m h
  induction h with
  | nil => rfl
  | cons x _ ih => rw [List.sum_cons, List.sum_cons, ih]
  | swap x y l => simp only [List.sum_cons]; omega
  | trans _ _ i1 i2 => rw [i1, i2]

structure ShareOk (amount : Int) (ws out : List Int) : Prop where
  fill : Filled (sortP amount ws.sum ws) ws.length (leftE amount ws.sum ws).toNat out
  whole : Whole (sortP amount ws.sum ws) ws.length
  sum : out.sum = amount
  left : 0 ≤ leftE amount ws.sum ws ∧ (leftE amount ws.sum ws).toNat < ws.length
theorem shareE_ok {amount : Int} {ws : List Int} (h : shMay amount ws = true) : ShareOk amount ws (shareE amount ws) := by
  obtain ⟨y1, y2, y3, y4⟩ := may_ok h
  have hW := sortP_whole (amount := amount) ws y4
  obtain ⟨l1, l2⟩ := left_lt (amount := amount) y4 rfl
  have hne : ws ≠ [] := by rintro rfl; simp at y4
  have hl := l2 hne
  have hF := (start_of (sortP_perm amount ws.sum ws)).1
  obtain ⟨f1, f2⟩ := fillE_ok hW hF (leftE amount ws.sum ws).toNat (by omega)
  refine ⟨f1, hW, ?_, l1, by omega⟩
  show (fillE _ _ _).sum = _
  rw [f2]
  have : (qsE amount ws.sum ws).sum = (ws.map fun w => amount * w / ws.sum).sum := rfl
  unfold leftE at l1 ⊢
  omega
section
variable {amount : Int} {ws out : List Int}
/-- What is found at a place. -/
theorem ShareOk.at_ (h : ShareOk amount ws out) {k : Nat} (hk : k < ws.length) : ∃ i, (sortP amount ws.sum ws)[i]? = some (ptyAt amount ws.sum k ws[k]) ∧ out[k]? = some (amount * ws[k] / ws.sum + if i < (leftE amount ws.sum ws).toNat then 1 else 0) := by
  obtain ⟨i, p, hi, hp⟩ := h.whole.all k hk
  have hm := (sortP_perm amount ws.sum ws).mem_iff.1 (List.mem_of_getElem? hi)
  obtain ⟨k2, hk2, hkp⟩ := List.mem_iff_getElem.1 hm
  have e : (ptys amount ws.sum ws)[k2]? = some p := by rw [List.getElem?_eq_getElem hk2, hkp]
  rw [ptys_get] at e
  have hlen : k2 < ws.length := by rw [ptys_len] at hk2; exact hk2
  rw [List.getElem?_eq_getElem hlen] at e
  have e := (Option.some.inj e).symm
  have : k2 = k := by rw [e] at hp; have : (k2 : Int) = k := hp; omega
  subst this
  rw [e] at hi
  refine ⟨i, hi, ?_⟩
  have := h.fill.at_ i _ hi
  simpa [ptyAt] using this
theorem ShareOk.len (h : ShareOk amount ws out) : out.length = ws.length := h.fill.len
/-- Who has no weight gets nothing. -/
theorem ShareOk.none (h : ShareOk amount ws out) (hm : shMay amount ws = true) {k : Nat} (hk : k < ws.length) (h0 : ws[k] = 0) : out[k]? = some 0 := by
  obtain ⟨y1, y2, y3, y4⟩ := may_ok hm
  obtain ⟨i, hi, ho⟩ := h.at_ hk
  rw [ho, h0]
  have hlt : ¬ i < (leftE amount ws.sum ws).toNat := by
    intro hlt
    obtain ⟨l1, l2⟩ := h.left
    have hrest : ∀ j p, i ≤ j → (sortP amount ws.sum ws)[j]? = some p → p.rest = 0 := by
      intro j p hij hj
      obtain ⟨q0, q1, q2⟩ := h.whole.low j p hj
      by_cases e : i = j
      · subst e
        rw [hj] at hi
        have := Option.some.inj hi
        rw [this, h0]; show amount * 0 % ws.sum = 0; simp
      · have hs := h.whole.sorted i j _ p hi hj (by omega)
        have hr : (ptyAt amount ws.sum k ws[k]).rest = 0 := by rw [h0]; show amount * 0 % ws.sum = 0; simp
        unfold ltP at hs; omega
    have hsum : ((sortP amount ws.sum ws).map fun p => p.rest).sum = leftE amount ws.sum ws * ws.sum := by
      rw [rest_sum rfl, perm_sum ((sortP_perm amount ws.sum ws).map fun p => p.rest)]
      congr 1
      apply List.ext_getElem?
      intro j
      rw [List.getElem?_map, List.getElem?_map, ptys_get]
      cases ws[j]? <;> rfl
    have hb : ∀ (S : List Pty) (i : Nat), (∀ j p, i ≤ j → S[j]? = some p → p.rest = 0) → (∀ p ∈ S, p.rest ≤ ws.sum - 1) → (S.map fun p => p.rest).sum ≤ i * (ws.sum - 1) := by
      intro S
      induction S with
      | nil => intro i _ _; have := Int.mul_nonneg (show (0 : Int) ≤ (i : Int) by omega) (show 0 ≤ ws.sum - 1 by omega); simpa using this
      | cons x S ih =>
        intro i h1 h2
        rw [List.map_cons, List.sum_cons]
        cases i with
        | zero =>
          have a := h1 0 x (by omega) rfl
          have b := ih 0 (fun j p _ hj => h1 (j + 1) p (by omega) (by simpa using hj)) (fun p hp => h2 p (by simp [hp]))
          simp at b ⊢; omega
        | succ i =>
          have a := h2 x (by simp)
          have b := ih i (fun j p hij hj => h1 (j + 1) p (by omega) (by simpa using hj)) (fun p hp => h2 p (by simp [hp]))
          have c : ((i + 1 : Nat) : Int) * (ws.sum - 1) = i * (ws.sum - 1) + (ws.sum - 1) := by rw [Int.natCast_add, Int.add_mul]; simp
          omega
    have hb2 := hb _ i hrest (fun p hp => by
      have hm := (sortP_perm amount ws.sum ws).mem_iff.1 hp
      obtain ⟨k2, hk2, hkp⟩ := List.mem_iff_getElem.1 hm
      have e : (ptys amount ws.sum ws)[k2]? = some p := by rw [List.getElem?_eq_getElem hk2, hkp]
      rw [ptys_get, List.getElem?_eq_getElem (by rw [ptys_len] at hk2; exact hk2)] at e
      have e := (Option.some.inj e).symm
      rw [e]
      have := Int.emod_lt_of_pos (amount * ws[k2]'(by rw [ptys_len] at hk2; exact hk2)) y4
      show _ % _ ≤ _
      omega)
    rw [hsum] at hb2
    have h5 : ((i : Int) + 1) * ws.sum ≤ leftE amount ws.sum ws * ws.sum := Int.mul_le_mul_of_nonneg_right (by omega) (by omega)
    rw [Int.add_mul] at h5
    rw [Int.mul_sub] at hb2
    omega
  rw [if_neg hlt]
  simp
/-- All get something that is not below 0; who has no less weight gets no less, but for one unit. -/
theorem ShareOk.mono (h : ShareOk amount ws out) (hm : shMay amount ws = true) {i k : Nat} (hi : i < ws.length) (hk : k < ws.length) : ∃ x y, out[i]? = some x ∧ out[k]? = some y ∧ 0 ≤ x ∧ x ≤ amount + 1 ∧ (ws[i] ≤ ws[k] → x - 1 ≤ y) := by
  obtain ⟨y1, y2, y3, y4⟩ := may_ok hm
  obtain ⟨i', hi', ho⟩ := h.at_ hi
  obtain ⟨k', hk', hq⟩ := h.at_ hk
  have hw : ∀ j (hj : j < ws.length), 0 ≤ ws[j] ∧ ws[j] ≤ ws.sum := fun j hj => by
    have := mem_sum y2 (List.getElem_mem hj); omega
  have w1 := hw i hi
  have w2 := hw k hk
  have d1 := Int.ediv_nonneg (Int.mul_nonneg y3.1 w1.1) (show 0 ≤ ws.sum by omega)
  have d2 : amount * ws[i] / ws.sum ≤ amount := by
    have e := Int.mul_le_mul_of_nonneg_left w1.2 y3.1
    have := Int.ediv_le_ediv y4 e
    rw [Int.mul_ediv_cancel _ (by omega)] at this; exact this
  refine ⟨_, _, ho, hq, ?_, ?_, fun hle => ?_⟩
  · split <;> omega
  · split <;> omega
  · have e := Int.mul_le_mul_of_nonneg_left hle y3.1
    have := Int.ediv_le_ediv y4 e
    split <;> split <;> omega
end
end Go.Proofs.Ytgfakkkiejeofaa.Ap
