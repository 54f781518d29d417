/- Months: one more, by the document, walked. -/
import Derived.Test.YtbdkhgenkekioaaMoD
import Derived.Test.YtbdkhgenkekioaaMoF
import Derived.Test.YtbdkhgenkekioaaMoH
namespace Go.Proofs.Ytbdkhgenkekioaa
open Go.RowKit Go.V Go.Sort Go.Shelf Go.Proofs Go.Maps
open Go.Proofs.Ytbdkhgenkekioaa.Ne (box_alloc box_new box_cell box_below box_lt box2_cells)

theorem MonIn.nil (w : World) : MonIn w none 0 0 [] [] := ⟨⟨rfl, by omega, by unfold maxLen; omega, fun _ => ⟨rfl, rfl⟩, fun d hd => nomatch hd⟩, rfl, fun i h m h1 => by simp at h1⟩
/-- Where it goes: ahead of the first one that it is ahead of. -/
def posM (m : Mon) : List Mon → Nat
  | [] => 0
  | x :: l => if aheadM m x then 0 else posM m l + 1
theorem posM_le (m : Mon) : ∀ l, posM m l ≤ l.length
  | [] => Nat.le_refl _
  | x :: l => by
    unfold posM
    split
    · simp
    · have := posM_le m l; simp; omega
theorem posM_lt (m : Mon) : ∀ (l : List Mon) (k : Nat) (x : Mon), l[k]? = some x → k < posM m l → ¬ aheadM m x
  | [], k, x, h, _ => by simp at h
  | y :: l, 0, x, h, hk => by
    simp at h; subst h
    intro q
    unfold posM at hk
    rw [if_pos q] at hk; omega
  | y :: l, k + 1, x, h, hk => by
    unfold posM at hk
    split at hk
    · omega
    · exact posM_lt m l k x (by simpa using h) (by omega)
theorem posM_at (m : Mon) : ∀ (l : List Mon) (x : Mon), l[posM m l]? = some x → aheadM m x
  | [], x, h => by simp [posM] at h
  | y :: l, x, h => by
    unfold posM at h
    split at h
    · simp at h; subst h; assumption
    · exact posM_at m l x (by simpa using h)
def insM (m : Mon) (ms : List Mon) : List Mon := ms.take (posM m ms) ++ m :: ms.drop (posM m ms)
def begE (ms : List Mon) (m : Mon) : Int := if OneM m then (if 0 ≤ findM ms m.a m.m then 0 else if ms.length = 4096 then 3 else 0) else 2
noncomputable def begRE (ms : List Mon) (m : Mon) : Int := if RightM ms then begE ms m else 2
noncomputable def begR (ms : List Mon) (m : Mon) : List Mon := if begRE ms m = 0 then (if 0 ≤ findM ms m.a m.m then ms else insM m ms) else []
theorem right_one (m : Mon) : RightM [m] ↔ OneM m := by
  constructor
  · intro h
    exact (h.2 0 m (by simp) rfl).1
  · intro h
    refine ⟨by simp, fun i x hi hx => ?_⟩
    have e : i = 0 := by simp at hi; omega
    subst e
    simp at hx; subst hx
    exact ⟨h, fun j p e => by omega⟩
/-- One month in a block of its own. -/
theorem mon_new (w : World) (m : Mon) (h : Hdr) (hr : Sl Ride.cod w h.a h.n h.cap m.rides) : MonIn (w.alloc (.cells (m.box h) 27)) (some ⟨w.heap.size, 0, none⟩) 1 1 [h] [m] :=
  ⟨sl_new (c := MH.cod) w (m.box h) 27 [m.hd h] 1 rfl (by unfold maxLen; omega) rfl, rfl, fun i q x h1 h2 => by
    have e : i = 0 := by have := (List.getElem?_eq_some_iff.1 h1).1; simp at this; omega
    subst e
    simp at h1 h2; subst h1; subst h2
    exact hr.below ((Below.refl _ _).alloc (Nat.le_refl _) _)⟩

theorem MonIn.ins {w : World} {a a' : Option Addr} {n cap n' c' : Nat} {hs : List Hdr} {ms : List Mon} {m : Mon} {h : Hdr} {j : Nat} (hin : MonIn w a n cap hs ms) (hr : Sl Ride.cod w h.a h.n h.cap m.rides) (hsl : Sl MH.cod w a' n' c' ((List.zipWith Mon.hd ms hs).take j ++ m.hd h :: (List.zipWith Mon.hd ms hs).drop j)) :
    MonIn w a' n' c' (hs.take j ++ h :: hs.drop j) (ms.take j ++ m :: ms.drop j) := by
  have hl := hin.len
  refine ⟨?_, by simp [hl], fun i x y h1 h2 => ?_⟩
  · have e : List.zipWith Mon.hd (ms.take j ++ m :: ms.drop j) (hs.take j ++ h :: hs.drop j) = (List.zipWith Mon.hd ms hs).take j ++ m.hd h :: (List.zipWith Mon.hd ms hs).drop j := by
      rw [List.zipWith_append (by simp [hl]), List.zipWith_cons_cons, List.take_zipWith, List.drop_zipWith]
    rw [e]; exact hsl
  · have l1 : (hs.take j).length = (ms.take j).length := by simp [hl]
    by_cases hi : i < (hs.take j).length
    · rw [List.getElem?_append_left hi] at h1
      rw [List.getElem?_append_left (by omega)] at h2
      have hij : i < j := by rw [List.length_take] at hi; omega
      rw [List.getElem?_take_of_lt hij] at h1 h2
      exact hin.each i x y h1 h2
    · rw [List.getElem?_append_right (by omega)] at h1 h2
      rw [← l1] at h2
      obtain ⟨q, hq⟩ : ∃ q, i - (hs.take j).length = q := ⟨_, rfl⟩
      rw [hq] at h1 h2
      cases q with
      | zero => simp at h1 h2; subst h1; subst h2; exact hr
      | succ q =>
        simp only [List.getElem?_cons_succ, List.getElem?_drop] at h1 h2
        exact hin.each _ x y h1 h2
def outL (X : List MH) (q : MH) (j k : Nat) : List MH := if k ≤ j then X.take k else X.take j ++ q :: (X.drop j).take (k - j)
theorem outL_len (X : List MH) (q : MH) (j k : Nat) : (outL X q j k).length ≤ k + 1 := by
  unfold outL
  split
  · simp; omega
  · simp; omega
theorem outL_lt {X : List MH} {q x : MH} {j k : Nat} (hk : k < j) (hx : X[k]? = some x) : outL X q j (k + 1) = outL X q j k ++ [x] := by
  unfold outL
  rw [if_pos (by omega), if_pos (by omega), take_at hx]
theorem outL_eq {X : List MH} {q x : MH} {j : Nat} (hx : X[j]? = some x) : outL X q j (j + 1) = (outL X q j j ++ [q]) ++ [x] := by
  unfold outL
  rw [if_neg (by omega), if_pos (Nat.le_refl _), drop_at hx]
  simp
theorem outL_gt {X : List MH} {q x : MH} {j k : Nat} (hk : j < k) (hx : X[k]? = some x) : outL X q j (k + 1) = outL X q j k ++ [x] := by
  unfold outL
  have h1 : (X.drop j)[k - j]? = some x := by rw [List.getElem?_drop, show j + (k - j) = k by omega]; exact hx
  rw [if_neg (by omega), if_neg (by omega), show k + 1 - j = (k - j) + 1 by omega, take_at h1]
  simp

set_option maxHeartbeats 8000000 in
set_option maxRecDepth 100000 in
theorem rmbegin_any (a : Option Addr) (n cap : Nat) (hs : List Hdr) (ms : List Mon) (m : Mon) (h : Hdr) (w : World) (hn : n ≤ 1000000) (hl : ∀ m ∈ ms, m.rides.length ≤ 1000000) (hml : m.rides.length ≤ 1000000) (h0 : MonIn w a n cap hs ms) (hr : Sl Ride.cod w h.a h.n h.cap m.rides) :
    Calls Try.prog 12 #[.slice a n cap, .agg (m.box h)] w fun e w' => ∃ a' c' hs', e = .returned (.tuple #[.slice a' (begR ms m).length c', .int .i64 (begRE ms m)]) ∧ MonIn w' a' (begR ms m).length c' hs' (begR ms m) ∧ Below w.heap.size w w' := by
  have mixed : Try.prog.follows .mixedOrders = true := by kernel_rfl
  have HN := Lib.hid h0.n_eq
  obtain ⟨ha, hnn, hc⟩ := h
  have X0 : Hid ((w.alloc (.cells (m.box ⟨ha, hnn, hc⟩) 27)).heap[w.heap.size]? = some (.cells (m.box ⟨ha, hnn, hc⟩) 27 (0, 0))) := box_new w _
  have B0 : Hid (Below w.heap.size w (w.alloc (.cells (m.box ⟨ha, hnn, hc⟩) 27))) := (Below.refl _ _).alloc (Nat.le_refl _) _
  unfold Mon.box at X0 B0
  obtain ⟨p1, hp1⟩ : ∃ p, decide (RightM ms) = p := ⟨_, rfl⟩
  obtain ⟨p2, hp2⟩ : ∃ p, decide (RightM [m]) = p := ⟨_, rfl⟩
  have HP : Hid (decide (RightM ms) = p1 ∧ decide (RightM [m]) = p2) := ⟨hp1, hp2⟩
  have hone : ∀ x ∈ [m], x.rides.length ≤ 1000000 := fun x hx => by rw [List.mem_singleton.1 hx]; exact hml
  unfold Mon.box
  cases p1 with
  | false =>
    have e1 : begRE ms m = 2 := by unfold begRE; rw [if_neg (of_decide_eq_false hp1)]
    have e2 : begR ms m = [] := by unfold begR; rw [if_neg (by rw [e1]; decide)]
    rw [e1, e2]
    clear hp1 hp2 e1 e2
    go_enter Try.func12, Try.ntmps12
    go_wp2_with (go_at_call 10; refine (rmright_any a n cap hs ms _ hn hl (h0.below B0.out)).mono ?_; rintro e w1 ⟨rfl, hb1⟩; rw [HP.out.1]; have HB1 := Lib.hid (B0.out.trans (hb1.mono B0.out.size)); clear hb1)
    go_ret2
    exact ⟨none, 0, [], rfl, MonIn.nil _, HB1.out⟩
  | true =>
    have hp1' := of_decide_eq_true hp1
    cases p2 with
    | false =>
      have e1 : begRE ms m = 2 := by unfold begRE begE; rw [if_pos hp1', if_neg (fun q => of_decide_eq_false hp2 ((right_one m).2 q))]
      have e2 : begR ms m = [] := by unfold begR; rw [if_neg (by rw [e1]; decide)]
      rw [e1, e2]
      clear hp1 hp2 hp1' e1 e2
      go_enter Try.func12, Try.ntmps12
      go_wp2_with (first
        | (go_at_call 10; go_fit (rmright_any a n cap hs ms _ hn hl (h0.below B0.out)); rintro e w1 ⟨rfl, hb1⟩; rw [HP.out.1]; have HB1 : Hid (Below w.heap.size w w1) := B0.out.trans (hb1.mono B0.out.size); have X1 := Lib.hid (box_below X0.out hb1); obtain ⟨y0, y1, y2, y3, y4, y5⟩ := box6_cells X1.out; have hz := box_lt X1.out; clear hb1)
        | (go_at_call 10; go_fit (rmright_any (some ⟨w1.heap.size, 0, none⟩) 1 1 [⟨ha, hnn, hc⟩] [m] _ (by omega) hone (mon_new w1 m ⟨ha, hnn, hc⟩ (hr.below HB1.out))); rintro e w2 ⟨rfl, hb2⟩; rw [HP.out.2]; have HB2 : Hid (Below w.heap.size w w2) := (HB1.out.alloc HB1.out.size _).trans (hb2.mono (HB1.out.alloc HB1.out.size _).size); clear hb2))
      go_ret2
      exact ⟨none, 0, [], rfl, MonIn.nil _, HB2.out⟩
    | true =>
      have hp2' := (right_one m).1 (of_decide_eq_true hp2)
      obtain ⟨F, hF⟩ : ∃ F, findM ms m.a m.m = F := ⟨_, rfl⟩
      have HF := Lib.hid hF
      have e0 : begRE ms m = if 0 ≤ F then 0 else if ms.length = 4096 then 3 else 0 := by unfold begRE begE; rw [if_pos hp1', if_pos hp2', hF]
      by_cases hpos : 0 ≤ F
      · rw [if_pos hpos] at e0
        have e2 : begR ms m = ms := by unfold begR; rw [if_pos e0, hF, if_pos hpos]
        rw [e0, e2]
        clear hp1 hp2 hp1' hp2' e0 e2 hF
        go_enter Try.func12, Try.ntmps12
        go_wp2_with (first
          | (go_at_call 10; go_fit (rmright_any a n cap hs ms _ hn hl (h0.below B0.out)); rintro e w1 ⟨rfl, hb1⟩; rw [HP.out.1]; have HB1 : Hid (Below w.heap.size w w1) := B0.out.trans (hb1.mono B0.out.size); have X1 := Lib.hid (box_below X0.out hb1); obtain ⟨y0, y1, y2, y3, y4, y5⟩ := box6_cells X1.out; have hz := box_lt X1.out; clear hb1)
          | (go_at_call 10; go_fit (rmright_any (some ⟨w1.heap.size, 0, none⟩) 1 1 [⟨ha, hnn, hc⟩] [m] _ (by omega) hone (mon_new w1 m ⟨ha, hnn, hc⟩ (hr.below HB1.out))); rintro e w2 ⟨rfl, hb2⟩; rw [HP.out.2]; have HB2 : Hid (Below w.heap.size w w2) := (HB1.out.alloc HB1.out.size _).trans (hb2.mono (HB1.out.alloc HB1.out.size _).size); have X2 := Lib.hid (box_below (box_alloc X1.out) hb2); clear hb2 y0 y1 y2 y3 y4 y5 hz; obtain ⟨y0, y1, y2, y3, y4, y5⟩ := box6_cells X2.out; have hz := box_lt X2.out)
          | (go_at_call 19; refine (rmfind_any a n cap hs ms m.a m.m _ hn (h0.below HB2.out)).mono ?_; rintro e w3 ⟨rfl, rfl⟩; rw [HF.out]))
        go_ret2
        exact ⟨a, cap, hs, by rw [← HN.out]; rfl, by have := h0.below HB2.out; rw [HN.out] at this; exact this, HB2.out⟩
      · rw [if_neg hpos] at e0
        by_cases hfull : ms.length = 4096
        · rw [if_pos hfull] at e0
          have e2 : begR ms m = [] := by unfold begR; rw [if_neg (by rw [e0]; decide)]
          rw [e0, e2]
          have hful : n = 4096 := by rw [HN.out]; exact hfull
          subst hful
          clear hp1 hp2 hp1' hp2' e0 e2 hF hfull
          go_enter Try.func12, Try.ntmps12
          go_wp2_with (first
            | (go_at_call 10; go_fit (rmright_any a 4096 cap hs ms _ hn hl (h0.below B0.out)); rintro e w1 ⟨rfl, hb1⟩; rw [HP.out.1]; have HB1 : Hid (Below w.heap.size w w1) := B0.out.trans (hb1.mono B0.out.size); have X1 := Lib.hid (box_below X0.out hb1); obtain ⟨y0, y1, y2, y3, y4, y5⟩ := box6_cells X1.out; have hz := box_lt X1.out; clear hb1)
            | (go_at_call 10; go_fit (rmright_any (some ⟨w1.heap.size, 0, none⟩) 1 1 [⟨ha, hnn, hc⟩] [m] _ (by omega) hone (mon_new w1 m ⟨ha, hnn, hc⟩ (hr.below HB1.out))); rintro e w2 ⟨rfl, hb2⟩; rw [HP.out.2]; have HB2 : Hid (Below w.heap.size w w2) := (HB1.out.alloc HB1.out.size _).trans (hb2.mono (HB1.out.alloc HB1.out.size _).size); have X2 := Lib.hid (box_below (box_alloc X1.out) hb2); clear hb2 y0 y1 y2 y3 y4 y5 hz; obtain ⟨y0, y1, y2, y3, y4, y5⟩ := box6_cells X2.out; have hz := box_lt X2.out)
            | (go_at_call 19; refine (rmfind_any a 4096 cap hs ms m.a m.m _ hn (h0.below HB2.out)).mono ?_; rintro e w3 ⟨rfl, rfl⟩; rw [HF.out]))
          go_ret2
          exact ⟨none, 0, [], rfl, MonIn.nil _, HB2.out⟩
        · rw [if_neg hfull] at e0
          have e2 : begR ms m = insM m ms := by unfold begR; rw [if_pos e0, hF, if_neg hpos]
          rw [e0, e2]
          have HRM := Lib.hid hp1'
          have hful : ((n : Int) == 4096) = false := by simp; rw [HN.out]; omega
          clear hp1 hp2 hp1' hp2' e0 e2 hF hfull
          go_enter Try.func12, Try.ntmps12
          go_upto_region 10 with (first
            | (go_at_call 10; go_fit (rmright_any a n cap hs ms _ hn hl (h0.below B0.out)); rintro e w1 ⟨rfl, hb1⟩; rw [HP.out.1]; have HB1 : Hid (Below w.heap.size w w1) := B0.out.trans (hb1.mono B0.out.size); have X1 := Lib.hid (box_below X0.out hb1); obtain ⟨y0, y1, y2, y3, y4, y5⟩ := box6_cells X1.out; have hz := box_lt X1.out; clear hb1)
            | (go_at_call 10; go_fit (rmright_any (some ⟨w1.heap.size, 0, none⟩) 1 1 [⟨ha, hnn, hc⟩] [m] _ (by omega) hone (mon_new w1 m ⟨ha, hnn, hc⟩ (hr.below HB1.out))); rintro e w2 ⟨rfl, hb2⟩; rw [HP.out.2]; have HB2 : Hid (Below w.heap.size w w2) := (HB1.out.alloc HB1.out.size _).trans (hb2.mono (HB1.out.alloc HB1.out.size _).size); have X2 := Lib.hid (box_below (box_alloc X1.out) hb2); clear hb2 y0 y1 y2 y3 y4 y5 hz; obtain ⟨y0, y1, y2, y3, y4, y5⟩ := box6_cells X2.out; have hz := box_lt X2.out)
            | (go_at_call 19; refine (rmfind_any a n cap hs ms m.a m.m _ hn (h0.below HB2.out)).mono ?_; rintro e w3 ⟨rfl, rfl⟩; rw [HF.out]))
          have hbs2 := HB2.out.size
          obtain ⟨X, hX⟩ : ∃ X, List.zipWith Mon.hd ms hs = X := ⟨_, rfl⟩
          obtain ⟨q, hq⟩ : ∃ q, Mon.hd m ⟨ha, hnn, hc⟩ = q := ⟨_, rfl⟩
          obtain ⟨j, hj⟩ : ∃ j, posM m ms = j := ⟨_, rfl⟩
          have hjn : j ≤ n := by rw [← hj, HN.out]; exact posM_le m ms
          have HX : Hid (List.zipWith Mon.hd ms hs = X ∧ Mon.hd m ⟨ha, hnn, hc⟩ = q ∧ posM m ms = j) := ⟨hX, hq, hj⟩
          have hn4 : n ≤ 4096 := by rw [HN.out]; exact HRM.out.1
          clear hX hq hj y0 y1 y2 y3 y4 y5 hz
          go_loopw [6, 7, 8] (fun o d i wr => ∃ (k : Nat) (bd : Bool), i = .int .i64 k ∧ k ≤ n ∧ d = .bool bd ∧ Hid (bd = decide (j < k)) ∧ Hid (V.Own 27 MH.cod w2.heap.size wr o (outL X q j k)) ∧ Hid (Below w2.heap.size w2 wr)) (fun _ _ i _ => n - (intOf i).toNat)
          case atStart => exact ⟨0, false, rfl, by omega, rfl, by show false = decide (j < 0); simp, by show V.Own _ _ _ _ _ _; unfold outL; rw [if_pos (Nat.zero_le _)]; exact V.Own.nil, Below.refl _ _⟩
          case round =>
            obtain ⟨k, bd, rfl, hk, rfl, hbd, hO, hB⟩ := hrel
            have hbs := hB.out.size
            have HL9 : Hid ((outL X q j k).length + 2 ≤ maxLen ∧ ((outL X q j k).length + 2) * 64 ≤ 140737488355328) := by
              have := outL_len X q j k
              constructor
              · unfold maxLen; omega
              · omega
            by_cases hlt : k < n
            · obtain ⟨b, off, at_, ct, x, rfl, hbb, hm, hh, ⟨c0, c1, c2, c3, c4, c5⟩, -⟩ := (h0.below HB2.out).at hlt
              have C0 := Lib.hid c0
              have C1 := Lib.hid c1
              have C2 := Lib.hid c2
              have C3 := Lib.hid c3
              have C4 := Lib.hid c4
              have C5 := Lib.hid c5
              have hxk : X[k]? = some (x.hd ⟨at_, x.rides.length, ct⟩) := by rw [← HX.out.1, List.getElem?_zipWith, hm, hh]
              have HXK := Lib.hid hxk
              have HM := Lib.hid hm
              have b1 : (k : Int) < (n : Int) := by omega
              have Z0 := cell_regrown ((hB.out.cell (p := ⟨b, off + k * 6, none⟩) hbb).trans c0)
              have Z1 := cell_regrown ((hB.out.cell (p := ⟨b, off + k * 6 + 1, none⟩) hbb).trans c1)
              have Z2 := cell_regrown ((hB.out.cell (p := ⟨b, off + k * 6 + 2, none⟩) hbb).trans c2)
              have Z3 := cell_regrown ((hB.out.cell (p := ⟨b, off + k * 6 + 3, none⟩) hbb).trans c3)
              have Z4 := cell_regrown ((hB.out.cell (p := ⟨b, off + k * 6 + 4, none⟩) hbb).trans c4)
              have Z5 := cell_regrown ((hB.out.cell (p := ⟨b, off + k * 6 + 5, none⟩) hbb).trans c5)
              have XR := Lib.hid (box_below X2.out hB.out)
              obtain ⟨y0, y1, y2, y3, y4, y5⟩ := box6_cells XR.out
              have Y0 := cell_regrown y0
              have Y1 := cell_regrown y1
              have Y2 := cell_regrown y2
              have Y3 := cell_regrown y3
              have Y4 := cell_regrown y4
              have Y5 := cell_regrown y5
              clear y0 y1 y2 y3 y4 y5 c0 c1 c2 c3 c4 c5 hm hh hxk
              obtain ⟨u, hu⟩ : ∃ u, decide (aheadM m x) = u := ⟨_, rfl⟩
              have q1 : ∀ nd osq, Calls Try.prog 40 #[.agg #[.int .i64 m.a, .int .i64 m.m, .int .i64 m.t, .int .i64 m.c, .slice ha hnn hc, .bool m.z], .agg #[.int .i64 x.a, .int .i64 x.m, .int .i64 x.t, .int .i64 x.c, .slice at_ x.rides.length ct, .bool x.z]] (Go.Sort.grow (redrawn wr nd) osq) fun e w' => e = .returned (.bool u) ∧ Below (Go.Sort.grow (redrawn wr nd) osq).heap.size (Go.Sort.grow (redrawn wr nd) osq) w' := fun nd osq => by
                have := rmahead_any m x (.slice ha hnn hc) (.slice at_ x.rides.length ct) (Go.Sort.grow (redrawn wr nd) osq)
                rwa [hu] at this
              have HU := Lib.hid hu
              clear hu
              go_upto_region 12 with fail
              rcases Nat.lt_trichotomy k j with hc1 | hc1 | hc1
              · obtain rfl : bd = false := by rw [hbd.out]; exact decide_eq_false (by omega)
                obtain rfl : u = false := by rw [← HU.out]; exact decide_eq_false (posM_lt m ms k x HM.out (by rw [HX.out.2.2]; exact hc1))
                refine wp_region_quiet_below (by assumption) (by kernel_rfl) ?_
                repeat (go_big_quiet_step ((go_at_call 40; exact Calls.regrown_of (q1 _ _))))
                refine wpQuiet_nil ?_
                intro w9 hw9
                obtain ⟨⟨nd, osq⟩, rfl⟩ := hw9
                have hb9 := below_regrown wr nd osq
                have HB9 : Hid (Below w2.heap.size w2 (Go.Sort.grow (redrawn wr nd) osq)) := hB.out.trans (hb9.mono hB.out.size)
                have HO9 : Hid (V.Own 27 MH.cod w2.heap.size (Go.Sort.grow (redrawn wr nd) osq) u6 (outL X q j k)) := hO.out.below hb9
                generalize Go.Sort.grow (redrawn wr nd) osq = w9 at HB9 HO9 ⊢
                clear hb9
                have hs9 := HB9.out.size
                obtain ⟨y0, y1, y2, y3, y4, y5⟩ := box6_cells (box_below X2.out HB9.out)
                have hz9 := box_lt (box_below X2.out HB9.out)
                have c0 := (HB9.out.cell (p := ⟨b, off + k * 6, none⟩) hbb).trans C0.out
                have c1 := (HB9.out.cell (p := ⟨b, off + k * 6 + 1, none⟩) hbb).trans C1.out
                have c2 := (HB9.out.cell (p := ⟨b, off + k * 6 + 2, none⟩) hbb).trans C2.out
                have c3 := (HB9.out.cell (p := ⟨b, off + k * 6 + 3, none⟩) hbb).trans C3.out
                have c4 := (HB9.out.cell (p := ⟨b, off + k * 6 + 4, none⟩) hbb).trans C4.out
                have c5 := (HB9.out.cell (p := ⟨b, off + k * 6 + 5, none⟩) hbb).trans C5.out
                go_wp2_with (at_builtin; go_loud (refine wpList_app eltMonth rfl (.tmp 49) (.tmp 54) rfl (base := w2.heap.size) _ (outL X q j k) rfl (HO9.out.alloc _) _ 1 1 [x.hd ⟨at_, x.rides.length, ct⟩] rfl (sl_new (c := MH.cod) _ #[.int .i64 x.a, .int .i64 x.m, .int .i64 x.t, .int .i64 x.c, .slice at_ x.rides.length ct, .bool x.z] 27 [x.hd ⟨at_, x.rides.length, ct⟩] 1 rfl (by unfold maxLen; omega) rfl) (by have := HL9.out.1; omega) (by have := HL9.out.2; omega) (by simp; omega) ?_); intro v5 w5 hown5 hg5; have HO5 := Lib.hid hown5; have HB5 : Hid (Below w2.heap.size w2 w5) := (HB9.out.alloc HB9.out.size _).grown hg5 (by have := HB9.out.size; simp; omega) (fun i hi => (World.ownsRow.lt HO9.out i hi).1); clear hown5 hg5)
                go_roundw
                case rel => exact ⟨k + 1, false, by go_num, by omega, rfl, by show false = decide _; symm; exact decide_eq_false (by omega), by show V.Own _ _ _ _ _ _; rw [outL_lt hc1 HXK.out]; exact HO5.out, HB5.out⟩
                case measure => simp [intOf]; omega
              · subst hc1
                obtain rfl : bd = false := by rw [hbd.out]; exact decide_eq_false (by omega)
                obtain rfl : u = true := by rw [← HU.out]; exact decide_eq_true (posM_at m ms x (by rw [HX.out.2.2]; exact HM.out))
                refine wp_region_quiet_below (by assumption) (by kernel_rfl) ?_
                repeat (go_big_quiet_step ((go_at_call 40; exact Calls.regrown_of (q1 _ _))))
                refine wpQuiet_nil ?_
                intro w9 hw9
                obtain ⟨⟨nd, osq⟩, rfl⟩ := hw9
                have hb9 := below_regrown wr nd osq
                have HB9 : Hid (Below w2.heap.size w2 (Go.Sort.grow (redrawn wr nd) osq)) := hB.out.trans (hb9.mono hB.out.size)
                have HO9 : Hid (V.Own 27 MH.cod w2.heap.size (Go.Sort.grow (redrawn wr nd) osq) u6 (outL X q k k)) := hO.out.below hb9
                generalize Go.Sort.grow (redrawn wr nd) osq = w9 at HB9 HO9 ⊢
                clear hb9
                have hs9 := HB9.out.size
                obtain ⟨y0, y1, y2, y3, y4, y5⟩ := box6_cells (box_below X2.out HB9.out)
                have hz9 := box_lt (box_below X2.out HB9.out)
                have c0 := (HB9.out.cell (p := ⟨b, off + k * 6, none⟩) hbb).trans C0.out
                have c1 := (HB9.out.cell (p := ⟨b, off + k * 6 + 1, none⟩) hbb).trans C1.out
                have c2 := (HB9.out.cell (p := ⟨b, off + k * 6 + 2, none⟩) hbb).trans C2.out
                have c3 := (HB9.out.cell (p := ⟨b, off + k * 6 + 3, none⟩) hbb).trans C3.out
                have c4 := (HB9.out.cell (p := ⟨b, off + k * 6 + 4, none⟩) hbb).trans C4.out
                have c5 := (HB9.out.cell (p := ⟨b, off + k * 6 + 5, none⟩) hbb).trans C5.out
                go_upto_region 14 with (at_builtin; go_loud (refine wpList_app eltMonth rfl (.tmp 45) (.tmp 47) rfl (base := w2.heap.size) _ (outL X q k k) rfl (HO9.out.alloc _) _ 1 1 [m.hd ⟨ha, hnn, hc⟩] rfl (sl_new (c := MH.cod) _ #[.int .i64 m.a, .int .i64 m.m, .int .i64 m.t, .int .i64 m.c, .slice ha hnn hc, .bool m.z] 27 [m.hd ⟨ha, hnn, hc⟩] 1 rfl (by unfold maxLen; omega) rfl) (by have := HL9.out.1; omega) (by have := HL9.out.2; omega) (by simp; omega) ?_); intro v5 w5 hown5 hg5; have HO5 := Lib.hid hown5; have HB5 : Hid (Below w2.heap.size w2 w5) := (HB9.out.alloc HB9.out.size _).grown hg5 (by have := HB9.out.size; simp; omega) (fun i hi => (World.ownsRow.lt HO9.out i hi).1); clear hown5 hg5)
                clear y0 y1 y2 y3 y4 y5 hz9 c0 c1 c2 c3 c4 c5
                have hs5 := HB5.out.size
                obtain ⟨y0, y1, y2, y3, y4, y5⟩ := box6_cells (box_below X2.out HB5.out)
                have hz9 := box_lt (box_below X2.out HB5.out)
                have c0 := (HB5.out.cell (p := ⟨b, off + k * 6, none⟩) hbb).trans C0.out
                have c1 := (HB5.out.cell (p := ⟨b, off + k * 6 + 1, none⟩) hbb).trans C1.out
                have c2 := (HB5.out.cell (p := ⟨b, off + k * 6 + 2, none⟩) hbb).trans C2.out
                have c3 := (HB5.out.cell (p := ⟨b, off + k * 6 + 3, none⟩) hbb).trans C3.out
                have c4 := (HB5.out.cell (p := ⟨b, off + k * 6 + 4, none⟩) hbb).trans C4.out
                have c5 := (HB5.out.cell (p := ⟨b, off + k * 6 + 5, none⟩) hbb).trans C5.out
                go_wp2_with (at_builtin; go_loud (refine wpList_app eltMonth rfl (.tmp 49) (.tmp 54) rfl (base := w2.heap.size) _ (outL X q k k ++ [m.hd ⟨ha, hnn, hc⟩]) rfl (HO5.out.alloc _) _ 1 1 [x.hd ⟨at_, x.rides.length, ct⟩] rfl (sl_new (c := MH.cod) _ #[.int .i64 x.a, .int .i64 x.m, .int .i64 x.t, .int .i64 x.c, .slice at_ x.rides.length ct, .bool x.z] 27 [x.hd ⟨at_, x.rides.length, ct⟩] 1 rfl (by unfold maxLen; omega) rfl) (by have := HL9.out.1; simp; omega) (by have := HL9.out.2; simp; omega) (by simp; omega) ?_); intro v6 w6 hown6 hg6; have HO6 := Lib.hid hown6; have HB6 : Hid (Below w2.heap.size w2 w6) := (HB5.out.alloc HB5.out.size _).grown hg6 (by have := HB5.out.size; simp; omega) (fun i hi => (World.ownsRow.lt HO5.out i hi).1); clear hown6 hg6)
                go_roundw
                case rel => exact ⟨k + 1, true, by go_num, by omega, rfl, by show true = decide _; symm; exact decide_eq_true (by omega), by show V.Own _ _ _ _ _ _; have t9 := HO6.out; rw [HX.out.2.1] at t9; rw [outL_eq HXK.out]; exact t9, HB6.out⟩
                case measure => simp [intOf]; omega
              · obtain rfl : bd = true := by rw [hbd.out]; exact decide_eq_true hc1
                refine wp_region_quiet_below (by assumption) (by kernel_rfl) ?_
                repeat (go_big_quiet_step (fail))
                refine wpQuiet_nil ?_
                intro w9 hw9
                obtain ⟨⟨nd, osq⟩, rfl⟩ := hw9
                have hb9 := below_regrown wr nd osq
                have HB9 : Hid (Below w2.heap.size w2 (Go.Sort.grow (redrawn wr nd) osq)) := hB.out.trans (hb9.mono hB.out.size)
                have HO9 : Hid (V.Own 27 MH.cod w2.heap.size (Go.Sort.grow (redrawn wr nd) osq) u6 (outL X q j k)) := hO.out.below hb9
                generalize Go.Sort.grow (redrawn wr nd) osq = w9 at HB9 HO9 ⊢
                clear hb9
                have hs9 := HB9.out.size
                obtain ⟨y0, y1, y2, y3, y4, y5⟩ := box6_cells (box_below X2.out HB9.out)
                have hz9 := box_lt (box_below X2.out HB9.out)
                have c0 := (HB9.out.cell (p := ⟨b, off + k * 6, none⟩) hbb).trans C0.out
                have c1 := (HB9.out.cell (p := ⟨b, off + k * 6 + 1, none⟩) hbb).trans C1.out
                have c2 := (HB9.out.cell (p := ⟨b, off + k * 6 + 2, none⟩) hbb).trans C2.out
                have c3 := (HB9.out.cell (p := ⟨b, off + k * 6 + 3, none⟩) hbb).trans C3.out
                have c4 := (HB9.out.cell (p := ⟨b, off + k * 6 + 4, none⟩) hbb).trans C4.out
                have c5 := (HB9.out.cell (p := ⟨b, off + k * 6 + 5, none⟩) hbb).trans C5.out
                go_wp2_with (at_builtin; go_loud (refine wpList_app eltMonth rfl (.tmp 49) (.tmp 54) rfl (base := w2.heap.size) _ (outL X q j k) rfl (HO9.out.alloc _) _ 1 1 [x.hd ⟨at_, x.rides.length, ct⟩] rfl (sl_new (c := MH.cod) _ #[.int .i64 x.a, .int .i64 x.m, .int .i64 x.t, .int .i64 x.c, .slice at_ x.rides.length ct, .bool x.z] 27 [x.hd ⟨at_, x.rides.length, ct⟩] 1 rfl (by unfold maxLen; omega) rfl) (by have := HL9.out.1; omega) (by have := HL9.out.2; omega) (by simp; omega) ?_); intro v5 w5 hown5 hg5; have HO5 := Lib.hid hown5; have HB5 : Hid (Below w2.heap.size w2 w5) := (HB9.out.alloc HB9.out.size _).grown hg5 (by have := HB9.out.size; simp; omega) (fun i hi => (World.ownsRow.lt HO9.out i hi).1); clear hown5 hg5)
                go_roundw
                case rel => exact ⟨k + 1, true, by go_num, by omega, rfl, by show true = decide _; symm; exact decide_eq_true (by omega), by show V.Own _ _ _ _ _ _; rw [outL_gt hc1 HXK.out]; exact HO5.out, HB5.out⟩
                case measure => simp [intOf]; omega
            · have hk' : k = n := by omega
              subst hk'
              have hXl : X.length = k := by rw [← HX.out.1, List.length_zipWith, h0.len, ← HN.out, Nat.min_self]
              have XR := Lib.hid (box_below X2.out hB.out)
              obtain ⟨y0, y1, y2, y3, y4, y5⟩ := box6_cells XR.out
              have hzr := box_lt XR.out
              have HFIN : Hid (∀ w9 v, V.Own 27 MH.cod w2.heap.size w9 v (X.take j ++ q :: X.drop j) → Below w2.heap.size w2 w9 → ∃ a' c' hs', v = .slice a' (insM m ms).length c' ∧ MonIn w9 a' (insM m ms).length c' hs' (insM m ms)) := by
                intro w9 v ho hb9
                obtain ⟨a', c', rfl, hsl, -⟩ := ho.slice
                have e1 : (X.take j ++ q :: X.drop j).length = (insM m ms).length := by
                  unfold insM
                  rw [HX.out.2.2]
                  have := HN.out
                  simp only [List.length_append, List.length_take, List.length_cons, List.length_drop]
                  omega
                refine ⟨a', c', hs.take j ++ ⟨ha, hnn, hc⟩ :: hs.drop j, by rw [e1], ?_⟩
                rw [e1, ← HX.out.1, ← HX.out.2.1] at hsl
                have := MonIn.ins (j := j) (h0.below (HB2.out.trans (hb9.mono hbs2))) (hr.below (HB2.out.trans (hb9.mono hbs2))) hsl
                unfold insM at this ⊢
                rw [HX.out.2.2] at this ⊢
                exact this
              by_cases hjk : j < k
              · obtain rfl : bd = true := by rw [hbd.out]; exact decide_eq_true hjk
                go_wp2_with fail
                go_ret2
                have hO' := hO.out
                unfold outL at hO'
                have e7 : (X.drop j).take (k - j) = X.drop j := List.take_of_length_le (by rw [List.length_drop]; omega)
                rw [if_neg (by omega), e7] at hO'
                obtain ⟨a', c', hs', rfl, hin⟩ := HFIN.out _ _ hO' hB.out
                exact ⟨a', c', hs', rfl, hin, HB2.out.trans (hB.out.mono hbs2)⟩
              · obtain rfl : bd = false := by rw [hbd.out]; exact decide_eq_false hjk
                go_wp2_with (at_builtin; go_loud (refine wpList_app eltMonth rfl (.tmp 58) (.tmp 60) rfl (base := w2.heap.size) _ (outL X q j k) rfl (hO.out.alloc _) _ 1 1 [m.hd ⟨ha, hnn, hc⟩] rfl (sl_new (c := MH.cod) _ #[.int .i64 m.a, .int .i64 m.m, .int .i64 m.t, .int .i64 m.c, .slice ha hnn hc, .bool m.z] 27 [m.hd ⟨ha, hnn, hc⟩] 1 rfl (by unfold maxLen; omega) rfl) (by have := HL9.out.1; omega) (by have := HL9.out.2; omega) (by simp; omega) ?_); intro v5 w5 hown5 hg5; have HO5 := Lib.hid hown5; have HB5 : Hid (Below w2.heap.size w2 w5) := (hB.out.alloc hbs _).grown hg5 (by simp; omega) (fun i hi => (World.ownsRow.lt hO.out i hi).1); clear hown5 hg5)
                go_ret2
                have hO' := HO5.out
                unfold outL at hO'
                have ej : j = k := by omega
                rw [if_pos (by omega), HX.out.2.1] at hO'
                have e9 : X.take k ++ [q] = X.take j ++ q :: X.drop j := by rw [ej, List.drop_eq_nil_of_le (by omega)]
                rw [e9] at hO'
                obtain ⟨a', c', hs', rfl, hin⟩ := HFIN.out _ _ hO' HB5.out
                exact ⟨a', c', hs', rfl, hin, HB2.out.trans (HB5.out.mono hbs2)⟩
end Go.Proofs.Ytbdkhgenkekioaa
