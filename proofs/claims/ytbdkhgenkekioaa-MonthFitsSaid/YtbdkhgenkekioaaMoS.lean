/- Months: a turn, added, changed, closed: what the program answers is what the document says; walked. -/
import Derived.Test.YtbdkhgenkekioaaMoR
namespace Go.Proofs.Ytbdkhgenkekioaa
open Go.RowKit Go.V Go.Sort Go.Shelf Go.Proofs Go.Maps
open Go.Proofs.Ytbdkhgenkekioaa.Ne (box_alloc box_new box_cell box_below box_lt box2_cells)

/-! ### Plain laws: sorted lists of rides -/
theorem msorted_one : ∀ (l1 l2 : List Ride), l1.Perm l2 → Srt ltR l1 → Srt ltR l2 → (l1.map Ride.t).Nodup → l1 = l2
  | [], l2, hp, _, _, _ => (List.Perm.nil_eq hp)
  | x :: xs, l2, hp, s1, s2, nd => by
    cases l2 with
    | nil => exact absurd hp.length_eq (by simp)
    | cons y ys =>
      by_cases e : x = y
      · subst e
        rw [msorted_one xs ys (List.Perm.cons_inv hp) (List.pairwise_cons.1 s1).2 (List.pairwise_cons.1 s2).2 (List.nodup_cons.1 nd).2]
      · exfalso
        have hx : x ∈ ys := by
          have : x ∈ y :: ys := hp.mem_iff.1 (by simp)
          rcases List.mem_cons.1 this with h | h
          · exact absurd h e
          · exact h
        have hy : y ∈ xs := by
          have : y ∈ x :: xs := hp.mem_iff.2 (by simp)
          rcases List.mem_cons.1 this with h | h
          · exact absurd h.symm e
          · exact h
        have h1 : ltR y x = false := (List.pairwise_cons.1 s1).1 y hy
        have h2 : ltR x y = false := (List.pairwise_cons.1 s2).1 x hx
        have g1 : ¬ (y.s < x.s ∨ y.s = x.s ∧ y.t < x.t) := fun h => by rw [(ltR_iff y x).2 h] at h1; cases h1
        have g2 : ¬ (x.s < y.s ∨ x.s = y.s ∧ x.t < y.t) := fun h => by rw [(ltR_iff x y).2 h] at h2; cases h2
        have ht : x.t = y.t := by omega
        have := (List.nodup_cons.1 nd).1
        exact this (List.mem_map.2 ⟨y, hy, ht.symm⟩)
theorem misort_eq {a b : List Ride} (h : a.Perm b) (hr : (a.map Ride.t).Nodup) : isort ltR a = isort ltR b := by
  have h1 : (isort ltR a).Perm (isort ltR b) := ((isort_perm a).trans h).trans (isort_perm b).symm
  exact msorted_one _ _ h1 (isort_srt ordR _) (isort_srt ordR _) (((isort_perm a).map Ride.t).nodup_iff.2 hr)
theorem othR_all {l : List Ride} {t : Int} (h : ∀ r ∈ l, r.t ≠ t) : othR l t = l := by
  unfold othR
  rw [List.filter_eq_self]
  intro r hr
  simpa using h r hr
theorem set_perm {l : List Ride} {t : Int} {k : Nat} {x r : Ride} (hx : l[k]? = some x) (ht : x.t = t) (hn : (l.map Ride.t).Nodup) : (l.set k r).Perm (othR l t ++ [r]) := by
  have hk := (List.getElem?_eq_some_iff.1 hx).1
  have e1 : l = l.take k ++ x :: l.drop (k + 1) := by
    rw [← drop_at hx, List.take_append_drop]
  have hne : ∀ y ∈ l.take k ++ l.drop (k + 1), y.t ≠ t := by
    have h2 := hn
    rw [e1] at h2
    have h3 : ((x :: (l.take k ++ l.drop (k + 1))).map Ride.t).Nodup := by
      refine (List.Perm.nodup_iff ?_).1 h2
      exact (List.perm_middle).map _
    intro y hy e
    rw [List.map_cons, List.nodup_cons] at h3
    exact h3.1 (List.mem_map.2 ⟨y, hy, by rw [e, ht]⟩)
  have e2 : othR l t = l.take k ++ l.drop (k + 1) := by
    conv => lhs; rw [e1]
    unfold othR
    rw [List.filter_append, List.filter_cons, if_neg (by simp [ht]), ← List.filter_append]
    exact othR_all hne
  have e3 : l.set k r = l.take k ++ r :: l.drop (k + 1) := by
    rw [List.set_eq_take_append_cons_drop, if_pos hk]
  rw [e2, e3]
  refine (List.perm_middle).trans ?_
  exact (List.perm_append_comm (l₁ := [r]) (l₂ := l.take k ++ l.drop (k + 1)))
theorem set_perm_nodup {l : List Ride} {k : Nat} {x r : Ride} (hx : l[k]? = some x) (ht : x.t = r.t) (hn : (l.map Ride.t).Nodup) : ((l.set k r).map Ride.t).Nodup := by
  have : (l.set k r).map Ride.t = l.map Ride.t := by
    rw [List.map_set]
    apply list_set_same
    rw [List.getElem?_map, hx]
    simp [ht]
  rw [this]; exact hn
theorem withM_set {ms : List Mon} {j : Nat} {m : Mon} (hm : ms[j]? = some m) (xs : List Ride) : withM ms j xs = ms.set j { m with rides := isort ltR xs } := by
  apply List.ext_getElem?
  intro i
  unfold withM
  rw [List.getElem?_mapIdx]
  by_cases e : i = j
  · subst e
    rw [List.getElem?_set_self (List.getElem?_eq_some_iff.1 hm).1, hm]
    simp
  · rw [List.getElem?_set_ne (fun q => e q.symm)]
    cases ms[i]? with
    | none => rfl
    | some y =>
      have : ¬ (i : Int) = j := by omega
      simp [this]

/-! ### The program's answers are the document's -/
theorem find_mon {ms : List Mon} {A M : Int} (h : ¬ findM ms A M < 0) : ∃ (j : Nat) (m : Mon), findM ms A M = j ∧ ms[j]? = some m ∧ monAt ms A M = m := by
  rcases findM_cases ms A M with ⟨h1, -⟩ | ⟨j, m, h1, h2, h3, h4, -⟩
  · omega
  · exact ⟨j, m, h1, h3, by unfold monAt; rw [h1, Int.toNat_natCast, List.getD_eq_getElem?_getD, h3]; rfl⟩
theorem mt_bad {E : Mon → Int} {G : Mon → Mon} {ms : List Mon} {A M : Int} (h : ¬ RightM ms) : mtE E ms A M = 2 ∧ mtR E G ms A M = [] :=
  ⟨by unfold mtE; rw [if_neg h], by unfold mtR; rw [if_neg (fun q => h q.1)]⟩
theorem mt_none {E : Mon → Int} {G : Mon → Mon} {ms : List Mon} {A M : Int} (h : RightM ms) (h2 : findM ms A M < 0) : mtE E ms A M = 30 ∧ mtR E G ms A M = [] :=
  ⟨by unfold mtE; rw [if_pos h, if_pos h2], by unfold mtR; rw [if_neg (fun q => by have := q.2.1; omega)]⟩
theorem mt_at {E : Mon → Int} {G : Mon → Mon} {ms : List Mon} {A M : Int} {j : Nat} {m : Mon} (h : RightM ms) (h2 : findM ms A M = j) (h3 : monAt ms A M = m) : mtE E ms A M = E m ∧ mtR E G ms A M = if E m = 0 then ms.set j (G m) else [] := by
  refine ⟨by unfold mtE; rw [if_pos h, if_neg (by omega), h3], ?_⟩
  unfold mtR
  rw [h3, h2, Int.toNat_natCast]
  by_cases q : E m = 0
  · rw [if_pos ⟨h, by omega, q⟩, if_pos q]
  · rw [if_neg (fun z => q z.2.2), if_neg q]
theorem tn_bad {k : Int} {ms : List Mon} {A M : Int} {r : Ride} (h : ¬ (RightM ms ∧ (k = 3 ∨ RightP [r]))) : turnE k ms A M r = 2 ∧ turnR k ms A M r = [] := by
  have e1 : turnE k ms A M r = 2 := by unfold turnE; rw [if_neg h]
  exact ⟨e1, by unfold turnR; rw [e1, if_neg (by decide)]⟩
theorem tn_none {k : Int} {ms : List Mon} {A M : Int} {r : Ride} (h : RightM ms ∧ (k = 3 ∨ RightP [r])) (h2 : findM ms A M < 0) : turnE k ms A M r = 30 ∧ turnR k ms A M r = [] := by
  have e1 : turnE k ms A M r = 30 := by unfold turnE; rw [if_pos h, if_pos h2]
  exact ⟨e1, by unfold turnR; rw [e1, if_neg (by decide)]⟩
theorem tn_at {k : Int} {ms : List Mon} {A M : Int} {r : Ride} {j : Nat} {m : Mon} (h : RightM ms ∧ (k = 3 ∨ RightP [r])) (h2 : findM ms A M = j) (h3 : monAt ms A M = m) (hk : k ≠ 3) : turnE k ms A M r = oneE k m r ∧ turnR k ms A M r = rideR k ms m j r := by
  have e1 : turnE k ms A M r = oneE k m r := by unfold turnE; rw [if_pos h, if_neg (by omega), if_neg hk, h3]
  exact ⟨e1, by unfold turnR rideR; rw [e1, h3, h2, if_neg hk]⟩
theorem tn_close {ms : List Mon} {A M : Int} {r : Ride} {j : Nat} {m : Mon} (h : RightM ms) (h2 : findM ms A M = j) (h3 : monAt ms A M = m) : turnE 3 ms A M r = 0 ∧ turnR 3 ms A M r = ms.set j { m with z := true } := by
  have e1 : turnE 3 ms A M r = 0 := by unfold turnE; rw [if_pos ⟨h, .inl rfl⟩, if_neg (by omega), if_pos rfl]
  exact ⟨e1, by unfold turnR; rw [if_pos e1, if_pos rfl, h3, h2, Int.toNat_natCast]⟩
theorem turn1_eq {ms : List Mon} {A M : Int} {r : Ride} (hr : RightP [r]) : mtE (fun m => oneE 1 m r) ms A M = turnE 1 ms A M r ∧ mtR (fun m => oneE 1 m r) (fun m => addM m r) ms A M = turnR 1 ms A M r := by
  by_cases h1 : RightM ms
  · by_cases h2 : findM ms A M < 0
    · rw [(mt_none (G := fun m => addM m r) h1 h2).1, (mt_none h1 h2).2, (tn_none ⟨h1, .inr hr⟩ h2).1, (tn_none ⟨h1, .inr hr⟩ h2).2]; exact ⟨rfl, rfl⟩
    · obtain ⟨j, m, hj, hm, hma⟩ := find_mon h2
      obtain ⟨a1, a2⟩ := mt_at (E := fun m => oneE 1 m r) (G := fun m => addM m r) h1 hj hma
      obtain ⟨b1, b2⟩ := tn_at (k := 1) (r := r) ⟨h1, .inr hr⟩ hj hma (by decide)
      rw [a1, a2, b1, b2]
      refine ⟨rfl, ?_⟩
      show (if oneE 1 m r = 0 then ms.set j (addM m r) else []) = _
      unfold rideR
      by_cases h3 : oneE 1 m r = 0
      · rw [if_pos h3, if_pos h3]
        unfold addM
        by_cases h4 : 0 ≤ findR m.rides r.t
        · rw [if_pos h4, if_pos ⟨rfl, h4⟩, list_set_same hm]
        · rw [if_neg h4, if_neg (fun q => h4 q.2), withM_set hm, othR_all]
          rcases findR_cases m.rides r.t with ⟨-, h5⟩ | ⟨k, x, h5, -⟩
          · exact h5
          · omega
      · rw [if_neg h3, if_neg h3]
  · rw [(mt_bad (G := fun m => addM m r) h1).1, (mt_bad h1).2, (tn_bad (fun q => h1 q.1)).1, (tn_bad (fun q => h1 q.1)).2]; exact ⟨rfl, rfl⟩
theorem turn2_eq {ms : List Mon} {A M : Int} {r : Ride} (hr : RightP [r]) : mtE (fun m => oneE 2 m r) ms A M = turnE 2 ms A M r ∧ mtR (fun m => oneE 2 m r) (fun m => chgM m r) ms A M = turnR 2 ms A M r := by
  by_cases h1 : RightM ms
  · by_cases h2 : findM ms A M < 0
    · rw [(mt_none (G := fun m => chgM m r) h1 h2).1, (mt_none h1 h2).2, (tn_none ⟨h1, .inr hr⟩ h2).1, (tn_none ⟨h1, .inr hr⟩ h2).2]; exact ⟨rfl, rfl⟩
    · obtain ⟨j, m, hj, hm, hma⟩ := find_mon h2
      obtain ⟨a1, a2⟩ := mt_at (E := fun m => oneE 2 m r) (G := fun m => chgM m r) h1 hj hma
      obtain ⟨b1, b2⟩ := tn_at (k := 2) (r := r) ⟨h1, .inr hr⟩ hj hma (by decide)
      rw [a1, a2, b1, b2]
      refine ⟨rfl, ?_⟩
      show (if oneE 2 m r = 0 then ms.set j (chgM m r) else []) = _
      unfold rideR
      by_cases h3 : oneE 2 m r = 0
      · rw [if_pos h3, if_pos h3, if_neg (fun q => by have := q.1; omega), withM_set hm]
        show ms.set j { m with rides := isort ltR (m.rides.set (findR m.rides r.t).toNat r) } = _
        rcases findR_cases m.rides r.t with ⟨h5, -⟩ | ⟨k, x, h5, -, h6, h7, -⟩
        · exfalso
          unfold oneE at h3
          rw [if_pos rfl, h5] at h3
          simp at h3
        · have hnd : (m.rides.map Ride.t).Nodup := (h1.2 j m (List.getElem?_eq_some_iff.1 hm).1 hm).1.2.2.2.2
          rw [h5, Int.toNat_natCast, misort_eq (set_perm h6 h7 hnd) (set_perm_nodup h6 h7 hnd)]
      · rw [if_neg h3, if_neg h3]
  · rw [(mt_bad (G := fun m => chgM m r) h1).1, (mt_bad h1).2, (tn_bad (fun q => h1 q.1)).1, (tn_bad (fun q => h1 q.1)).2]; exact ⟨rfl, rfl⟩
theorem turn3_eq {ms : List Mon} {A M : Int} (r : Ride) : mtE (fun _ => 0) ms A M = turnE 3 ms A M r ∧ mtR (fun _ => 0) (fun m => { m with z := true }) ms A M = turnR 3 ms A M r := by
  by_cases h1 : RightM ms
  · by_cases h2 : findM ms A M < 0
    · rw [(mt_none (G := fun m => { m with z := true }) h1 h2).1, (mt_none h1 h2).2, (tn_none ⟨h1, .inl rfl⟩ h2).1, (tn_none ⟨h1, .inl rfl⟩ h2).2]; exact ⟨rfl, rfl⟩
    · obtain ⟨j, m, hj, hm, hma⟩ := find_mon h2
      obtain ⟨a1, a2⟩ := mt_at (E := fun _ => 0) (G := fun m => { m with z := true }) h1 hj hma
      obtain ⟨b1, b2⟩ := tn_close (r := r) h1 hj hma
      rw [a1, a2, b1, b2]
      exact ⟨rfl, if_pos rfl⟩
  · rw [(mt_bad (G := fun m => { m with z := true }) h1).1, (mt_bad h1).2, (tn_bad (fun q => h1 q.1)).1, (tn_bad (fun q => h1 q.1)).2]; exact ⟨rfl, rfl⟩
set_option maxHeartbeats 4000000 in
set_option maxRecDepth 100000 in
theorem mclose_any (a : Option Addr) (n cap : Nat) (hs : List Hdr) (ms : List Mon) (A M : Int) (r : Ride) (w : World) (hn : n ≤ 100000) (hl : ∀ m ∈ ms, m.rides.length ≤ 100000) (hok : ∀ m ∈ ms, ∀ r ∈ m.rides, Ride.ok r) (h0 : MonIn w a n cap hs ms) :
    Calls Try.prog 16 #[.slice a n cap, .int .i64 A, .int .i64 M] w fun e w' => ∃ v, e = .returned (.tuple #[v, .int .i64 (turnE 3 ms A M r)]) ∧ TurnQ (turnR 3 ms A M r) w' v ∧ Below w.heap.size w w' := by
  obtain ⟨E, hE⟩ : ∃ E, turnE 3 ms A M r = E := ⟨_, rfl⟩
  obtain ⟨R, hR⟩ : ∃ R, turnR 3 ms A M r = R := ⟨_, rfl⟩
  have HT : Hid (Calls Try.prog 47 #[.slice a n cap, .agg #[.int .i64 A, .int .i64 M], .func (.func 52) #[] #[]] w fun e w' => ∃ v, e = .returned (.tuple #[v, .int .i64 E]) ∧ TurnQ R w' v ∧ Below w.heap.size w w') := by
    have := mturn_close (fun _ => 0) (fun m => { m with z := true }) a n cap hs ms A M w hn hl hok h0 (fun B g c i W X m h _ _ H _ => (close_cb H).mono fun e w' ⟨h1, h2, h3⟩ => ⟨h1, fun _ => h2, h3⟩)
    rwa [(turn3_eq r).1, (turn3_eq r).2, hE, hR] at this
  rw [hE, hR]
  clear hE hR
  go_enter Try.func16, Try.ntmps16
  go_wp2_with (go_at_call 47; refine HT.out.mono ?_; rintro e w1 ⟨v, rfl, hq1, hb1⟩; have HQ1 := Lib.hid hq1; have HB1 := Lib.hid hb1; clear hq1 hb1)
  go_ret2
  exact ⟨_, rfl, HQ1.out, HB1.out⟩

set_option maxHeartbeats 4000000 in
set_option maxRecDepth 100000 in
theorem madd_any (a : Option Addr) (n cap : Nat) (hs : List Hdr) (ms : List Mon) (A M : Int) (r : Ride) (w : World) (hn : n ≤ 100000) (hl : ∀ m ∈ ms, m.rides.length ≤ 100000) (hok : ∀ m ∈ ms, ∀ r ∈ m.rides, Ride.ok r) (hro : Ride.ok r) (h0 : MonIn w a n cap hs ms) :
    Calls Try.prog 14 #[.slice a n cap, .int .i64 A, .int .i64 M, r.val] w fun e w' => ∃ v, e = .returned (.tuple #[v, .int .i64 (turnE 1 ms A M r)]) ∧ TurnQ (turnR 1 ms A M r) w' v ∧ Below w.heap.size w w' := by
  have X0 : Hid ((w.alloc (.cells #[.int .i64 r.t, .int .i64 r.s, .int .i64 r.e, .int .i64 r.f] 24)).heap[w.heap.size]? = some (.cells #[.int .i64 r.t, .int .i64 r.s, .int .i64 r.e, .int .i64 r.f] 24 (0, 0))) := box_new w _
  have B0 : Hid (Below w.heap.size w (w.alloc (.cells #[.int .i64 r.t, .int .i64 r.s, .int .i64 r.e, .int .i64 r.f] 24))) := (Below.refl _ _).alloc (Nat.le_refl _) _
  obtain ⟨p, hp⟩ : ∃ p, decide (RightP [r]) = p := ⟨_, rfl⟩
  have HP := Lib.hid hp
  clear hp
  obtain ⟨E, hE⟩ : ∃ E, turnE 1 ms A M r = E := ⟨_, rfl⟩
  obtain ⟨R, hR⟩ : ∃ R, turnR 1 ms A M r = R := ⟨_, rfl⟩
  have HER : Hid (turnE 1 ms A M r = E ∧ turnR 1 ms A M r = R) := ⟨hE, hR⟩
  rw [hE, hR]
  clear hE hR
  have HOK : Hid (∀ x ∈ [r], Ride.ok x) := fun x hx => by simp at hx; subst hx; exact hro
  clear hro
  have hval : r.val = .agg #[.int .i64 r.t, .int .i64 r.s, .int .i64 r.e, .int .i64 r.f] := rfl
  rw [hval]
  clear hval
  cases p with
  | false =>
    go_enter Try.func14, Try.ntmps14
    go_upto_region 1 with fail
    obtain ⟨W, hW⟩ : ∃ W, w.alloc (.cells #[.int .i64 r.t, .int .i64 r.s, .int .i64 r.e, .int .i64 r.f] 24) = W := ⟨_, rfl⟩
    rw [hW] at X0 B0 ⊢
    clear hW
    have x0 := (box_cell X0.out 0).1
    have x1 := (box_cell X0.out 1).1
    have x2 := (box_cell X0.out 2).1
    have x3 := (box_cell X0.out 3).1
    have hz := box_lt X0.out
    have hs0 := B0.out.size
    go_wp2_with (go_at_call 46; go_fit (right_any (some ⟨W.heap.size, 0, none⟩) 1 1 [r] _ (by omega) HOK.out (sl_new (c := Ride.cod) W #[.int .i64 r.t, .int .i64 r.s, .int .i64 r.e, .int .i64 r.f] 24 [r] 1 rfl (by unfold maxLen; omega) rfl)); rintro e w2 ⟨rfl, hb2⟩; rw [HP.out]; have HB2 : Hid (Below w.heap.size w w2) := (B0.out.alloc hs0 _).trans (hb2.mono (by simp; omega)); clear hb2)
    go_ret2
    have hb : ¬ (RightM ms ∧ ((1 : Int) = 3 ∨ RightP [r])) := fun q => by rcases q.2 with h | h; exact absurd h (by decide); exact of_decide_eq_false HP.out h
    rw [← HER.out.1, ← HER.out.2, (tn_bad hb).1, (tn_bad hb).2]
    exact ⟨_, rfl, ⟨none, 0, [], rfl, MonIn.nil _⟩, HB2.out⟩
  | true =>
    have HT : Hid (∀ W : World, Below w.heap.size w W → W.heap[w.heap.size]? = some (.cells #[.int .i64 r.t, .int .i64 r.s, .int .i64 r.e, .int .i64 r.f] 24 (0, 0)) → Calls Try.prog 47 #[.slice a n cap, .agg #[.int .i64 A, .int .i64 M], .func (.func 48) #[] #[.pointer (some ⟨w.heap.size, 0, none⟩)]] W fun e w' => ∃ v, e = .returned (.tuple #[v, .int .i64 E]) ∧ TurnQ R w' v ∧ Below W.heap.size W w') := by
      intro W hb hx
      have := mturn_add w.heap.size (fun m => oneE 1 m r) (fun m => addM m r) a n cap hs ms A M W hn hl hok (h0.below hb) (fun B g c i W' X m h hB hbW H hl' => add_cb r H hl' (box_below hx hbW))
      have hr := of_decide_eq_true HP.out
      rwa [(turn1_eq hr).1, (turn1_eq hr).2, HER.out.1, HER.out.2] at this
    go_enter Try.func14, Try.ntmps14
    go_upto_region 1 with fail
    obtain ⟨W, hW⟩ : ∃ W, w.alloc (.cells #[.int .i64 r.t, .int .i64 r.s, .int .i64 r.e, .int .i64 r.f] 24) = W := ⟨_, rfl⟩
    rw [hW] at X0 B0 ⊢
    clear hW
    have x0 := (box_cell X0.out 0).1
    have x1 := (box_cell X0.out 1).1
    have x2 := (box_cell X0.out 2).1
    have x3 := (box_cell X0.out 3).1
    have hz := box_lt X0.out
    have hs0 := B0.out.size
    go_wp2_with (first
      | (go_at_call 46; go_fit (right_any (some ⟨W.heap.size, 0, none⟩) 1 1 [r] _ (by omega) HOK.out (sl_new (c := Ride.cod) W #[.int .i64 r.t, .int .i64 r.s, .int .i64 r.e, .int .i64 r.f] 24 [r] 1 rfl (by unfold maxLen; omega) rfl)); rintro e w2 ⟨rfl, hb2⟩; rw [HP.out]; have HB2 : Hid (Below w.heap.size w w2) := (B0.out.alloc hs0 _).trans (hb2.mono (by simp; omega)); have X2 := Lib.hid (box_below (box_alloc X0.out) hb2); clear hb2)
      | (go_at_call 47; go_fit (HT.out w2 HB2.out X2.out); rintro e w3 ⟨v, rfl, hq3, hb3⟩; have HQ3 := Lib.hid hq3; have HB3 := Lib.hid (HB2.out.trans (hb3.mono HB2.out.size)); clear hq3 hb3))
    go_ret2
    exact ⟨_, rfl, HQ3.out, HB3.out⟩
set_option maxHeartbeats 4000000 in
set_option maxRecDepth 100000 in
theorem mchange_any (a : Option Addr) (n cap : Nat) (hs : List Hdr) (ms : List Mon) (A M : Int) (r : Ride) (w : World) (hn : n ≤ 100000) (hl : ∀ m ∈ ms, m.rides.length ≤ 100000) (hok : ∀ m ∈ ms, ∀ r ∈ m.rides, Ride.ok r) (hro : Ride.ok r) (h0 : MonIn w a n cap hs ms) :
    Calls Try.prog 15 #[.slice a n cap, .int .i64 A, .int .i64 M, r.val] w fun e w' => ∃ v, e = .returned (.tuple #[v, .int .i64 (turnE 2 ms A M r)]) ∧ TurnQ (turnR 2 ms A M r) w' v ∧ Below w.heap.size w w' := by
  have X0 : Hid ((w.alloc (.cells #[.int .i64 r.t, .int .i64 r.s, .int .i64 r.e, .int .i64 r.f] 24)).heap[w.heap.size]? = some (.cells #[.int .i64 r.t, .int .i64 r.s, .int .i64 r.e, .int .i64 r.f] 24 (0, 0))) := box_new w _
  have B0 : Hid (Below w.heap.size w (w.alloc (.cells #[.int .i64 r.t, .int .i64 r.s, .int .i64 r.e, .int .i64 r.f] 24))) := (Below.refl _ _).alloc (Nat.le_refl _) _
  obtain ⟨p, hp⟩ : ∃ p, decide (RightP [r]) = p := ⟨_, rfl⟩
  have HP := Lib.hid hp
  clear hp
  obtain ⟨E, hE⟩ : ∃ E, turnE 2 ms A M r = E := ⟨_, rfl⟩
  obtain ⟨R, hR⟩ : ∃ R, turnR 2 ms A M r = R := ⟨_, rfl⟩
  have HER : Hid (turnE 2 ms A M r = E ∧ turnR 2 ms A M r = R) := ⟨hE, hR⟩
  rw [hE, hR]
  clear hE hR
  have HOK : Hid (∀ x ∈ [r], Ride.ok x) := fun x hx => by simp at hx; subst hx; exact hro
  clear hro
  have hval : r.val = .agg #[.int .i64 r.t, .int .i64 r.s, .int .i64 r.e, .int .i64 r.f] := rfl
  rw [hval]
  clear hval
  cases p with
  | false =>
    go_enter Try.func15, Try.ntmps15
    go_upto_region 1 with fail
    obtain ⟨W, hW⟩ : ∃ W, w.alloc (.cells #[.int .i64 r.t, .int .i64 r.s, .int .i64 r.e, .int .i64 r.f] 24) = W := ⟨_, rfl⟩
    rw [hW] at X0 B0 ⊢
    clear hW
    have x0 := (box_cell X0.out 0).1
    have x1 := (box_cell X0.out 1).1
    have x2 := (box_cell X0.out 2).1
    have x3 := (box_cell X0.out 3).1
    have hz := box_lt X0.out
    have hs0 := B0.out.size
    go_wp2_with (go_at_call 46; go_fit (right_any (some ⟨W.heap.size, 0, none⟩) 1 1 [r] _ (by omega) HOK.out (sl_new (c := Ride.cod) W #[.int .i64 r.t, .int .i64 r.s, .int .i64 r.e, .int .i64 r.f] 24 [r] 1 rfl (by unfold maxLen; omega) rfl)); rintro e w2 ⟨rfl, hb2⟩; rw [HP.out]; have HB2 : Hid (Below w.heap.size w w2) := (B0.out.alloc hs0 _).trans (hb2.mono (by simp; omega)); clear hb2)
    go_ret2
    have hb : ¬ (RightM ms ∧ ((2 : Int) = 3 ∨ RightP [r])) := fun q => by rcases q.2 with h | h; exact absurd h (by decide); exact of_decide_eq_false HP.out h
    rw [← HER.out.1, ← HER.out.2, (tn_bad hb).1, (tn_bad hb).2]
    exact ⟨_, rfl, ⟨none, 0, [], rfl, MonIn.nil _⟩, HB2.out⟩
  | true =>
    have HT : Hid (∀ W : World, Below w.heap.size w W → W.heap[w.heap.size]? = some (.cells #[.int .i64 r.t, .int .i64 r.s, .int .i64 r.e, .int .i64 r.f] 24 (0, 0)) → Calls Try.prog 47 #[.slice a n cap, .agg #[.int .i64 A, .int .i64 M], .func (.func 51) #[] #[.pointer (some ⟨w.heap.size, 0, none⟩)]] W fun e w' => ∃ v, e = .returned (.tuple #[v, .int .i64 E]) ∧ TurnQ R w' v ∧ Below W.heap.size W w') := by
      intro W hb hx
      have := mturn_change w.heap.size (fun m => oneE 2 m r) (fun m => chgM m r) a n cap hs ms A M W hn hl hok (h0.below hb) (fun B g c i W' X m h hB hbW H hl' => change_cb r H hl' (box_below hx hbW))
      have hr := of_decide_eq_true HP.out
      rwa [(turn2_eq hr).1, (turn2_eq hr).2, HER.out.1, HER.out.2] at this
    go_enter Try.func15, Try.ntmps15
    go_upto_region 1 with fail
    obtain ⟨W, hW⟩ : ∃ W, w.alloc (.cells #[.int .i64 r.t, .int .i64 r.s, .int .i64 r.e, .int .i64 r.f] 24) = W := ⟨_, rfl⟩
    rw [hW] at X0 B0 ⊢
    clear hW
    have x0 := (box_cell X0.out 0).1
    have x1 := (box_cell X0.out 1).1
    have x2 := (box_cell X0.out 2).1
    have x3 := (box_cell X0.out 3).1
    have hz := box_lt X0.out
    have hs0 := B0.out.size
    go_wp2_with (first
      | (go_at_call 46; go_fit (right_any (some ⟨W.heap.size, 0, none⟩) 1 1 [r] _ (by omega) HOK.out (sl_new (c := Ride.cod) W #[.int .i64 r.t, .int .i64 r.s, .int .i64 r.e, .int .i64 r.f] 24 [r] 1 rfl (by unfold maxLen; omega) rfl)); rintro e w2 ⟨rfl, hb2⟩; rw [HP.out]; have HB2 : Hid (Below w.heap.size w w2) := (B0.out.alloc hs0 _).trans (hb2.mono (by simp; omega)); have X2 := Lib.hid (box_below (box_alloc X0.out) hb2); clear hb2)
      | (go_at_call 47; go_fit (HT.out w2 HB2.out X2.out); rintro e w3 ⟨v, rfl, hq3, hb3⟩; have HQ3 := Lib.hid hq3; have HB3 := Lib.hid (HB2.out.trans (hb3.mono HB2.out.size)); clear hq3 hb3))
    go_ret2
    exact ⟨_, rfl, HQ3.out, HB3.out⟩
end Go.Proofs.Ytbdkhgenkekioaa
