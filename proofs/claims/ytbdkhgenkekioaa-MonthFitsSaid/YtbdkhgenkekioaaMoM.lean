/- Months: added to, changed, closed, by the document, walked. -/
import Derived.Test.YtbdkhgenkekioaaMoI
import Derived.Test.YtbdkhgenkekioaaMoJ
import Derived.Test.YtbdkhgenkekioaaMoL
namespace Go.Proofs.Ytbdkhgenkekioaa
open Go.RowKit Go.V Go.Sort Go.Shelf Go.Proofs Go.Maps
open Go.Proofs.Ytbdkhgenkekioaa.Ne (box_alloc box_new box_cell box_below box_lt box2_cells)

def othR (l : List Ride) (t : Int) : List Ride := l.filter fun r => decide (r.t ≠ t)
/-- What comes of one month, the kind being 1 or 2: the error. -/
def oneE (k : Int) (m : Mon) (r : Ride) : Int :=
  if k = 2 then (if findR m.rides r.t < 0 then 30 else 0)
  else if 0 ≤ findR m.rides r.t then (if m.rides.getD (findR m.rides r.t).toNat default = r then 0 else 40)
  else if m.z = true then 41 else if 2048 ≤ m.rides.length then 3 else 0
def monAt (ms : List Mon) (A M : Int) : Mon := ms.getD (findM ms A M).toNat default
noncomputable def turnE (k : Int) (ms : List Mon) (A M : Int) (r : Ride) : Int :=
  if RightM ms ∧ (k = 3 ∨ RightP [r]) then if findM ms A M < 0 then 30 else if k = 3 then 0 else oneE k (monAt ms A M) r else 2
noncomputable def turnR (k : Int) (ms : List Mon) (A M : Int) (r : Ride) : List Mon :=
  if turnE k ms A M r = 0 then
    if k = 3 then ms.set (findM ms A M).toNat { monAt ms A M with z := true }
    else if k = 1 ∧ 0 ≤ findR (monAt ms A M).rides r.t then ms
    else withM ms (findM ms A M) (othR (monAt ms A M).rides r.t ++ [r])
  else []

set_option maxHeartbeats 8000000 in
set_option maxRecDepth 100000 in
theorem rturn_bad (k : Int) (a : Option Addr) (n cap : Nat) (hs : List Hdr) (ms : List Mon) (A M : Int) (r : Ride) (w : World) (hn : n ≤ 1000000) (hl : ∀ m ∈ ms, m.rides.length ≤ 1000000) (h0 : MonIn w a n cap hs ms) (hb : ¬ (RightM ms ∧ (k = 3 ∨ RightP [r]))) :
    Calls Try.prog 17 #[.int .i64 k, .slice a n cap, .int .i64 A, .int .i64 M, r.val] w fun e w' => e = .returned (.tuple #[.slice none 0 0, .int .i64 2]) ∧ Below w.heap.size w w' := by
  have X0 : Hid ((w.alloc (.cells #[.int .i64 r.t, .int .i64 r.s, .int .i64 r.e, .int .i64 r.f] 24)).heap[w.heap.size]? = some (.cells #[.int .i64 r.t, .int .i64 r.s, .int .i64 r.e, .int .i64 r.f] 24 (0, 0))) := box_new w _
  have B0 : Hid (Below w.heap.size w (w.alloc (.cells #[.int .i64 r.t, .int .i64 r.s, .int .i64 r.e, .int .i64 r.f] 24))) := (Below.refl _ _).alloc (Nat.le_refl _) _
  obtain ⟨p1, hp1⟩ : ∃ p, decide (RightM ms) = p := ⟨_, rfl⟩
  obtain ⟨p2, hp2⟩ : ∃ p, decide (RightP [r]) = p := ⟨_, rfl⟩
  have HP : Hid (decide (RightM ms) = p1 ∧ decide (RightP [r]) = p2) := ⟨hp1, hp2⟩
  unfold Ride.val
  cases p1 with
  | false =>
    clear hp1 hp2 hb
    go_enter Try.func17, Try.ntmps17
    go_wp2_with (go_at_call 10; refine (rmright_any a n cap hs ms _ hn hl (h0.below B0.out)).mono ?_; rintro e w1 ⟨rfl, hb1⟩; rw [HP.out.1]; have HB1 := Lib.hid (B0.out.trans (hb1.mono B0.out.size)); clear hb1)
    go_ret2
    exact ⟨rfl, HB1.out⟩
  | true =>
    have h3 : ¬ k = 3 := fun q => hb ⟨of_decide_eq_true hp1, .inl q⟩
    have z3 : (k != 3) = true := by simpa using h3
    have h2 : p2 = false := by
      cases p2 with
      | false => rfl
      | true => exact absurd ⟨of_decide_eq_true hp1, .inr (of_decide_eq_true hp2)⟩ hb
    subst h2
    clear hp1 hp2 hb h3
    go_enter Try.func17, Try.ntmps17
    go_wp2_with (first
      | (go_at_call 10; refine (rmright_any a n cap hs ms _ hn hl (h0.below B0.out)).mono ?_; rintro e w1 ⟨rfl, hb1⟩; rw [HP.out.1]; have HB1 : Hid (Below w.heap.size w w1) := B0.out.trans (hb1.mono B0.out.size); have X1 := Lib.hid (box_below X0.out hb1); have y0 := (box_cell X1.out 0).1; have y1 := (box_cell X1.out 1).1; have y2 := (box_cell X1.out 2).1; have y3 := (box_cell X1.out 3).1; have hz := box_lt X1.out; clear hb1)
      | (go_at_call 26; go_fit (rright_any (some ⟨w1.heap.size, 0, none⟩) 1 1 [r] _ (by omega) (sl_new (c := Ride.cod) w1 #[.int .i64 r.t, .int .i64 r.s, .int .i64 r.e, .int .i64 r.f] 24 [r] 1 rfl (by unfold maxLen; omega) rfl)); rintro e w2 ⟨rfl, hb2⟩; rw [HP.out.2]; have HB2 : Hid (Below w.heap.size w w2) := (HB1.out.alloc HB1.out.size _).trans (hb2.mono (HB1.out.alloc HB1.out.size _).size); clear hb2))
    go_ret2
    exact ⟨rfl, HB2.out⟩
set_option maxHeartbeats 8000000 in
set_option maxRecDepth 100000 in
theorem rturn_none (k : Int) (a : Option Addr) (n cap : Nat) (hs : List Hdr) (ms : List Mon) (A M : Int) (r : Ride) (w : World) (hn : n ≤ 1000000) (hl : ∀ m ∈ ms, m.rides.length ≤ 1000000) (h0 : MonIn w a n cap hs ms) (hr : RightM ms) (hk : k = 3 ∨ k ≠ 3 ∧ RightP [r]) (hf : findM ms A M < 0) :
    Calls Try.prog 17 #[.int .i64 k, .slice a n cap, .int .i64 A, .int .i64 M, r.val] w fun e w' => e = .returned (.tuple #[.slice none 0 0, .int .i64 30]) ∧ Below w.heap.size w w' := by
  have X0 : Hid ((w.alloc (.cells #[.int .i64 r.t, .int .i64 r.s, .int .i64 r.e, .int .i64 r.f] 24)).heap[w.heap.size]? = some (.cells #[.int .i64 r.t, .int .i64 r.s, .int .i64 r.e, .int .i64 r.f] 24 (0, 0))) := box_new w _
  have B0 : Hid (Below w.heap.size w (w.alloc (.cells #[.int .i64 r.t, .int .i64 r.s, .int .i64 r.e, .int .i64 r.f] 24))) := (Below.refl _ _).alloc (Nat.le_refl _) _
  obtain ⟨F, hF⟩ : ∃ F, findM ms A M = F := ⟨_, rfl⟩
  have HF := Lib.hid hF
  rw [hF] at hf
  clear hF
  unfold Ride.val
  rcases hk with rfl | ⟨h3, h4⟩
  · have HP : Hid (decide (RightM ms) = true ∧ True) := ⟨decide_eq_true hr, trivial⟩
    clear hr
    go_enter Try.func17, Try.ntmps17
    go_wp2_with (first
      | (go_at_call 10; refine (rmright_any a n cap hs ms _ (by omega) hl (h0.below B0.out)).mono ?_; rintro e w1 ⟨rfl, hb1⟩; rw [HP.out.1]; have HB1 : Hid (Below w.heap.size w w1) := B0.out.trans (hb1.mono B0.out.size); have X1 := Lib.hid (box_below X0.out hb1); have y0 := (box_cell X1.out 0).1; have y1 := (box_cell X1.out 1).1; have y2 := (box_cell X1.out 2).1; have y3 := (box_cell X1.out 3).1; have hz := box_lt X1.out; clear hb1)
      | (go_at_call 19; refine (rmfind_any a n cap hs ms A M _ (by omega) (h0.below HB1.out)).mono ?_; rintro e w3 ⟨rfl, rfl⟩; rw [HF.out]))
    go_ret2
    exact ⟨rfl, HB1.out⟩
  · have HP : Hid (decide (RightM ms) = true ∧ decide (RightP [r]) = true) := ⟨decide_eq_true hr, decide_eq_true h4⟩
    have z3 : (k != 3) = true := by simpa using h3
    clear hr h3 h4
    go_enter Try.func17, Try.ntmps17
    go_wp2_with (first
      | (go_at_call 10; refine (rmright_any a n cap hs ms _ (by omega) hl (h0.below B0.out)).mono ?_; rintro e w1 ⟨rfl, hb1⟩; rw [HP.out.1]; have HB1 : Hid (Below w.heap.size w w1) := B0.out.trans (hb1.mono B0.out.size); have X1 := Lib.hid (box_below X0.out hb1); have y0 := (box_cell X1.out 0).1; have y1 := (box_cell X1.out 1).1; have y2 := (box_cell X1.out 2).1; have y3 := (box_cell X1.out 3).1; have hz := box_lt X1.out; clear hb1)
      | (go_at_call 26; go_fit (rright_any (some ⟨w1.heap.size, 0, none⟩) 1 1 [r] _ (by omega) (sl_new (c := Ride.cod) w1 #[.int .i64 r.t, .int .i64 r.s, .int .i64 r.e, .int .i64 r.f] 24 [r] 1 rfl (by unfold maxLen; omega) rfl)); rintro e w2 ⟨rfl, hb2⟩; rw [HP.out.2]; have HB2 : Hid (Below w.heap.size w w2) := (HB1.out.alloc HB1.out.size _).trans (hb2.mono (HB1.out.alloc HB1.out.size _).size); have X2 := Lib.hid (box_below (box_alloc X1.out) hb2); clear hb2 y0 y1 y2 y3 hz; have y0 := (box_cell X2.out 0).1; have y1 := (box_cell X2.out 1).1; have y2 := (box_cell X2.out 2).1; have y3 := (box_cell X2.out 3).1; have hz := box_lt X2.out)
      | (go_at_call 19; refine (rmfind_any a n cap hs ms A M _ (by omega) (h0.below HB2.out)).mono ?_; rintro e w3 ⟨rfl, rfl⟩; rw [HF.out]))
    go_ret2
    exact ⟨rfl, HB2.out⟩
/-! ### One closed -/
theorem mflat_set : ∀ (X : List MH) (j : Nat) (x : MH), X[j]? = some x → (X.flatMap MH.enc).set (j * 6 + 5) (.bool true) = (X.set j { x with z := true }).flatMap MH.enc
  | [], j, x, h => by simp at h
  | y :: X, 0, x, h => by
    simp at h; subst h
    simp [List.flatMap_cons, MH.enc]
  | y :: X, j + 1, x, h => by
    have ih := mflat_set X j x (by simpa using h)
    rw [List.set_cons_succ, List.flatMap_cons, List.flatMap_cons, ← ih]
    have e : (j + 1) * 6 + 5 = (j * 6 + 5) + 6 := by omega
    rw [e]
    simp [MH.enc]
theorem zip_setz {ms : List Mon} {hs : List Hdr} {j : Nat} {m : Mon} {h : Hdr} (hm : ms[j]? = some m) (hh : hs[j]? = some h) : (List.zipWith Mon.hd ms hs).set j { m.hd h with z := true } = List.zipWith Mon.hd (ms.set j { m with z := true }) hs := by
  apply List.ext_getElem?
  intro i
  have l1 := (List.getElem?_eq_some_iff.1 hm).1
  have l2 := (List.getElem?_eq_some_iff.1 hh).1
  by_cases hi : i = j
  · subst hi
    rw [List.getElem?_set_self (by rw [List.length_zipWith]; omega), List.getElem?_zipWith, List.getElem?_set_self l1, hh]
    rfl
  · rw [List.getElem?_set_ne (fun e => hi e.symm), List.getElem?_zipWith, List.getElem?_zipWith, List.getElem?_set_ne (fun e => hi e.symm)]
theorem MonOwn.closed {base g n cap j : Nat} {w : World} {hs : List Hdr} {ms : List Mon} {m : Mon} (h : MonOwn base w (.slice (some ⟨g, 0, none⟩) n cap) hs ms) (hn : n = ms.length) (hm : ms[j]? = some m) (hr : ∀ (i : Nat) (q : Hdr) (x : Mon), hs[i]? = some q → ms[i]? = some x → Sl Ride.cod (w.setCell ⟨g, j * 6 + 5, none⟩ (.bool true)) q.a q.n q.cap x.rides) :
    MonOwn base (w.setCell ⟨g, j * 6 + 5, none⟩ (.bool true)) (.slice (some ⟨g, 0, none⟩) n cap) hs (ms.set j { m with z := true }) := by
  have hlj := (List.getElem?_eq_some_iff.1 hm).1
  obtain ⟨q, hq⟩ : ∃ q, hs[j]? = some q := ⟨_, List.getElem?_eq_getElem (by rw [h.len]; exact hlj)⟩
  refine ⟨?_, by rw [List.length_set]; exact h.len, fun i g' x h1 h2 => ?_⟩
  · have h' : w.ownsRow base 27 6 (.slice (some ⟨g, 0, none⟩) n cap) (List.zipWith Mon.hd ms hs).length ((List.zipWith Mon.hd ms hs).flatMap MH.cod.enc) := h.own
    have hz : (List.zipWith Mon.hd ms hs).length = n := by rw [List.length_zipWith, h.len, Nat.min_self, hn]
    rw [hz] at h'
    obtain ⟨h1, -⟩ := h'.stored (j * 6 + 5) (.bool true)
    show World.ownsRow _ base 27 6 _ _ _
    rw [← zip_setz hm hq]
    have e : ((List.zipWith Mon.hd ms hs).set j { m.hd q with z := true }).flatMap MH.cod.enc = _ := (mflat_set _ j _ (by rw [List.getElem?_zipWith, hm, hq])).symm
    rw [e, List.length_set, hz]
    exact h1
  · by_cases hi : i = j
    · subst hi
      rw [List.getElem?_set_self hlj] at h2
      simp at h2; subst h2
      exact hr i g' m h1 hm
    · rw [List.getElem?_set_ne (fun e => hi e.symm)] at h2
      exact hr i g' x h1 h2
theorem withM_none (ms : List Mon) : withM ms (-1) [] = ms := by
  apply List.ext_getElem?
  intro i
  unfold withM
  rw [List.getElem?_mapIdx]
  cases ms[i]? with
  | none => rfl
  | some m =>
    have : ¬ (i : Int) = -1 := by omega
    simp [this]
theorem own_some_ {α : Type} {e : TypeId} {c : Cod α} {base : Nat} {w : World} {v : Value} {xs : List α} (h : V.Own e c base w v xs) (hx : xs ≠ []) : ∃ g cap, v = .slice (some ⟨g, 0, none⟩) xs.length cap ∧ base ≤ g := by
  obtain ⟨h1, h2⟩ := h
  rcases h2 with ⟨-, h2⟩ | ⟨g, cap, cur, rfl, h3, h4, h5⟩
  · exact absurd (List.eq_nil_of_length_eq_zero h2) hx
  · exact ⟨g, cap, rfl, h3⟩

set_option maxHeartbeats 8000000 in
set_option maxRecDepth 100000 in
theorem rturn_close (a : Option Addr) (n cap : Nat) (hs : List Hdr) (ms : List Mon) (A M : Int) (r : Ride) (m : Mon) (j : Nat) (w : World) (hn : n ≤ 100000) (hl : ∀ m ∈ ms, m.rides.length ≤ 1000000) (h0 : MonIn w a n cap hs ms) (hr : RightM ms) (hf : findM ms A M = j) (hm : ms[j]? = some m) :
    Calls Try.prog 17 #[.int .i64 3, .slice a n cap, .int .i64 A, .int .i64 M, r.val] w fun e w' => ∃ v hs', e = .returned (.tuple #[v, .int .i64 0]) ∧ MonOwn w.heap.size w' v hs' (ms.set j { m with z := true }) ∧ Below w.heap.size w w' := by
  have B0 : Hid (Below w.heap.size w (w.alloc (.cells #[.int .i64 r.t, .int .i64 r.s, .int .i64 r.e, .int .i64 r.f] 24))) := (Below.refl _ _).alloc (Nat.le_refl _) _
  have HF := Lib.hid hf
  have HM := Lib.hid hm
  have HP : Hid (decide (RightM ms) = true) := decide_eq_true hr
  have HN := Lib.hid h0.n_eq
  have hjn : j < n := by rw [h0.n_eq]; exact (List.getElem?_eq_some_iff.1 hm).1
  unfold Ride.val
  clear hf hm hr
  go_enter Try.func17, Try.ntmps17
  go_upto_region 6 with (first
    | (go_at_call 10; refine (rmright_any a n cap hs ms _ (by omega) hl (h0.below B0.out)).mono ?_; rintro e w1 ⟨rfl, hb1⟩; rw [HP.out]; have HB1 : Hid (Below w.heap.size w w1) := B0.out.trans (hb1.mono B0.out.size); clear hb1)
    | (go_at_call 19; refine (rmfind_any a n cap hs ms A M _ (by omega) (h0.below HB1.out)).mono ?_; rintro e w3 ⟨rfl, rfl⟩; rw [HF.out]))
  obtain ⟨b, off, at_, ct, m', rfl, hbb, hm', -, ⟨c0, c1, c2, c3, c4, c5⟩, -⟩ := (h0.below HB1.out).at hjn
  have b1 : (j : Int) < (n : Int) := by omega
  have hs1 := HB1.out.size
  go_upto_region 9 with (go_at_call 53; refine (rwith_any (some ⟨b, off, none⟩) n cap hs ms (-1) none 0 0 [] _ hn (by omega) (h0.below (HB1.out.alloc hs1 _)) ⟨rfl, by omega, by unfold maxLen; omega, fun _ => ⟨rfl, rfl⟩, fun d hd => nomatch hd⟩).mono ?_; rintro e w4 ⟨v, hs', rfl, ho, he, hb4⟩; rw [withM_none] at ho he; have HO := Lib.hid ho; have HE := Lib.hid he; have HB4 := Lib.hid hb4; clear ho he hb4)
  have hl9 : (List.zipWith Mon.hd ms hs').length = n := by rw [List.length_zipWith, HO.out.len, Nat.min_self, ← HN.out]
  obtain ⟨g, cg, e9, hg⟩ := own_some_ HO.out.own (by intro q; rw [q] at hl9; simp at hl9; omega)
  rw [hl9] at e9
  subst e9
  have hfz : w4.frozen? ⟨g, j * 6 + 5, none⟩ = false := by
    have h' : w4.ownsRow (w1.alloc (.cells #[.int .i64 m'.a, .int .i64 m'.m, .int .i64 m'.t, .int .i64 m'.c, .slice at_ m'.rides.length ct, .bool m'.z] 27)).heap.size 27 6 (.slice (some ⟨g, 0, none⟩) n cg) (List.zipWith Mon.hd ms hs').length ((List.zipWith Mon.hd ms hs').flatMap MH.cod.enc) := HO.out.own
    rw [hl9] at h'
    exact World.ownsRow.frozenAt h' _
  obtain ⟨a9, c9, e8, hin⟩ := HO.out.monIn
  cases e8
  obtain ⟨b7, o7, at7, ct7, m7, e7, hb7, hm7, hh7, ⟨x0, x1, x2, x3, x4, x5⟩, -⟩ := hin.at (i := j) (by rw [← HN.out]; exact hjn)
  cases e7
  rw [Nat.zero_add] at x5
  have hz4 := hin.hd
  have hbz := HB4.out.size
  have hgw : w.heap.size ≤ g := by simp at hg; omega
  have HBF : Hid (Below w.heap.size w w4) := (HB1.out.alloc hs1 (.cells #[.int .i64 m'.a, .int .i64 m'.m, .int .i64 m'.t, .int .i64 m'.c, .slice at_ m'.rides.length ct, .bool m'.z] 27)).trans (HB4.out.mono (by simp; omega))
  go_wp2_with fail
  go_ret2
  have HOL : MonOwn w.heap.size w4 _ hs' ms := ⟨HO.out.own.lower (by rw [World.size_alloc]; omega), HO.out.len, HO.out.each⟩
  refine ⟨_, rfl, ⟨hs', MonOwn.closed HOL rfl HM.out (fun i q x h1 h2 => ?_)⟩, HBF.out.setCell (p := ⟨g, j * 6 + 5, none⟩) hgw _⟩
  rcases HE.out i q x h1 h2 with h3 | h3
  · exact h3.below (HB4.out.setCell (p := ⟨g, j * 6 + 5, none⟩) hg _)
  · exact Wi.own_sl (h3.kept (Wi.set_grown _ g _ _) (Wi.own_apart h3 HO.out.own (by decide)))
end Go.Proofs.Ytbdkhgenkekioaa
