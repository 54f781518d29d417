/- Apportion: a ride's weights; dues, settled: plain. -/
/- Apportion: may operators be; how many; which link: walked. -/
/- Apportion: a ride's weights: walked. -/
/- Apportion: may operators be, and a ride's weights, by definition: walked. -/
import Derived.Test.YtgfakkkiejeofaaNvB
import Derived.Test.YtgfakkkiejeofaaNsD
import Derived.Test.YtgfakkkiejeofaaNeE
import Derived.BigQuiet
import Derived.Deep.QuietTactic
import Derived.Test.YtgfakkkiejeofaaNvA
import Derived.Test.YtgfakkkiejeofaaIr
import Derived.Test.YtgfakkkiejeofaaNvF
namespace Go.Proofs.Ytgfakkkiejeofaa.Ne
open Go.RowKit Go.V Go.Proofs Go.Sort

def opB (o : Int) : Bool := decide (0 ≤ o ∧ o ≤ 63)
/-- May operators be a network's? The error. -/
def opE (n : Net) (os : List Int) : Int := if checkE n = 0 then (if os.length = n.links.length ∧ os.all opB = true then 0 else 2) else checkE n
def manyE : List Int → Int → Int
  | [], m => m
  | o :: os, m => manyE os (if m < o + 1 then o + 1 else m)
theorem manyE_in : ∀ (os : List Int) (m : Int), os.all opB = true → 0 ≤ m → m ≤ 64 → m ≤ manyE os m ∧ manyE os m ≤ 64 ∧ ∀ o ∈ os, 0 ≤ o ∧ o < manyE os m
  | [], m, _, h0, h1 => ⟨Int.le_refl _, h1, (fun o ho => nomatch ho)⟩
  | o :: os, m, h, h0, h1 => by
    rw [List.all_cons, Bool.and_eq_true] at h
    have ho : 0 ≤ o ∧ o ≤ 63 := of_decide_eq_true h.1
    have key : ∀ m', m ≤ m' → o + 1 ≤ m' → m' ≤ 64 → m ≤ manyE os m' ∧ manyE os m' ≤ 64 ∧ ∀ x ∈ o :: os, 0 ≤ x ∧ x < manyE os m' := by
      intro m' q1 q2 q3
      obtain ⟨i1, i2, i3⟩ := manyE_in os m' h.2 (by omega) q3
      refine ⟨by omega, i2, fun x hx => ?_⟩
      rcases List.mem_cons.1 hx with e | e
      · subst e; omega
      · exact i3 x e
    show m ≤ manyE os _ ∧ manyE os _ ≤ 64 ∧ ∀ x ∈ o :: os, 0 ≤ x ∧ x < manyE os _
    split
    · exact key _ (by omega) (Int.le_refl _) (by omega)
    · exact key _ (Int.le_refl _) (by omega) h1
theorem opE_ok {n : Net} {os : List Int} (h : opE n os = 0) : checkE n = 0 ∧ os.length = n.links.length ∧ os.all opB = true := by
  unfold opE at h
  split at h
  · next h1 =>
    split at h
    · next h2 => exact ⟨h1, h2.1, h2.2⟩
    · omega
  · next h1 => exact absurd h h1

/-- Which link is two stops'. -/
def idxE (L : List Lnk) (a b : Int) : Nat := L.findIdx (twoB a b)
theorem idx_of {L : List Lnk} {a b : Int} (h : wtE L a b ≠ 0) : ∃ l, L[idxE L a b]? = some l ∧ twoB a b l = true ∧ l.w = wtE L a b ∧ ∀ (i : Nat) (x : Lnk), i < idxE L a b → L[i]? = some x → twoB a b x = false := by
  have hex : ∃ x, x ∈ L ∧ twoB a b x = true := by
    unfold wtE at h
    cases e : L.find? (twoB a b) with
    | none => rw [e] at h; exact absurd rfl h
    | some l => exact ⟨l, List.mem_of_find?_eq_some e, List.find?_some e⟩
  have hlt : idxE L a b < L.length := List.findIdx_lt_length.2 hex
  have h1 : L[idxE L a b]? = some (L[idxE L a b]'hlt) := List.getElem?_eq_getElem hlt
  have h2 : twoB a b (L[idxE L a b]'hlt) = true := List.findIdx_getElem (w := hlt)
  have h3 : ∀ (i : Nat) (x : Lnk), i < idxE L a b → L[i]? = some x → twoB a b x = false := by
    intro i x hi hx
    have := List.not_of_lt_findIdx (p := twoB a b) (xs := L) hi
    have e : L[i]? = some (L[i]'(by omega)) := List.getElem?_eq_getElem (by omega)
    rw [e] at hx; cases hx; exact this
  refine ⟨_, h1, h2, ?_, h3⟩
  refine (wtE_past h1 (fun x hx => ?_) h2).symm
  obtain ⟨i, hi⟩ := List.mem_iff_getElem?.1 hx
  have hlt2 : i < (L.take (idxE L a b)).length := (List.getElem?_eq_some_iff.1 hi).1
  rw [List.getElem?_take_of_lt (by simp at hlt2; omega)] at hi
  exact h3 i x (by simp at hlt2; omega) hi
theorem two_one {L : List Lnk} {k : Nat} (hL : LinksOk L k) (hp : L.Pairwise fun a b => aftB a b = true) {a b : Int} {i j : Nat} {x y : Lnk} (hi : L[i]? = some x) (hj : L[j]? = some y) (h1 : twoB a b x = true) (h2 : twoB a b y = true) : i = j := by
  have hx := hL x (List.mem_of_getElem? hi)
  have hy := hL y (List.mem_of_getElem? hj)
  have e1 : x.a = a ∧ x.b = b ∨ x.a = b ∧ x.b = a := of_decide_eq_true h1
  have e2 : y.a = a ∧ y.b = b ∨ y.a = b ∧ y.b = a := of_decide_eq_true h2
  have hab : x.a = y.a ∧ x.b = y.b := by omega
  have hno : ∀ (u v : Lnk), u.a = v.a ∧ u.b = v.b → aftB u v = false := by
    intro u v h
    unfold aftB
    apply decide_eq_false
    omega
  rw [List.pairwise_iff_getElem] at hp
  obtain ⟨l1, q1⟩ := List.getElem?_eq_some_iff.1 hi
  obtain ⟨l2, q2⟩ := List.getElem?_eq_some_iff.1 hj
  rcases Nat.lt_trichotomy i j with h | h | h
  · have := hp i j l1 l2 h
    rw [q1, q2, hno x y hab] at this; cases this
  · exact h
  · have := hp j i l2 l1 h
    rw [q1, q2, hno y x ⟨hab.1.symm, hab.2.symm⟩] at this; cases this
/-- One link more: its operator gets its weight. -/
def addE (L : List Lnk) (os : List Int) (a b : Int) (out : List Int) : List Int := out.set (os.getD (idxE L a b) 0).toNat (out.getD (os.getD (idxE L a b) 0).toNat 0 + wtE L a b)
def wsGo (L : List Lnk) (os xs : List Int) : Nat → Nat → List Int → List Int
  | 0, _, out => out
  | c + 1, i, out => wsGo L os xs c (i + 1) (addE L os (xs.getD i 0) (xs.getD (i + 1) 0) out)
def weightsE (n : Net) (k : Nat) (os : List Int) (a b : Int) : List Int := wsGo n.links os (wayL n.links k a b) ((wayL n.links k a b).length - 1) 0 (List.replicate (manyE os 0).toNat 0)
/-- What the numbers of a row are between. -/
def Wb (m : Nat) (acc : Int) (out : List Int) : Prop := out.length = m ∧ ∀ x ∈ out, 0 ≤ x ∧ x ≤ acc
theorem Wb.add {L : List Lnk} {k m : Nat} (hL : LinksOk L k) {os : List Int} {acc : Int} {out : List Int} (h : Wb m acc out) (h0 : 0 ≤ acc) (a b : Int) : Wb m (acc + wtE L a b) (addE L os a b out) := by
  have hw := wt_lim hL a b
  refine ⟨by unfold addE; rw [List.length_set]; exact h.1, fun x hx => ?_⟩
  unfold addE at hx
  rcases List.mem_or_eq_of_mem_set hx with e | e
  · have := h.2 x e; omega
  · have hd : 0 ≤ out.getD (os.getD (idxE L a b) 0).toNat 0 ∧ out.getD (os.getD (idxE L a b) 0).toNat 0 ≤ acc := by
      rw [List.getD_eq_getElem?_getD]
      cases hg : out[(os.getD (idxE L a b) 0).toNat]? with
      | none => exact ⟨Int.le_refl _, h0⟩
      | some y => exact h.2 y (List.mem_of_getElem? hg)
    omega
/-- A good way's weights run on. -/
theorem wRun_le {L : List Lnk} {k : Nat} (hL : LinksOk L k) {xs : List Int} : ∀ (c i : Nat) (acc d : Int), wRun L xs c i acc = (d, true) → acc ≤ d
  | 0, i, acc, d, h => by
    have h : (acc, true) = (d, true) := h
    cases h; exact Int.le_refl _
  | c + 1, i, acc, d, h => by
    by_cases e : wtE L (xs.getD i 0) (xs.getD (i + 1) 0) = 0
    · rw [wRun_stop e] at h; cases h
    · rw [wRun_step rfl e] at h
      have := wRun_le hL c (i + 1) _ d h
      have := wt_lim hL (xs.getD i 0) (xs.getD (i + 1) 0)
      omega
theorem wRun_ne {L : List Lnk} {xs : List Int} {c i : Nat} {acc d : Int} (h : wRun L xs (c + 1) i acc = (d, true)) : wtE L (xs.getD i 0) (xs.getD (i + 1) 0) ≠ 0 ∧ wRun L xs c (i + 1) (acc + wtE L (xs.getD i 0) (xs.getD (i + 1) 0)) = (d, true) := by
  by_cases e : wtE L (xs.getD i 0) (xs.getD (i + 1) 0) = 0
  · rw [wRun_stop e] at h; cases h
  · rw [wRun_step rfl e] at h; exact ⟨e, h⟩
theorem wsGo_in {L : List Lnk} {k : Nat} (hL : LinksOk L k) (os xs : List Int) (m : Nat) : ∀ (c i : Nat) (acc d : Int) (out : List Int), wRun L xs c i acc = (d, true) → 0 ≤ acc → Wb m acc out → Wb m d (wsGo L os xs c i out)
  | 0, i, acc, d, out, h, h0, hb => by
    have h : (acc, true) = (d, true) := h
    cases h; exact hb
  | c + 1, i, acc, d, out, h, h0, hb => by
    obtain ⟨e, h'⟩ := wRun_ne h
    have := wt_lim hL (xs.getD i 0) (xs.getD (i + 1) 0)
    exact wsGo_in hL os xs m c (i + 1) _ d _ h' (by omega) (hb.add hL h0 _ _)
theorem wb_new (m : Nat) : Wb m 0 (List.replicate m 0) := ⟨List.length_replicate, fun x hx => by rw [List.eq_of_mem_replicate hx]; omega⟩
def werrE (n : Net) (k : Nat) (os : List Int) (a b : Int) : Int := if opE n os = 0 then wayErr n k a b else opE n os
theorem getD_at {α : Type} {l : List α} {i : Nat} {x d : α} (h : l[i]? = some x) : l.getD i d = x := by rw [List.getD_eq_getElem?_getD, h]; rfl
theorem wsGo_len (L : List Lnk) (os xs : List Int) : ∀ (c i : Nat) (out : List Int), (wsGo L os xs c i out).length = out.length
  | 0, _, _ => rfl
  | c + 1, i, out => by
    show (wsGo L os xs c (i + 1) _).length = _
    rw [wsGo_len L os xs c (i + 1)]
    unfold addE
    rw [List.length_set]
theorem weightsE_len (n : Net) (k : Nat) (os : List Int) (a b : Int) : (weightsE n k os a b).length = (manyE os 0).toNat := by
  unfold weightsE
  rw [wsGo_len, List.length_replicate]
end Go.Proofs.Ytgfakkkiejeofaa.Ne

namespace Go.Proofs.Ytgfakkkiejeofaa.Ne
open Go.RowKit Go.V Go.Proofs Go.Sort

set_option maxHeartbeats 400000 in
theorem awith_any (n lo hi : Int) (w : World) :
    Calls Try.prog 17 #[.int .i64 n, .int .i64 lo, .int .i64 hi] w fun e w' => e = .returned (.bool (decide (lo ≤ n ∧ n ≤ hi))) ∧ w = w' := by
  by_cases h1 : lo ≤ n
  · go_enter Try.func17, Try.ntmps17
    go_wp2
    go_ret
    exact ⟨ret_bool (by simp [h1]), rfl⟩
  · have d1 : decide (lo ≤ n) = false := decide_eq_false h1
    go_enter Try.func17, Try.ntmps17
    go_wp2
    go_ret
    exact ⟨ret_bool (by simp), rfl⟩
set_option maxHeartbeats 400000 in
theorem amay1_any (o : Int) (w : World) : Calls Try.prog 33 #[.int .i64 o] w fun e w' => e = .returned (.bool (!opB o)) ∧ w = w' := by
  obtain ⟨b, hb⟩ : ∃ b, opB o = b := ⟨_, rfl⟩
  have HB : Hid (decide (0 ≤ o ∧ o ≤ 63) = b) := hb
  rw [hb]
  clear hb
  go_enter Try.func33, Try.ntmps33
  go_wp2_with (go_at_call 17; refine (awith_any o 0 63 _).mono ?_; rintro e w1 ⟨rfl, rfl⟩; rw [HB.out])
  go_ret
  exact ⟨rfl, rfl⟩

set_option maxHeartbeats 1000000 in
theorem oindex_any (a : Option Addr) (n cap : Nat) (xs : List Int) (w : World) (h : Sl icod w a n cap xs) :
    Calls Try.prog 49 #[.slice a n cap, .func (.func 33) #[] #[]] w fun e w' => ∃ i : Int, e = .returned (.int .i64 i) ∧ (xs.all opB = true → i = -1) ∧ (xs.all opB = false → 0 ≤ i ∧ decide (0 ≤ i) = true) ∧ w = w' := by
  have hN := Lib.hid h.hlen
  have HH := Lib.hid h
  have hn9 : n ≤ 9223372036854775807 := by have h1 : n ≤ cap := h.hcap; have h2 : cap ≤ maxLen := h.hmax; unfold maxLen at h2; omega
  clear h
  go_enter Try.func49, Try.ntmps49
  go_wp2_with fail
  go_loopw [8] (fun v wr => ∃ k : Nat, v = .int .i64 k ∧ k ≤ n ∧ Hid ((xs.take k).all opB = true) ∧ Hid (w = wr)) (fun v _ => n - (intOf v).toNat)
  case atStart => exact ⟨0, by go_num, by omega, rfl, rfl⟩
  case round =>
    obtain ⟨k, rfl, hk, hall, HW⟩ := hrel
    have hw := HW.out
    clear HW
    subst hw
    by_cases hlt : k < n
    · obtain ⟨b, off, r, rfl, hbl, hr, c0⟩ := int_at HH.out hlt
      have HR := Lib.hid hr
      have hji : (k : Int) < (n : Int) := by omega
      clear hr
      obtain ⟨bb, hbb⟩ : ∃ bb, opB r = bb := ⟨_, rfl⟩
      have HBB := Lib.hid hbb
      clear hbb
      cases bb with
      | true =>
        go_wp2_with (go_at_call 33; refine (amay1_any r _).mono ?_; rintro e w1 ⟨rfl, rfl⟩; rw [HBB.out])
        go_roundw
        case rel => exact ⟨k + 1, by go_num, by omega, by show _ = _; rw [take_at HR.out, List.all_append, hall.out]; simp [HBB.out], Lib.hid trivial⟩
        case measure => simp [intOf]; omega
      | false =>
        go_wp2_with (go_at_call 33; refine (amay1_any r _).mono ?_; rintro e w1 ⟨rfl, rfl⟩; rw [HBB.out])
        go_ret
        refine ⟨k, rfl, fun hh => ?_, fun _ => ⟨by omega, decide_eq_true (by omega)⟩, rfl⟩
        have := List.all_eq_true.1 hh r (List.mem_of_getElem? HR.out)
        rw [HBB.out] at this; cases this
    · have hk' : k = n := by omega
      subst hk'
      go_wp2_with fail
      go_ret
      refine ⟨-1, rfl, fun _ => rfl, fun hh => ?_, rfl⟩
      have := hall.out
      rw [List.take_of_length_le (by have := hN.out; omega), hh] at this; cases this
set_option maxHeartbeats 1000000 in
theorem ocontains_any (a : Option Addr) (n cap : Nat) (xs : List Int) (w : World) (h : Sl icod w a n cap xs) :
    Calls Try.prog 32 #[.slice a n cap, .func (.func 33) #[] #[]] w fun e w' => e = .returned (.bool (!xs.all opB)) ∧ w = w' := by
  go_enter Try.func32, Try.ntmps32
  obtain ⟨bb, hbb⟩ : ∃ bb, xs.all opB = bb := ⟨_, rfl⟩
  rw [hbb]
  have HBB := Lib.hid hbb
  clear hbb
  cases bb with
  | true =>
    go_wp2_with (go_at_call 49; refine (oindex_any a n cap xs w h).mono ?_; rintro e w1 ⟨i, rfl, h1, -, rfl⟩; rw [h1 HBB.out]; clear h1)
    go_ret
    exact ⟨rfl, rfl⟩
  | false =>
    go_wp2_with (go_at_call 49; refine (oindex_any a n cap xs w h).mono ?_; rintro e w1 ⟨i, rfl, -, h1, rfl⟩; obtain ⟨h2, h3⟩ := h1 HBB.out)
    go_ret
    exact ⟨ret_bool (by simp), rfl⟩

set_option maxHeartbeats 1000000 in
theorem amay_any (n : Net) (hs hl : Hdr) (a : Option Addr) (on oc : Nat) (os : List Int) (w : World) (hm : hs.n ≤ 1000000 ∧ hl.n ≤ 1000000) (h : NetIn w n hs hl) (ho : Sl icod w a on oc os) :
    Calls Try.prog 15 #[n.val hs hl, .slice a on oc] w fun e w' => e = .returned (.int .i64 (opE n os)) ∧ Below w.heap.size w w' := by
  obtain ⟨sa, k, sc⟩ := hs
  obtain ⟨la, m, lc⟩ := hl
  have HX0 := Lib.hid (box_new w (n.box ⟨sa, k, sc⟩ ⟨la, m, lc⟩))
  have HB0 : Hid (Below w.heap.size w (w.alloc (n.box ⟨sa, k, sc⟩ ⟨la, m, lc⟩))) := (Below.refl _ _).alloc (Nat.le_refl _) _
  have HH := Lib.hid (h.below HB0.out)
  have HO := Lib.hid ho
  have HN : Hid (on = os.length) := ho.hlen
  have HLN : Hid (m = n.links.length) := h.l.hlen
  have ho9 : on ≤ 9223372036854775807 := by have h1 : on ≤ oc := ho.hcap; have h2 : oc ≤ maxLen := ho.hmax; unfold maxLen at h2; omega
  have hm2 : m ≤ 1000000 := hm.2
  obtain ⟨ce, hce⟩ : ∃ ce, checkE n = ce := ⟨_, rfl⟩
  have HCE := Lib.hid hce
  have HE : Hid (opE n os = if ce = 0 then (if on = m ∧ os.all opB = true then 0 else 2) else ce) := by show _ = _; unfold opE; rw [hce, HN.out, HLN.out]
  obtain ⟨q, hq⟩ : ∃ q, opE n os = q := ⟨_, rfl⟩
  rw [hq] at HE ⊢
  obtain ⟨c0, c1, c2, -, -, -⟩ := box3_cells HX0.out
  clear h ho hce hq
  by_cases h0 : ce = 0
  case neg =>
    have hz : ce = q := by rw [HE.out, if_neg h0]
    have h0b : (ce != 0) = true := by simpa using h0
    subst hz
    clear h0
    go_enter Try.func15, Try.ntmps15
    go_wp2_with (go_at_call 31; go_loud (refine (check_any n ⟨sa, k, sc⟩ ⟨la, m, lc⟩ _ hm HH.out).mono ?_); rintro e w1 ⟨rfl, hb1⟩; rw [HCE.out]; have HB1 := Lib.hid (HB0.out.trans (hb1.mono HB0.out.size)); clear hb1)
    go_ret
    exact ⟨rfl, HB1.out⟩
  case pos =>
    subst h0
    have HE2 := HE.out
    rw [if_pos rfl] at HE2
    by_cases h1 : on = m
    case neg =>
      have hz : 2 = q := by rw [HE2, if_neg (fun hh => h1 hh.1)]
      have h1b : ((on : Int) != (m : Int)) = true := by simp; omega
      subst hz
      clear h1 HE2
      go_enter Try.func15, Try.ntmps15
      go_wp2_with (go_at_call 31; go_loud (refine (check_any n ⟨sa, k, sc⟩ ⟨la, m, lc⟩ _ hm HH.out).mono ?_); rintro e w1 ⟨rfl, hb1⟩; rw [HCE.out]; have HB1 := Lib.hid (HB0.out.trans (hb1.mono HB0.out.size)); have HX1 := Lib.hid (box_below HX0.out hb1); obtain ⟨-, -, d2, -, -, -⟩ := box3_cells HX1.out; clear hb1)
      go_ret
      exact ⟨rfl, HB1.out⟩
    case pos =>
      have h1b : ((on : Int) != (m : Int)) = false := by simp; omega
      obtain ⟨bb, hbb⟩ : ∃ bb, os.all opB = bb := ⟨_, rfl⟩
      rw [hbb] at HE2
      have HBB := Lib.hid hbb
      clear hbb
      have hz : (if bb = true then (0 : Int) else 2) = q := by
        rw [HE2]
        cases bb
        · rw [if_neg (by simp), if_neg (by simp)]
        · rw [if_pos rfl, if_pos ⟨h1, rfl⟩]
      clear HE2 h1
      cases bb with
      | true =>
        have hz : (0 : Int) = q := hz
        subst hz
        go_enter Try.func15, Try.ntmps15
        go_wp2_with (first
          | (go_at_call 31; go_loud (refine (check_any n ⟨sa, k, sc⟩ ⟨la, m, lc⟩ _ hm HH.out).mono ?_); rintro e w1 ⟨rfl, hb1⟩; rw [HCE.out]; have HB1 := Lib.hid (HB0.out.trans (hb1.mono HB0.out.size)); have HX1 := Lib.hid (box_below HX0.out hb1); obtain ⟨-, -, d2, -, -, -⟩ := box3_cells HX1.out; clear hb1)
          | (go_at_call 32; go_loud (refine (ocontains_any a on oc os _ (HO.out.below HB1.out)).mono ?_); rintro e w2 ⟨rfl, rfl⟩; rw [HBB.out]))
        go_ret
        exact ⟨rfl, HB1.out⟩
      | false =>
        have hz : (2 : Int) = q := hz
        subst hz
        go_enter Try.func15, Try.ntmps15
        go_wp2_with (first
          | (go_at_call 31; go_loud (refine (check_any n ⟨sa, k, sc⟩ ⟨la, m, lc⟩ _ hm HH.out).mono ?_); rintro e w1 ⟨rfl, hb1⟩; rw [HCE.out]; have HB1 := Lib.hid (HB0.out.trans (hb1.mono HB0.out.size)); have HX1 := Lib.hid (box_below HX0.out hb1); obtain ⟨-, -, d2, -, -, -⟩ := box3_cells HX1.out; clear hb1)
          | (go_at_call 32; go_loud (refine (ocontains_any a on oc os _ (HO.out.below HB1.out)).mono ?_); rintro e w2 ⟨rfl, rfl⟩; rw [HBB.out]))
        go_ret
        exact ⟨rfl, HB1.out⟩

set_option maxHeartbeats 1000000 in
theorem amany_any (a : Option Addr) (on oc : Nat) (os : List Int) (w : World) (ho : Sl icod w a on oc os) (hb : os.all opB = true) :
    Calls Try.prog 16 #[.slice a on oc] w fun e w' => e = .returned (.int .i64 (manyE os 0)) ∧ w = w' := by
  have HN : Hid (on = os.length) := ho.hlen
  have ho9 : on ≤ 9223372036854775807 := by have h1 : on ≤ oc := ho.hcap; have h2 : oc ≤ maxLen := ho.hmax; unfold maxLen at h2; omega
  have HO := Lib.hid ho
  have HAB := Lib.hid hb
  obtain ⟨r, hr⟩ : ∃ r, manyE os 0 = r := ⟨_, rfl⟩
  have HR := Lib.hid hr
  rw [hr]
  clear ho hr hb
  go_enter Try.func16, Try.ntmps16
  go_wp2_with fail
  go_loopw [3, 8] (fun v i wr => ∃ (j : Nat) (m : Int), i = .int .i64 j ∧ v = .int .i64 m ∧ j ≤ on ∧ 0 ≤ m ∧ m ≤ 64 ∧ Hid (manyE (os.drop j) m = r) ∧ Hid (w = wr)) (fun _ i _ => on - (intOf i).toNat)
  case atStart => exact ⟨0, 0, by go_num, rfl, by omega, by omega, by omega, by rw [List.drop_zero]; exact HR.out, rfl⟩
  case round =>
    obtain ⟨j, m, rfl, rfl, hj, m0, m1, HM, HW⟩ := hrel
    have hw := HW.out
    clear HW
    subst hw
    by_cases hlt : j < on
    case neg =>
      have hjn : on = j := by omega
      subst hjn
      have hz := HM.out
      rw [List.drop_of_length_le (by rw [← HN.out]; exact Nat.le_refl _)] at hz
      have hz : m = r := hz
      subst hz
      go_wp2_with fail
      go_ret
      exact ⟨rfl, rfl⟩
    obtain ⟨b, off, o, rfl, hbl, hr, c0⟩ := int_at HO.out hlt
    have hji : (j : Int) < (on : Int) := by omega
    have hob : 0 ≤ o ∧ o ≤ 63 := of_decide_eq_true (List.all_eq_true.1 HAB.out o (List.mem_of_getElem? hr))
    have hz := HM.out
    rw [drop_at hr] at hz
    have hz : manyE (os.drop (j + 1)) (if m < o + 1 then o + 1 else m) = r := hz
    clear hr
    by_cases hm : m < o + 1
    · rw [if_pos hm] at hz
      have HZ := Lib.hid hz
      clear hz
      go_wp2_with fail
      go_roundw
      case rel => exact ⟨j + 1, o + 1, by go_num, by go_num, by omega, by omega, by omega, HZ.out, Lib.hid trivial⟩
      case measure => simp [intOf]; omega
    · rw [if_neg hm] at hz
      have HZ := Lib.hid hz
      clear hz
      go_wp2_with fail
      go_roundw
      case rel => exact ⟨j + 1, m, by go_num, by go_num, by omega, by omega, by omega, HZ.out, Lib.hid trivial⟩
      case measure => simp [intOf]; omega

/-! ### Which link -/
set_option maxHeartbeats 1000000 in
theorem aw1_any (l : Lnk) (gx gy : Nat) (x y : Int) (w : World) (h1 : w.cell? ⟨gx, 0, none⟩ = some (.int .i64 x)) (h2 : w.cell? ⟨gy, 0, none⟩ = some (.int .i64 y)) :
    Calls Try.prog 21 #[lval l, .pointer (some ⟨gx, 0, none⟩), .pointer (some ⟨gy, 0, none⟩)] w fun e w' => e = .returned (.bool (decide (l.a = x ∧ l.b = y))) ∧ Below w.heap.size w w' := by
  have g1 := World.block_lt_of_cell? w _ h1
  have g2 := World.block_lt_of_cell? w _ h2
  have HB : Hid (Below w.heap.size w (w.alloc (.cells #[.int .i64 l.a, .int .i64 l.b, .int .i64 l.w] 55))) := (Below.refl _ _).alloc (Nat.le_refl _) _
  by_cases e1 : l.a = x
  · have d1 : (l.a == x) = true := by simpa using e1
    by_cases e2 : l.b = y
    · have d2 : (l.b == y) = true := by simpa using e2
      have HD : Hid (decide (l.a = x ∧ l.b = y) = true) := decide_eq_true ⟨e1, e2⟩
      clear e1 e2
      go_enter Try.func21, Try.ntmps21
      go_wp2_with fail
      go_ret
      exact ⟨ret_bool (by rw [← Bool.decide_and, HD.out]), HB.out⟩
    · have d2 : (l.b == y) = false := by simpa using e2
      have HD : Hid (decide (l.a = x ∧ l.b = y) = false) := decide_eq_false (fun q => e2 q.2)
      clear e1 e2
      go_enter Try.func21, Try.ntmps21
      go_wp2_with fail
      go_ret
      exact ⟨ret_bool (by rw [← Bool.decide_and, HD.out]), HB.out⟩
  · have d1 : (l.a == x) = false := by simpa using e1
    have HD : Hid (decide (l.a = x ∧ l.b = y) = false) := decide_eq_false (fun q => e1 q.1)
    clear e1
    go_enter Try.func21, Try.ntmps21
    go_wp2_with fail
    go_ret
    exact ⟨ret_bool (by rw [← Bool.decide_and, HD.out]), HB.out⟩
set_option maxHeartbeats 2000000 in
theorem lindex_any (na : Option Addr) (nn nc : Nat) (M : List Lnk) (gx gy : Nat) (x y : Int) (J : Nat) (w : World) (hm : Sl lcod w na nn nc M) (h1 : w.cell? ⟨gx, 0, none⟩ = some (.int .i64 x)) (h2 : w.cell? ⟨gy, 0, none⟩ = some (.int .i64 y))
    (hJ : ∃ l, M[J]? = some l ∧ l.a = x ∧ l.b = y) (hno : ∀ (i : Nat) (l : Lnk), i < J → M[i]? = some l → ¬ (l.a = x ∧ l.b = y)) :
    Calls Try.prog 20 #[.slice na nn nc, .func (.func 21) #[] #[.pointer (some ⟨gx, 0, none⟩), .pointer (some ⟨gy, 0, none⟩)]] w fun e w' => e = .returned (.int .i64 (J : Nat)) ∧ Below w.heap.size w w' := by
  have HM := Lib.hid hm
  have hn9 : nn ≤ 9223372036854775807 := by have h1 : nn ≤ nc := hm.hcap; have h2 : nc ≤ maxLen := hm.hmax; unfold maxLen at h2; omega
  have HC1 := Lib.hid h1
  have HC2 := Lib.hid h2
  have HG : Hid (gx < w.heap.size ∧ gy < w.heap.size) := ⟨World.block_lt_of_cell? w _ h1, World.block_lt_of_cell? w _ h2⟩
  have hJn : J < nn := by obtain ⟨l, hl, -⟩ := hJ; have := (List.getElem?_eq_some_iff.1 hl).1; have : nn = M.length := hm.hlen; omega
  have HJ := Lib.hid hJ
  have HNO := Lib.hid hno
  clear hm h1 h2 hJ hno
  go_enter Try.func20, Try.ntmps20
  go_wp2_with fail
  go_loopw [8] (fun v wr => ∃ j : Nat, v = .int .i64 j ∧ j ≤ J ∧ Hid (Below w.heap.size w wr)) (fun v _ => nn - (intOf v).toNat)
  case atStart => exact ⟨0, by go_num, by omega, Below.refl _ _⟩
  case round =>
    obtain ⟨j, rfl, hj, HB⟩ := hrel
    obtain ⟨b', off, l, e1, hbl, hr, p0, p1, p2⟩ := lnk_at (HM.out.below HB.out) (show j < nn by omega)
    have e1 : na = _ := e1
    subst e1
    have hji : (j : Int) < (nn : Int) := by omega
    by_cases hjJ : j = J
    · subst hjJ
      have HT : Hid (decide (l.a = x ∧ l.b = y) = true) := by
        obtain ⟨l', q1, q2⟩ := HJ.out
        rw [hr] at q1; cases q1
        exact decide_eq_true q2
      clear hr
      go_wp2_with (go_at_call 21; go_loud (refine (aw1_any l gx gy x y wr ((HB.out.cell (p := ⟨gx, 0, none⟩) HG.out.1).trans HC1.out) ((HB.out.cell (p := ⟨gy, 0, none⟩) HG.out.2).trans HC2.out)).mono ?_); rintro e w1 ⟨rfl, hb1⟩; rw [HT.out]; have HB1 := Lib.hid (HB.out.trans (hb1.mono HB.out.size)); clear hb1)
      go_ret
      exact ⟨rfl, HB1.out⟩
    · have HT : Hid (decide (l.a = x ∧ l.b = y) = false) := decide_eq_false (HNO.out j l (by omega) hr)
      clear hr
      go_wp2_with (go_at_call 21; go_loud (refine (aw1_any l gx gy x y wr ((HB.out.cell (p := ⟨gx, 0, none⟩) HG.out.1).trans HC1.out) ((HB.out.cell (p := ⟨gy, 0, none⟩) HG.out.2).trans HC2.out)).mono ?_); rintro e w1 ⟨rfl, hb1⟩; rw [HT.out]; have HB1 := Lib.hid (HB.out.trans (hb1.mono HB.out.size)); clear hb1)
      go_roundw
      case rel => exact ⟨j + 1, by go_num, by omega, HB1.out⟩
      case measure => simp [intOf]; omega
end Go.Proofs.Ytgfakkkiejeofaa.Ne

namespace Go.Proofs.Ytgfakkkiejeofaa.Ne
open Go.RowKit Go.V Go.Proofs Go.Sort

theorem two_ord {l : Lnk} {a b : Int} (hl : l.a < l.b) : twoB a b l = true ↔ l.a = min a b ∧ l.b = max a b := by
  unfold twoB
  rw [decide_eq_true_iff]
  omega

theorem two_new (w : World) (cs ds : Array Value) (t u : TypeId) : ((w.alloc (.cells cs t)).alloc (.cells ds u)).heap[w.heap.size]? = some (.cells cs t (0, 0)) ∧ ((w.alloc (.cells cs t)).alloc (.cells ds u)).heap[w.heap.size + 1]? = some (.cells ds u (0, 0)) ∧ Below w.heap.size w ((w.alloc (.cells cs t)).alloc (.cells ds u)).drew :=
  ⟨box_alloc (box_new _ _), by have := box_new (w.alloc (.cells cs t)) (.cells ds u); simpa using this, Below.drew (((Below.refl _ _).alloc (Nat.le_refl _) _).alloc (by simp) _)⟩

set_option maxHeartbeats 8000000 in
set_option maxRecDepth 100000 in
theorem aweights_any (n : Net) (hs hl : Hdr) (a : Option Addr) (on oc : Nat) (os : List Int) (x y : Int) (w : World) (h60 : hs.n ≤ 60) (h120 : hl.n ≤ 120) (h : NetIn w n hs hl) (ho : Sl icod w a on oc os) :
    Calls Try.prog 9 #[n.val hs hl, .slice a on oc, .int .i64 x, .int .i64 y] w fun e w' =>
      (werrE n hs.n os x y ≠ 0 → e = .returned (.tuple #[.slice none 0 0, .int .i64 (werrE n hs.n os x y)])) ∧
      (werrE n hs.n os x y = 0 → ∃ v, e = .returned (.tuple #[v, .int .i64 0]) ∧ V.Own 3 icod w.heap.size w' v (weightsE n hs.n os x y)) ∧ Below w.heap.size w w' := by
  have mixed : Try.prog.follows .mixedOrders = true := by kernel_rfl
  obtain ⟨sa, k, sc⟩ := hs
  obtain ⟨la, m, lc⟩ := hl
  have h60 : k ≤ 60 := h60
  have h120 : m ≤ 120 := h120
  have HKN : Hid (k = n.stops.length) := h.s.hlen
  have HLN : Hid (m = n.links.length) := h.l.hlen
  have HX0 := Lib.hid (box_new w (n.box ⟨sa, k, sc⟩ ⟨la, m, lc⟩))
  have HB0 : Hid (Below w.heap.size w (w.alloc (n.box ⟨sa, k, sc⟩ ⟨la, m, lc⟩))) := (Below.refl _ _).alloc (Nat.le_refl _) _
  have HH := Lib.hid (h.below HB0.out)
  have HO := Lib.hid (ho.below HB0.out)
  have HON : Hid (on = os.length) := ho.hlen
  have HM : Hid (k ≤ 1000000 ∧ m ≤ 1000000) := ⟨by omega, by omega⟩
  obtain ⟨we, hwe⟩ : ∃ we, werrE n k os x y = we := ⟨_, rfl⟩
  have hWE : (if opE n os = 0 then wayErr n k x y else opE n os) = we := hwe
  obtain ⟨R, hR⟩ : ∃ R, weightsE n k os x y = R := ⟨_, rfl⟩
  have HR := Lib.hid hR
  show Calls _ _ _ _ fun e w' => (werrE n k os x y ≠ 0 → e = .returned (.tuple #[.slice none 0 0, .int .i64 (werrE n k os x y)])) ∧ (werrE n k os x y = 0 → ∃ v, e = .returned (.tuple #[v, .int .i64 0]) ∧ V.Own 3 icod w.heap.size w' v (weightsE n k os x y)) ∧ Below w.heap.size w w'
  rw [hwe, hR]
  obtain ⟨oe, hoe⟩ : ∃ oe, opE n os = oe := ⟨_, rfl⟩
  have HOE := Lib.hid hoe
  rw [hoe] at hWE
  clear h ho hwe hR hoe
  obtain ⟨c0, c1, c2, -, -, -⟩ := box3_cells HX0.out
  by_cases h0 : oe = 0
  case neg =>
    rw [if_neg h0] at hWE
    subst hWE
    have h0b : (oe != 0) = true := by simpa using h0
    have H0 := Lib.hid h0
    clear h0
    go_enter Try.func9, Try.ntmps9
    go_wp2_with (go_at_call 15; go_loud (refine (amay_any n ⟨sa, k, sc⟩ ⟨la, m, lc⟩ a on oc os _ HM.out HH.out HO.out).mono ?_); rintro e w1 ⟨rfl, hb1⟩; rw [HOE.out]; have HB1 := Lib.hid (HB0.out.trans (hb1.mono HB0.out.size)); clear hb1)
    go_ret2
    exact ⟨fun _ => rfl, fun h => absurd h H0.out, HB1.out⟩
  case pos =>
    subst h0
    rw [if_pos rfl] at hWE
    obtain ⟨ok1, ok2, ok3⟩ := opE_ok HOE.out
    have HWE := Lib.hid hWE
    have HCK := Lib.hid ok1
    have HOL := Lib.hid ok2
    have HOB := Lib.hid ok3
    clear ok1 ok2 ok3 hWE
    by_cases hw0 : we = 0
    case neg =>
      have hwb : (we != 0) = true := by simpa using hw0
      have HW0 := Lib.hid hw0
      clear hw0
      go_enter Try.func9, Try.ntmps9
      go_wp2_with (first
        | (go_at_call 15; go_loud (refine (amay_any n ⟨sa, k, sc⟩ ⟨la, m, lc⟩ a on oc os _ HM.out HH.out HO.out).mono ?_); rintro e w1 ⟨rfl, hb1⟩; rw [HOE.out]; have HB1 := Lib.hid (HB0.out.trans (hb1.mono HB0.out.size)); have HH1 := Lib.hid (HH.out.below hb1); have HX1 := Lib.hid (box_below HX0.out hb1); obtain ⟨d0, d1, d2, -, -, -⟩ := box3_cells HX1.out; clear hb1)
        | (go_at_call 19; go_loud (refine (pway_gen n ⟨sa, k, sc⟩ ⟨la, m, lc⟩ x y _ h60 h120 HH1.out).mono ?_); rintro e w2 ⟨va, vn, vc, rfl, -, -, hb2⟩; rw [show wayErr n (Hdr.mk sa k sc).n x y = we from HWE.out]; have HB2 := Lib.hid (HB1.out.trans (hb2.mono HB1.out.size)); clear hb2))
      go_ret2
      exact ⟨fun _ => rfl, fun h => absurd h HW0.out, HB2.out⟩
    case pos =>
      subst hw0
      have hfr : fromE n x = 0 ∧ (0 ≤ y ∧ y < k) ∧ 0 ≤ far n.links k x y := by
        have := HWE.out
        unfold wayErr at this
        split at this
        · next hh => exact absurd this hh
        · next hh =>
          split at this
          · next h2 =>
            split at this
            · omega
            · exact ⟨by omega, h2, by omega⟩
          · omega
      obtain ⟨f1, f2, f3⟩ := hfr
      have hx0 : 0 ≤ x ∧ x < k := by
        unfold fromE at f1
        rw [if_pos HCK.out] at f1
        split at f1
        · next hh => rw [HKN.out]; exact hh
        · omega
      obtain ⟨-, -, -, -, kk5, kk6⟩ := check_ok HCK.out
      rw [← HKN.out] at kk5
      have HLO := Lib.hid kk5
      have HPW := Lib.hid kk6
      have hgd := wayL_good kk5 kk6 hx0 f3
      have hlim := (far_lim kk5 hx0 h60 (by rw [← HLN.out]; exact h120) y).2
      obtain ⟨d, hd⟩ : ∃ d, far n.links k x y = d := ⟨_, rfl⟩
      rw [hd] at hgd hlim
      obtain ⟨xs, hxs⟩ : ∃ xs, wayL n.links k x y = xs := ⟨_, rfl⟩
      rw [hxs] at hgd
      have HXS := Lib.hid hxs
      have HGD := Lib.hid hgd
      have HXN : Hid (0 < xs.length) := List.length_pos_iff.2 hgd.ne
      obtain ⟨mm1, mm2, mm3⟩ := manyE_in os 0 HOB.out (Int.le_refl _) (by omega)
      obtain ⟨mz, hmz⟩ : ∃ mz : Nat, manyE os 0 = mz := ⟨(manyE os 0).toNat, by omega⟩
      rw [hmz] at mm2 mm3
      have HMZ := Lib.hid hmz
      have HMO := Lib.hid mm3
      have hm64 : mz ≤ 64 := by omega
      have HRW : Hid (wsGo n.links os xs (xs.length - 1) 0 (List.replicate mz 0) = R) := by
        have := HR.out
        unfold weightsE at this
        rw [hxs, hmz, Int.toNat_natCast] at this
        exact this
      have hmk := Ir.make_any mz (by omega)
      clear f1 f2 f3 hx0 kk5 kk6 hgd hd hxs mm1 mm2 mm3 hmz HR
      go_enter Try.func9, Try.ntmps9
      go_upto_region 8 with (first
        | (go_at_call 15; go_loud (refine (amay_any n ⟨sa, k, sc⟩ ⟨la, m, lc⟩ a on oc os _ HM.out HH.out HO.out).mono ?_); rintro e w1 ⟨rfl, hb1⟩; rw [HOE.out]; have HB1 := Lib.hid (HB0.out.trans (hb1.mono HB0.out.size)); have HH1 := Lib.hid (HH.out.below hb1); have HO1 := Lib.hid (HO.out.below hb1); have HX1 := Lib.hid (box_below HX0.out hb1); obtain ⟨d0, d1, d2, -, -, -⟩ := box3_cells HX1.out; clear hb1)
        | (go_at_call 19; go_loud (refine (pway_gen n ⟨sa, k, sc⟩ ⟨la, m, lc⟩ x y _ h60 h120 HH1.out).mono ?_); rintro e w2 ⟨va, vn, vc, rfl, -, hy2, hb2⟩; rw [show wayErr n (Hdr.mk sa k sc).n x y = 0 from HWE.out]; have hy3 := hy2 HWE.out; rw [show wayL n.links (Hdr.mk sa k sc).n x y = xs from HXS.out] at hy3; have HV2 := Lib.hid hy3.1; have HVN := Lib.hid hy3.2; have HB2 := Lib.hid (HB1.out.trans (hb2.mono HB1.out.size)); have HH2 := Lib.hid (HH1.out.below hb2); have HO2 := Lib.hid (HO1.out.below hb2); have HX2 := Lib.hid (box_below HX1.out hb2); clear hb2 hy2 hy3)
        | (go_at_call 16; go_loud (refine (amany_any a on oc os _ HO2.out HOB.out).mono ?_); rintro e w3 ⟨rfl, rfl⟩; rw [HMZ.out]))
      have HOW : Hid (V.Own 3 icod w.heap.size (w2.alloc (.cells (madeCells #[.int .i64 0] mz) 3)) (.slice (some ⟨w2.heap.size, 0, none⟩) mz mz) (List.replicate mz 0)) := Ir.own_made w2 mz w.heap.size HB2.out.size (by unfold maxLen; omega)
      have HB3 : Hid (Below w.heap.size w (w2.alloc (.cells (madeCells #[.int .i64 0] mz) 3))) := HB2.out.alloc HB2.out.size _
      have HK3 : Hid (Below w2.heap.size w2 (w2.alloc (.cells (madeCells #[.int .i64 0] mz) 3))) := (Below.refl _ _).alloc (Nat.le_refl _) _
      clear c0 c1 c2 d0 d1 d2 hmk HX0 HX1 HB0 HB1
      obtain ⟨W3, hW3⟩ : ∃ W3, w2.alloc (.cells (madeCells #[.int .i64 0] mz) 3) = W3 := ⟨_, rfl⟩
      rw [hW3] at HOW HB3 HK3 ⊢
      clear hW3
      obtain ⟨ob, hob⟩ : ∃ ob, w2.heap.size = ob := ⟨_, rfl⟩
      rw [hob] at HOW ⊢
      have HOBK := Lib.hid hob
      clear hob
      go_wp2_with fail
      go_loopw [15] (fun i wr => ∃ (j : Nat) (out : List Int) (acc : Int), i = .int .i64 (j + 1 : Nat) ∧ j < vn ∧ 0 ≤ acc ∧ Hid (V.Own 3 icod w.heap.size wr (.slice (some ⟨ob, 0, none⟩) mz mz) out) ∧ Hid (Wb mz acc out) ∧ Hid (wRun n.links xs (vn - 1 - j) j acc = (d, true)) ∧ Hid (wsGo n.links os xs (vn - 1 - j) j out = R) ∧ Hid (Below w2.heap.size w2 wr)) (fun i _ => vn - (intOf i).toNat)
      case atStart => exact ⟨0, List.replicate mz 0, 0, by go_num, by have := HVN.out; have := HXN.out; omega, by omega, HOW.out, wb_new mz, by rw [HVN.out]; exact HGD.out.run, by rw [HVN.out]; exact HRW.out, HK3.out⟩
      case round =>
        clear HOW HB3 HK3
        obtain ⟨j, out, acc, rfl, hj, ha0, HOW, HWB, HRN, HGO, HBR⟩ := hrel
        have HBW : Hid (Below w.heap.size w wr) := HB2.out.trans (HBR.out.mono HB2.out.size)
        by_cases hlt : j + 1 < vn
        case neg =>
          have hjn : vn = j + 1 := by omega
          have hz := HGO.out
          rw [hjn, show j + 1 - 1 - j = 0 by omega] at hz
          have hz : out = R := hz
          subst hz
          have hd9 : decide (((j + 1 : Nat) : Int) < (vn : Int)) = false := decide_eq_false (by omega)
          clear hjn
          go_wp2_with fail
          go_ret2
          exact ⟨fun h => absurd rfl h, fun _ => ⟨_, rfl, HOW.out⟩, HBW.out⟩
        obtain ⟨b1, o1, p, rfl, hbl1, hp, p0⟩ := int_at (HV2.out.below HBR.out) (i := j) (by omega)
        obtain ⟨b2, o2, q, e2, hbl2, hq, q0⟩ := int_at (HV2.out.below HBR.out) (i := j + 1) hlt
        cases e2
        have hd9 : decide (((j + 1 : Nat) : Int) < (vn : Int)) = true := decide_eq_true (by omega)
        obtain ⟨c, hc⟩ : ∃ c, vn - 1 - j = c + 1 := ⟨vn - 1 - j - 1, by omega⟩
        have hrn := HRN.out
        have hgo := HGO.out
        rw [hc] at hrn hgo
        obtain ⟨hne, hrn⟩ := wRun_ne hrn
        have hgo : wsGo n.links os xs c (j + 1) (addE n.links os (xs.getD j 0) (xs.getD (j + 1) 0) out) = R := hgo
        rw [getD_at hp, getD_at hq] at hne hrn hgo
        have hc2 : c = vn - 1 - (j + 1) := by omega
        rw [hc2] at hrn hgo
        obtain ⟨l, hJ1, hJ2, hJ3, hJ4⟩ := idx_of hne
        obtain ⟨J, hJ⟩ : ∃ J, idxE n.links p q = J := ⟨_, rfl⟩
        have hwb := HWB.out.add HLO.out (os := os) ha0 p q
        have hdl := wRun_le HLO.out _ _ _ _ hrn
        unfold addE at hgo hwb
        rw [hJ] at hJ1 hJ4 hgo hwb
        obtain ⟨ow, how⟩ : ∃ ow, os[J]? = some ow := ⟨_, List.getElem?_eq_getElem (by have := (List.getElem?_eq_some_iff.1 hJ1).1; have := HOL.out; omega)⟩
        rw [getD_at how, ← hJ3] at hgo
        rw [getD_at how, ← hJ3] at hwb
        rw [← hJ3] at hrn hdl
        obtain ⟨oo, rfl⟩ : ∃ oo : Nat, ow = oo := ⟨ow.toNat, by have := HMO.out ow (List.mem_of_getElem? how); omega⟩
        have hoo : oo < mz := by have := HMO.out _ (List.mem_of_getElem? how); omega
        rw [Int.toNat_natCast] at hgo hwb
        have hlab := (HLO.out l (List.mem_of_getElem? hJ1)).2.1
        obtain ⟨lb, lo, l', e5, hbl5, hl5, w0, w1, w2'⟩ := lnk_at (HH2.out.l.below HBR.out) (i := J) (by have := (List.getElem?_eq_some_iff.1 hJ1).1; have := HLN.out; show J < m; omega)
        have e5 : la = _ := e5
        subst e5
        have hll := Option.some.inj (hl5.symm.trans hJ1)
        subst hll
        obtain ⟨ob2, oo2, ow2, e6, hbl6, how2, g0⟩ := int_at (HO2.out.below HBR.out) (i := J) (by have := (List.getElem?_eq_some_iff.1 how).1; have := HON.out; omega)
        have e6 : a = _ := e6
        subst e6
        have hoe := Option.some.inj (how2.symm.trans how)
        subst hoe
        obtain ⟨dv, hdv, r0, r1, hobw⟩ := Ir.icells HOW.out HWB.out.1.symm hoo
        rw [getD_at hdv] at hgo hwb
        have hdb := HWB.out.2 dv (List.mem_of_getElem? hdv)
        have hlw := HLO.out l' (List.mem_of_getElem? hJ1)
        have HRN2 := Lib.hid hrn
        have HDV := Lib.hid hdv
        have HGO2 := Lib.hid hgo
        have HWB2 := Lib.hid hwb
        have HIX : Hid (∃ l, n.links[J]? = some l ∧ l.a = min p q ∧ l.b = max p q) := ⟨l', hJ1, (two_ord hlab).1 hJ2⟩
        have HIN : Hid (∀ (i : Nat) (l : Lnk), i < J → n.links[i]? = some l → ¬ (l.a = min p q ∧ l.b = max p q)) := fun i l hi hl hh => by
          have h1 := hJ4 i l hi hl
          have h2 := (two_ord (HLO.out l (List.mem_of_getElem? hl)).2.1).2 hh
          rw [h1] at h2; cases h2
        have HX3 := Lib.hid (box_below HX2.out HBR.out)
        have hjm : (j : Int) + 1 - 1 = (j : Int) := by omega
        have hoon : (oo : Int) < (mz : Int) := by omega
        have hJI : (J : Int) < (m : Int) := by have := (List.getElem?_eq_some_iff.1 hJ1).1; have := HLN.out; omega
        have hJO : (J : Int) < (on : Int) := by have := (List.getElem?_eq_some_iff.1 how).1; have := HON.out; omega
        have hvi : (j : Int) + 1 < (vn : Int) := by omega
        have hvj : (j : Int) < (vn : Int) := by omega
        have hzs : w.heap.size < wr.heap.size := box_lt HX3.out
        clear hp hq hc hc2 hne hrn hgo hwb hJ1 hJ2 hJ3 hJ4 hJ how how2 hl5 hdv
        have hvn9 : vn ≤ 9223372036854775807 := by have h1 : vn ≤ vc := HV2.out.hcap; have h2 : vc ≤ maxLen := HV2.out.hmax; unfold maxLen at h2; omega
        go_upto_region 11 with fail
        have hwj : IntKind.i64.wrap (j : Int) = (j : Int) := by rw [IntKind.wrap_i64]; omega
        have hj0 : 0 ≤ (j : Int) + 1 := by omega
        have hjt : ((j : Int) + 1).toNat = j + 1 := by omega
        go_cut [16, 17] (fun v u wx => ∃ gx gy, v = .pointer (some ⟨gx, 0, none⟩) ∧ u = .pointer (some ⟨gy, 0, none⟩) ∧ wx.heap[gx]? = some (.cells #[.int .i64 (min p q)] 3 (0, 0)) ∧ wx.heap[gy]? = some (.cells #[.int .i64 (max p q)] 3 (0, 0)) ∧ Below wr.heap.size wr wx)
        · go_region_held3 (fun w' => w'.cell? ⟨b1, o1 + j, none⟩ = some (.int .i64 p) ∧ w'.cell? ⟨b1, o1 + (j + 1), none⟩ = some (.int .i64 q)) (go_keep) (fail)
          all_goals
            go_wp2_with fail
            go_meet
            first
              | exact ⟨_, _, rfl, rfl, (two_new wr _ _ _ _).1, (two_new wr _ _ _ _).2.1, (two_new wr _ _ _ _).2.2⟩
              | exact ⟨_, _, rfl, rfl, (two_new wr _ _ _ _).2.1, (two_new wr _ _ _ _).1, (two_new wr _ _ _ _).2.2⟩
        obtain ⟨gx, gy, rfl, rfl, hgx, hgy, hbc⟩ := hcut
        have HBC := Lib.hid hbc
        have hgx0 := (box_cell hgx 0).1
        have hgy0 := (box_cell hgy 0).1
        have HX4 := Lib.hid (box_below HX3.out hbc)
        have HH4 := Lib.hid ((HH2.out.below HBR.out).below hbc)
        obtain ⟨c0, c1, c2, -, -, -⟩ := box3_cells HX4.out
        have HW4 : Hid (wc.cell? ⟨lb, lo + J * 3 + 2, none⟩ = some (.int .i64 l'.w)) := (hbc.cell (p := ⟨lb, lo + J * 3 + 2, none⟩) hbl5).trans w2'
        have HG4 : Hid (wc.cell? ⟨ob2, oo2 + J, none⟩ = some (.int .i64 (oo : Int))) := (hbc.cell (p := ⟨ob2, oo2 + J, none⟩) hbl6).trans g0
        have HOW4 := Lib.hid (HOW.out.below hbc)
        clear hbc w0 w1 w2' g0 r0 r1 p0 q0 hgx hgy
        go_upto_region 13 with (go_at_call 20; go_loud (refine (lindex_any _ m lc n.links gx gy (min p q) (max p q) J _ HH4.out.l hgx0 hgy0 HIX.out HIN.out).mono ?_); rintro e w5 ⟨rfl, hb5⟩; have HB5 := Lib.hid hb5; have HX5 := Lib.hid (box_below HX4.out hb5); have HOW5 := Lib.hid (HOW4.out.below hb5); have HW5 := Lib.hid ((hb5.cell (p := ⟨lb, lo + J * 3 + 2, none⟩) (World.block_lt_of_cell? _ _ HW4.out)).trans HW4.out); have HG5 := Lib.hid ((hb5.cell (p := ⟨ob2, oo2 + J, none⟩) (World.block_lt_of_cell? _ _ HG4.out)).trans HG4.out); clear hb5)
        clear c0 c1 c2 hgx0 hgy0
        obtain ⟨c0, c1, c2, -, -, -⟩ := box3_cells HX5.out
        have hw5 := HW5.out
        have hg5 := HG5.out
        obtain ⟨dv', hdv', r0, r1, hobw5⟩ := Ir.icells HOW5.out HWB.out.1.symm hoo
        have hde := Option.some.inj (hdv'.symm.trans HDV.out)
        subst hde
        have hwr : IntKind.i64.wrap (dv' + l'.w) = dv' + l'.w := by rw [IntKind.wrap_i64]; omega
        obtain ⟨hset, hgrow⟩ := Ir.iset HOW5.out HWB.out.1.symm oo (dv' + l'.w)
        have HSET := Lib.hid hset
        have HBF : Hid (Below w2.heap.size w2 (w5.setCell ⟨ob, oo, none⟩ (.int .i64 (dv' + l'.w)))) := (HBR.out.trans ((HBC.out.trans (HB5.out.mono HBC.out.size)).mono HBR.out.size)).grown hgrow (by have := HBR.out.size; have := HBC.out.size; have := HB5.out.size; omega) (fun g e => by have := Option.some.inj e; have := HOBK.out; omega)
        clear hset hgrow hdv'
        go_region
        all_goals
          go_wp2_with fail
          go_roundw
          case rel => exact ⟨j + 1, out.set oo (dv' + l'.w), acc + l'.w, by go_num, hlt, by omega, HSET.out, HWB2.out, HRN2.out, HGO2.out, Below.drew HBF.out⟩
          case measure => simp [intOf]; omega
end Go.Proofs.Ytgfakkkiejeofaa.Ne

namespace Go.Proofs.Ytgfakkkiejeofaa.Ne
open Go.RowKit Go.V Go.Proofs Go.Sort

set_option maxHeartbeats 2000000 in
theorem roper_any (n : Net) (hs hl : Hdr) (a : Option Addr) (on oc : Nat) (os : List Int) (w : World) (hm : hs.n ≤ 1000000 ∧ hl.n ≤ 1000000) (h : NetIn w n hs hl) (ho : Sl icod w a on oc os) :
    Calls Try.prog 8 #[n.val hs hl, .slice a on oc] w fun e w' => e = .returned (.int .i64 (opE n os)) ∧ Below w.heap.size w w' := by
  obtain ⟨sa, k, sc⟩ := hs
  obtain ⟨la, m, lc⟩ := hl
  have HX0 := Lib.hid (box_new w (n.box ⟨sa, k, sc⟩ ⟨la, m, lc⟩))
  have HB0 : Hid (Below w.heap.size w (w.alloc (n.box ⟨sa, k, sc⟩ ⟨la, m, lc⟩))) := (Below.refl _ _).alloc (Nat.le_refl _) _
  have HH := Lib.hid (h.below HB0.out)
  have HO := Lib.hid (ho.below HB0.out)
  have HN : Hid (on = os.length) := ho.hlen
  have HLN : Hid (m = n.links.length) := h.l.hlen
  have ho9 : on ≤ 9223372036854775807 := by have h1 : on ≤ oc := ho.hcap; have h2 : oc ≤ maxLen := ho.hmax; unfold maxLen at h2; omega
  have hm2 : m ≤ 1000000 := hm.2
  obtain ⟨ce, hce⟩ : ∃ ce, checkE n = ce := ⟨_, rfl⟩
  have HCE := Lib.hid hce
  have HE : Hid (opE n os = if ce = 0 then (if on = m ∧ os.all opB = true then 0 else 2) else ce) := by show _ = _; unfold opE; rw [hce, HN.out, HLN.out]
  obtain ⟨q, hq⟩ : ∃ q, opE n os = q := ⟨_, rfl⟩
  rw [hq] at HE ⊢
  obtain ⟨c0, c1, c2, -, -, -⟩ := box3_cells HX0.out
  clear h ho hce hq
  by_cases h0 : ce = 0
  case neg =>
    have hz : ce = q := by rw [HE.out, if_neg h0]
    have h0b : (ce != 0) = true := by simpa using h0
    subst hz
    clear h0
    go_enter Try.func8, Try.ntmps8
    go_wp2_with (go_at_call 18; go_loud (refine (rcheck_any n ⟨sa, k, sc⟩ ⟨la, m, lc⟩ _ hm HH.out).mono ?_); rintro e w1 ⟨rfl, hb1⟩; rw [HCE.out]; have HB1 := Lib.hid (HB0.out.trans (hb1.mono HB0.out.size)); clear hb1)
    go_ret
    exact ⟨rfl, HB1.out⟩
  case pos =>
    subst h0
    have HE2 := HE.out
    rw [if_pos rfl] at HE2
    by_cases h1 : on = m
    case neg =>
      have hz : 2 = q := by rw [HE2, if_neg (fun hh => h1 hh.1)]
      have h1b : ((on : Int) != (m : Int)) = true := by simp; omega
      subst hz
      clear h1 HE2
      go_enter Try.func8, Try.ntmps8
      go_wp2_with (go_at_call 18; go_loud (refine (rcheck_any n ⟨sa, k, sc⟩ ⟨la, m, lc⟩ _ hm HH.out).mono ?_); rintro e w1 ⟨rfl, hb1⟩; rw [HCE.out]; have HB1 := Lib.hid (HB0.out.trans (hb1.mono HB0.out.size)); have HX1 := Lib.hid (box_below HX0.out hb1); obtain ⟨-, -, d2, -, -, -⟩ := box3_cells HX1.out; clear hb1)
      go_ret
      exact ⟨rfl, HB1.out⟩
    case pos =>
      have h1b : ((on : Int) != (m : Int)) = false := by simp; omega
      have HEV : Hid (∀ bb, os.all opB = bb → (if bb = true then (0 : Int) else 2) = q) := by
        intro bb hbb
        rw [HE2, hbb]
        cases bb
        · rw [if_neg (by simp), if_neg (by simp)]
        · rw [if_pos rfl, if_pos ⟨h1, rfl⟩]
      clear HE2 h1
      go_enter Try.func8, Try.ntmps8
      go_wp2_with (go_at_call 18; go_loud (refine (rcheck_any n ⟨sa, k, sc⟩ ⟨la, m, lc⟩ _ hm HH.out).mono ?_); rintro e w1 ⟨rfl, hb1⟩; rw [HCE.out]; have HB1 := Lib.hid (HB0.out.trans (hb1.mono HB0.out.size)); have HX1 := Lib.hid (box_below HX0.out hb1); have HO1 := Lib.hid (HO.out.below hb1); obtain ⟨-, -, d2, -, -, -⟩ := box3_cells HX1.out; clear hb1)
      clear c0 c1 c2 d2
      go_loopw [6] (fun v wr => ∃ j : Nat, v = .int .i64 j ∧ j ≤ on ∧ Hid ((os.take j).all opB = true) ∧ Hid (w1 = wr)) (fun v _ => on - (intOf v).toNat)
      case atStart => exact ⟨0, by go_num, by omega, rfl, rfl⟩
      case round =>
        obtain ⟨j, rfl, hj, hall, HW⟩ := hrel
        have hw := HW.out
        clear HW
        subst hw
        by_cases hlt : j < on
        · obtain ⟨b, off, r, rfl, hbl, hr, c0⟩ := int_at HO1.out hlt
          have hji : (j : Int) < (on : Int) := by omega
          have HR := Lib.hid hr
          clear hr
          by_cases r0 : r < 0
          · have hz : 2 = q := HEV.out false (by
              rw [Bool.eq_false_iff]; intro hh
              have h9 : 0 ≤ r ∧ r ≤ 63 := of_decide_eq_true (List.all_eq_true.1 hh r (List.mem_of_getElem? HR.out))
              omega)
            subst hz
            go_wp2_with fail
            go_ret
            exact ⟨rfl, HB1.out⟩
          · have d0 : decide (r < 0) = false := decide_eq_false r0
            by_cases r1 : 63 < r
            · have hz : 2 = q := HEV.out false (by
                rw [Bool.eq_false_iff]; intro hh
                have h9 : 0 ≤ r ∧ r ≤ 63 := of_decide_eq_true (List.all_eq_true.1 hh r (List.mem_of_getElem? HR.out))
                omega)
              subst hz
              go_wp2_with fail
              go_ret
              exact ⟨rfl, HB1.out⟩
            · have d1 : decide (63 < r) = false := decide_eq_false r1
              have HOP : Hid (opB r = true) := decide_eq_true ⟨by omega, by omega⟩
              go_wp2_with fail
              go_roundw
              case rel => exact ⟨j + 1, by go_num, by omega, by show _ = _; rw [take_at HR.out, List.all_append, hall.out]; simp [HOP.out], Lib.hid trivial⟩
              case measure => simp [intOf]; omega
        · have hk' : j = on := by omega
          subst hk'
          have hz : 0 = q := HEV.out true (by have := hall.out; rwa [List.take_of_length_le (by rw [← HN.out]; exact Nat.le_refl _)] at this)
          subst hz
          go_wp2_with fail
          go_ret
          exact ⟨rfl, HB1.out⟩
theorem own_to {α : Type} {e : TypeId} {c : Cod α} {base : Nat} {w : World} {a : Option Addr} {m cap : Nat} {xs : List α} (h : Go.V.Own e c base w (.slice a m cap) xs) : Sl c w a m cap xs := by
  obtain ⟨a', cap', h1, h2, -⟩ := h.slice
  cases h1
  exact h2
theorem own_off {α : Type} {e : TypeId} {c : Cod α} {ob : Nat} {w w' : World} {v : Value} {xs : List α} (h : Go.V.Own e c (ob + 1) w v xs) (hg : w.grownBy w' (some ob)) : Go.V.Own e c (ob + 1) w' v xs :=
  h.kept hg (.inr fun e => by have := (World.ownsRow.lt h ob e).1; omega)

set_option maxHeartbeats 8000000 in
set_option maxRecDepth 100000 in
theorem rweights_any (n : Net) (hs hl : Hdr) (a : Option Addr) (on oc : Nat) (os : List Int) (x y : Int) (w : World) (h60 : hs.n ≤ 60) (h120 : hl.n ≤ 120) (h : NetIn w n hs hl) (ho : Sl icod w a on oc os) :
    Calls Try.prog 10 #[n.val hs hl, .slice a on oc, .int .i64 x, .int .i64 y] w fun e w' =>
      (werrE n hs.n os x y ≠ 0 → e = .returned (.tuple #[.slice none 0 0, .int .i64 (werrE n hs.n os x y)])) ∧
      (werrE n hs.n os x y = 0 → ∃ v, e = .returned (.tuple #[v, .int .i64 0]) ∧ V.Own 3 icod w.heap.size w' v (weightsE n hs.n os x y)) ∧ Below w.heap.size w w' := by
  have mixed : Try.prog.follows .mixedOrders = true := by kernel_rfl
  obtain ⟨sa, k, sc⟩ := hs
  obtain ⟨la, m, lc⟩ := hl
  have h60 : k ≤ 60 := h60
  have h120 : m ≤ 120 := h120
  have HKN : Hid (k = n.stops.length) := h.s.hlen
  have HLN : Hid (m = n.links.length) := h.l.hlen
  have HX0 := Lib.hid (box_new w (n.box ⟨sa, k, sc⟩ ⟨la, m, lc⟩))
  have HB0 : Hid (Below w.heap.size w (w.alloc (n.box ⟨sa, k, sc⟩ ⟨la, m, lc⟩))) := (Below.refl _ _).alloc (Nat.le_refl _) _
  have HH := Lib.hid (h.below HB0.out)
  have HO := Lib.hid (ho.below HB0.out)
  have HON : Hid (on = os.length) := ho.hlen
  have ho9 : on ≤ 9223372036854775807 := by have h1 : on ≤ oc := ho.hcap; have h2 : oc ≤ maxLen := ho.hmax; unfold maxLen at h2; omega
  have HM : Hid (k ≤ 1000000 ∧ m ≤ 1000000) := ⟨by omega, by omega⟩
  obtain ⟨we, hwe⟩ : ∃ we, werrE n k os x y = we := ⟨_, rfl⟩
  have hWE : (if opE n os = 0 then wayErr n k x y else opE n os) = we := hwe
  obtain ⟨R, hR⟩ : ∃ R, weightsE n k os x y = R := ⟨_, rfl⟩
  have HR := Lib.hid hR
  show Calls _ _ _ _ fun e w' => (werrE n k os x y ≠ 0 → e = .returned (.tuple #[.slice none 0 0, .int .i64 (werrE n k os x y)])) ∧ (werrE n k os x y = 0 → ∃ v, e = .returned (.tuple #[v, .int .i64 0]) ∧ V.Own 3 icod w.heap.size w' v (weightsE n k os x y)) ∧ Below w.heap.size w w'
  rw [hwe, hR]
  obtain ⟨oe, hoe⟩ : ∃ oe, opE n os = oe := ⟨_, rfl⟩
  have HOE := Lib.hid hoe
  rw [hoe] at hWE
  clear h ho hwe hR hoe
  obtain ⟨c0, c1, c2, -, -, -⟩ := box3_cells HX0.out
  by_cases h0 : oe = 0
  case neg =>
    rw [if_neg h0] at hWE
    subst hWE
    have h0b : (oe != 0) = true := by simpa using h0
    have H0 := Lib.hid h0
    clear h0
    go_enter Try.func10, Try.ntmps10
    go_wp2_with (go_at_call 8; go_loud (refine (roper_any n ⟨sa, k, sc⟩ ⟨la, m, lc⟩ a on oc os _ HM.out HH.out HO.out).mono ?_); rintro e w1 ⟨rfl, hb1⟩; rw [HOE.out]; have HB1 := Lib.hid (HB0.out.trans (hb1.mono HB0.out.size)); clear hb1)
    go_ret2
    exact ⟨fun _ => rfl, fun h => absurd h H0.out, HB1.out⟩
  subst h0
  rw [if_pos rfl] at hWE
  obtain ⟨ok1, ok2, ok3⟩ := opE_ok HOE.out
  have HWE := Lib.hid hWE
  have HCK := Lib.hid ok1
  have HOL := Lib.hid ok2
  have HOB := Lib.hid ok3
  clear ok1 ok2 ok3 hWE
  have hfx : fromE n x = if 0 ≤ x ∧ x < k then 0 else 2 := by unfold fromE; rw [if_pos HCK.out, HKN.out]
  have hbad : ¬ (0 ≤ x ∧ x < k ∧ 0 ≤ y ∧ y < k) → we = 2 := by
    intro hh
    rw [← HWE.out]
    unfold wayErr
    rw [hfx]
    by_cases q : 0 ≤ x ∧ x < k
    · rw [if_pos q, if_neg (by simp), if_neg (fun z => hh ⟨q.1, q.2, z.1, z.2⟩)]
    · rw [if_neg q, if_pos (by simp)]
  by_cases x0 : x < 0
  · have hz := hbad (fun z => by omega)
    subst hz
    go_enter Try.func10, Try.ntmps10
    go_wp2_with (go_at_call 8; go_loud (refine (roper_any n ⟨sa, k, sc⟩ ⟨la, m, lc⟩ a on oc os _ HM.out HH.out HO.out).mono ?_); rintro e w1 ⟨rfl, hb1⟩; rw [HOE.out]; have HB1 := Lib.hid (HB0.out.trans (hb1.mono HB0.out.size)); have HX1 := Lib.hid (box_below HX0.out hb1); obtain ⟨d0, d1, d2, -, -, -⟩ := box3_cells HX1.out; clear hb1)
    go_ret2
    exact ⟨fun _ => rfl, fun h => by simp at h, HB1.out⟩
  have dx0 : decide (x < 0) = false := decide_eq_false x0
  by_cases y0 : y < 0
  · have hz := hbad (fun z => by omega)
    subst hz
    go_enter Try.func10, Try.ntmps10
    go_wp2_with (go_at_call 8; go_loud (refine (roper_any n ⟨sa, k, sc⟩ ⟨la, m, lc⟩ a on oc os _ HM.out HH.out HO.out).mono ?_); rintro e w1 ⟨rfl, hb1⟩; rw [HOE.out]; have HB1 := Lib.hid (HB0.out.trans (hb1.mono HB0.out.size)); have HX1 := Lib.hid (box_below HX0.out hb1); obtain ⟨d0, d1, d2, -, -, -⟩ := box3_cells HX1.out; clear hb1)
    go_ret2
    exact ⟨fun _ => rfl, fun h => by simp at h, HB1.out⟩
  have dy0 : decide (y < 0) = false := decide_eq_false y0
  by_cases x1 : (k : Int) ≤ x
  · have hz := hbad (fun z => by omega)
    subst hz
    go_enter Try.func10, Try.ntmps10
    go_wp2_with (go_at_call 8; go_loud (refine (roper_any n ⟨sa, k, sc⟩ ⟨la, m, lc⟩ a on oc os _ HM.out HH.out HO.out).mono ?_); rintro e w1 ⟨rfl, hb1⟩; rw [HOE.out]; have HB1 := Lib.hid (HB0.out.trans (hb1.mono HB0.out.size)); have HX1 := Lib.hid (box_below HX0.out hb1); obtain ⟨d0, d1, d2, -, -, -⟩ := box3_cells HX1.out; clear hb1)
    go_ret2
    exact ⟨fun _ => rfl, fun h => by simp at h, HB1.out⟩
  have dx1 : decide ((k : Int) ≤ x) = false := decide_eq_false x1
  by_cases y1 : (k : Int) ≤ y
  · have hz := hbad (fun z => by omega)
    subst hz
    go_enter Try.func10, Try.ntmps10
    go_wp2_with (go_at_call 8; go_loud (refine (roper_any n ⟨sa, k, sc⟩ ⟨la, m, lc⟩ a on oc os _ HM.out HH.out HO.out).mono ?_); rintro e w1 ⟨rfl, hb1⟩; rw [HOE.out]; have HB1 := Lib.hid (HB0.out.trans (hb1.mono HB0.out.size)); have HX1 := Lib.hid (box_below HX0.out hb1); obtain ⟨d0, d1, d2, -, -, -⟩ := box3_cells HX1.out; clear hb1)
    go_ret2
    exact ⟨fun _ => rfl, fun h => by simp at h, HB1.out⟩
  have dy1 : decide ((k : Int) ≤ y) = false := decide_eq_false y1
  obtain ⟨xn, rfl⟩ : ∃ xn : Nat, x = xn := ⟨x.toNat, by omega⟩
  obtain ⟨yn, rfl⟩ : ∃ yn : Nat, y = yn := ⟨y.toNat, by omega⟩
  have hxk : xn < k := by omega
  have hyk : yn < k := by omega
  have hykI : (yn : Int) < (k : Int) := by omega
  clear hbad
  rw [if_pos ⟨by omega, by omega⟩] at hfx
  have hwe2 : we = if far n.links k xn yn < 0 then 30 else 0 := by
    rw [← HWE.out]; unfold wayErr
    rw [hfx, if_neg (by simp), if_pos ⟨by omega, by omega⟩]
  clear hfx
  obtain ⟨fd, hfd⟩ : ∃ fd, far n.links k xn yn = fd := ⟨_, rfl⟩
  have HFD := Lib.hid hfd
  rw [hfd] at hwe2
  clear hfd
  have HBF : Hid (∀ L : List Int, L = bf n.links n.stops.length xn → L.length = k → L[yn]? = some fd) := by
    intro L hL hl
    have h1 := HFD.out
    unfold far at h1
    rw [if_pos (by omega), Int.toNat_natCast, HKN.out, ← hL] at h1
    rw [List.getD_eq_getElem?_getD] at h1
    rw [List.getElem?_eq_getElem (by omega)] at h1 ⊢
    simpa using h1
  by_cases hf0 : fd < 0
  · rw [if_pos hf0] at hwe2
    subst hwe2
    go_enter Try.func10, Try.ntmps10
    go_wp2_with (first
      | (go_at_call 8; go_loud (refine (roper_any n ⟨sa, k, sc⟩ ⟨la, m, lc⟩ a on oc os _ HM.out HH.out HO.out).mono ?_); rintro e w1 ⟨rfl, hb1⟩; rw [HOE.out]; have HB1 := Lib.hid (HB0.out.trans (hb1.mono HB0.out.size)); have HX1 := Lib.hid (box_below HX0.out hb1); have HH1 := Lib.hid (HH.out.below hb1); obtain ⟨d0, d1, d2, -, -, -⟩ := box3_cells HX1.out; clear hb1)
      | (go_at_call 22; go_loud (refine (rfrom_any n ⟨sa, k, sc⟩ ⟨la, m, lc⟩ xn _ HH1.out HCK.out h60 h120 hxk).mono ?_); rintro e w2 ⟨fo, fc, rfl, ho2, hb2⟩; obtain ⟨fv, hfv, t0, -, -⟩ := Ir.icells ho2 (by rw [bf_len]; exact HKN.out) hyk; have hfe := (Option.some.inj (hfv.symm.trans (HBF.out _ rfl (by rw [bf_len]; exact HKN.out.symm)))).symm; subst hfe; have HB2 := Lib.hid (HB1.out.trans (hb2.mono HB1.out.size)); clear hb2 ho2 hfv))
    go_ret2
    exact ⟨fun _ => rfl, fun h => by simp at h, HB2.out⟩
  have df0 : decide (fd < 0) = false := decide_eq_false hf0
  rw [if_neg hf0] at hwe2
  subst hwe2
  have hx0 : 0 ≤ (xn : Int) ∧ (xn : Int) < k := by omega
  have hf1 : 0 ≤ far n.links k xn yn := by rw [HFD.out]; omega
  obtain ⟨-, -, -, -, kk5, kk6⟩ := check_ok HCK.out
  rw [← HKN.out] at kk5
  have HLO := Lib.hid kk5
  have HPW := Lib.hid kk6
  have HFR := Lib.hid hf1
  have hgd := wayL_good kk5 kk6 hx0 hf1
  have hlim := (far_lim kk5 hx0 h60 (by rw [← HLN.out]; exact h120) yn).2
  rw [HFD.out] at hgd hlim
  obtain ⟨xs, hxs⟩ : ∃ xs, wayL n.links k xn yn = xs := ⟨_, rfl⟩
  rw [hxs] at hgd
  have HXS := Lib.hid hxs
  have HGD := Lib.hid hgd
  have HXN : Hid (0 < xs.length) := List.length_pos_iff.2 hgd.ne
  obtain ⟨mm1, mm2, mm3⟩ := manyE_in os 0 HOB.out (Int.le_refl _) (by omega)
  obtain ⟨mz, hmz⟩ : ∃ mz : Nat, manyE os 0 = mz := ⟨(manyE os 0).toNat, by omega⟩
  rw [hmz] at mm2 mm3
  have HMZ := Lib.hid hmz
  have HMO := Lib.hid mm3
  have hm64 : mz ≤ 64 := by omega
  have HRW : Hid (wsGo n.links os xs (xs.length - 1) 0 (List.replicate mz 0) = R) := by
    have := HR.out
    unfold weightsE at this
    rw [hxs, hmz, Int.toNat_natCast] at this
    exact this
  have hmk := Ir.make_any mz (by omega)
  clear hx0 hf1 kk5 kk6 hgd hxs mm1 mm2 mm3 hmz HR
  go_enter Try.func10, Try.ntmps10
  go_upto_region 8 with (first
    | (go_at_call 8; go_loud (refine (roper_any n ⟨sa, k, sc⟩ ⟨la, m, lc⟩ a on oc os _ HM.out HH.out HO.out).mono ?_); rintro e w1 ⟨rfl, hb1⟩; rw [HOE.out]; have HB1 := Lib.hid (HB0.out.trans (hb1.mono HB0.out.size)); have HX1 := Lib.hid (box_below HX0.out hb1); have HH1 := Lib.hid (HH.out.below hb1); have HO1 := Lib.hid (HO.out.below hb1); obtain ⟨d0, d1, d2, -, -, -⟩ := box3_cells HX1.out; clear hb1)
    | (go_at_call 22; go_loud (refine (rfrom_any n ⟨sa, k, sc⟩ ⟨la, m, lc⟩ xn _ HH1.out HCK.out h60 h120 hxk).mono ?_); rintro e w2 ⟨fo, fc, rfl, ho2, hb2⟩; obtain ⟨fv, hfv, t0, -, -⟩ := Ir.icells ho2 (by rw [bf_len]; exact HKN.out) hyk; have hfe := (Option.some.inj (hfv.symm.trans (HBF.out _ rfl (by rw [bf_len]; exact HKN.out.symm)))).symm; subst hfe; have HB2 := Lib.hid (HB1.out.trans (hb2.mono HB1.out.size)); have HX2 := Lib.hid (box_below HX1.out hb2); have HH2 := Lib.hid (HH1.out.below hb2); have HO2 := Lib.hid (HO1.out.below hb2); clear hb2 ho2 hfv))
  clear c0 c1 c2 d0 d1 d2 HX0 HX1 HB0 HB1 HH HH1 HO HO1
  go_wp2_with fail
  go_loopw [11, 12] (fun v i wr => ∃ (j : Nat) (mm : Int), i = .int .i64 j ∧ v = .int .i64 mm ∧ j ≤ on ∧ 0 ≤ mm ∧ mm ≤ 64 ∧ Hid (manyE (os.drop j) mm = (mz : Int)) ∧ Hid (w2 = wr)) (fun _ i _ => on - (intOf i).toNat)
  case atStart => exact ⟨0, 0, by go_num, rfl, by omega, by omega, by omega, by rw [List.drop_zero]; exact HMZ.out, rfl⟩
  case round =>
    obtain ⟨j, mm, rfl, rfl, hj, m0, m1, HMM, HWW⟩ := hrel
    have hww := HWW.out
    clear HWW
    subst hww
    by_cases hlt : j < on
    · obtain ⟨b, off, o, rfl, hbl, hr, q0⟩ := int_at HO2.out hlt
      have hji : (j : Int) < (on : Int) := by omega
      have hob : 0 ≤ o ∧ o ≤ 63 := of_decide_eq_true (List.all_eq_true.1 HOB.out o (List.mem_of_getElem? hr))
      have hz := HMM.out
      rw [drop_at hr] at hz
      have hz : manyE (os.drop (j + 1)) (if mm < o + 1 then o + 1 else mm) = (mz : Int) := hz
      clear hr hmk
      by_cases hm : mm < o + 1
      · rw [if_pos hm] at hz
        have HZ := Lib.hid hz
        have hd1 : decide (mm ≤ o) = true := decide_eq_true (by omega)
        clear hz
        go_wp2_with fail
        go_roundw
        case rel => exact ⟨j + 1, o + 1, by go_num, by go_num, by omega, by omega, by omega, HZ.out, Lib.hid trivial⟩
        case measure => simp [intOf]; omega
      · rw [if_neg hm] at hz
        have HZ := Lib.hid hz
        have hd1 : decide (mm ≤ o) = false := decide_eq_false (by omega)
        clear hz
        go_wp2_with fail
        go_roundw
        case rel => exact ⟨j + 1, mm, by go_num, rfl, by omega, by omega, by omega, HZ.out, Lib.hid trivial⟩
        case measure => simp [intOf]; omega
    have hjn : on = j := by omega
    subst hjn
    have hz := HMM.out
    rw [List.drop_of_length_le (by rw [← HON.out]; exact Nat.le_refl _)] at hz
    have hz : mm = (mz : Int) := hz
    subst hz
    obtain ⟨W, rfl⟩ : ∃ W : World, W = w2 := ⟨_, rfl⟩
    obtain ⟨c0, c1, c2, -, -, -⟩ := box3_cells HX2.out
    have HOW : Hid (V.Own 3 icod w.heap.size (W.alloc (.cells (madeCells #[.int .i64 0] mz) 3)) (.slice (some ⟨W.heap.size, 0, none⟩) mz mz) (List.replicate mz 0)) := Ir.own_made W mz w.heap.size HB2.out.size (by unfold maxLen; omega)
    have HK3 : Hid (Below W.heap.size W (W.alloc (.cells (madeCells #[.int .i64 0] mz) 3))) := (Below.refl _ _).alloc (Nat.le_refl _) _
    have hzw : w.heap.size < W.heap.size := box_lt HX2.out
    go_upto_region 16 with (go_at_call 23; go_loud (refine (rway_any n ⟨sa, k, sc⟩ ⟨la, m, lc⟩ xn yn _ (HH2.out.below HK3.out) HCK.out h60 h120 hxk hyk HFR.out).mono ?_); rintro e w3 ⟨v3, rfl, ho3, hb3⟩; rw [show wayL n.links (Hdr.mk sa k sc).n xn yn = xs from HXS.out] at ho3; obtain ⟨va, vc, rfl, hs3, -⟩ := ho3.slice; have HV3 : Hid (Go.V.Own 3 icod (W.heap.size + 1) w3 (.slice va xs.length vc) xs) := (by have h9 := ho3; rw [show (W.alloc (.cells (madeCells #[.int .i64 0] mz) 3)).heap.size = W.heap.size + 1 from by simp] at h9; exact h9); have HOW3 := Lib.hid (HOW.out.below hb3); have HK4 := Lib.hid (HK3.out.trans (hb3.mono HK3.out.size)); clear ho3 hs3 hb3)
    obtain ⟨ob, hobq⟩ : ∃ ob, W.heap.size = ob := ⟨_, rfl⟩
    rw [hobq] at HOW3 HV3 ⊢
    have HOBK := Lib.hid hobq
    obtain ⟨vn, hvn⟩ : ∃ vn, xs.length = vn := ⟨_, rfl⟩
    rw [hvn] at HV3 ⊢
    have HVN := Lib.hid hvn
    have hvn9 : vn ≤ 9223372036854775807 := by have h1 : vn ≤ vc := (own_to HV3.out).hcap; have h2 : vc ≤ maxLen := (own_to HV3.out).hmax; unfold maxLen at h2; omega
    clear hobq hvn hmk c0 c1 c2 HOW HK3
    go_wp2_with fail
    go_loopw [15] (fun i wr => ∃ (j : Nat) (out : List Int) (acc : Int), i = .int .i64 (j : Nat) ∧ j < vn ∧ 0 ≤ acc ∧ Hid (V.Own 3 icod w.heap.size wr (.slice (some ⟨ob, 0, none⟩) mz mz) out) ∧ Hid (Wb mz acc out) ∧ Hid (wRun n.links xs (vn - 1 - j) j acc = (fd, true)) ∧ Hid (wsGo n.links os xs (vn - 1 - j) j out = R) ∧ Hid (Below W.heap.size W wr) ∧ Hid (Go.V.Own 3 icod (ob + 1) wr (.slice va vn vc) xs)) (fun i _ => vn - (intOf i).toNat)
    case atStart =>
      have hk4 := HK4.out
      exact ⟨0, List.replicate mz 0, 0, by go_num, by have := HVN.out; have := HXN.out; omega, by omega, HOW3.out, wb_new mz, by rw [← HVN.out]; exact HGD.out.run, by rw [← HVN.out]; exact HRW.out, hk4, HV3.out⟩
    case round =>
      clear HOW3 HK4 HV3
      obtain ⟨j, out, acc, rfl, hj, ha0, HOW, HWB, HRN, HGO, HBK, HVO⟩ := hrel
      obtain ⟨Wi, rfl⟩ : ∃ Wi : World, Wi = wr := ⟨_, rfl⟩
      have hwj : IntKind.i64.wrap ((j : Int) + 1) = (j : Int) + 1 := by rw [IntKind.wrap_i64]; omega
      by_cases hlt : j + 1 < vn
      case neg =>
        have hjn : vn = j + 1 := by omega
        have hz := HGO.out
        rw [hjn, show j + 1 - 1 - j = 0 by omega] at hz
        have hz : out = R := hz
        subst hz
        have hd9 : decide ((j : Int) + 1 < (vn : Int)) = false := decide_eq_false (by omega)
        clear hjn
        go_wp2_with fail
        go_ret2
        exact ⟨fun h => absurd rfl h, fun _ => ⟨_, rfl, HOW.out⟩, HB2.out.trans (HBK.out.mono HB2.out.size)⟩
      have hd9 : decide ((j : Int) + 1 < (vn : Int)) = true := decide_eq_true (by omega)
      have hvi := own_to HVO.out
      obtain ⟨b1, o1, p, rfl, hbl1, hp, p0⟩ := int_at hvi (i := j) (by omega)
      obtain ⟨b2, o2, q, e2, hbl2, hq, q0⟩ := int_at hvi (i := j + 1) hlt
      cases e2
      obtain ⟨c, hc⟩ : ∃ c, vn - 1 - j = c + 1 := ⟨vn - 1 - j - 1, by omega⟩
      have hrn := HRN.out
      have hgo := HGO.out
      rw [hc] at hrn hgo
      obtain ⟨hne, hrn⟩ := wRun_ne hrn
      have hgo : wsGo n.links os xs c (j + 1) (addE n.links os (xs.getD j 0) (xs.getD (j + 1) 0) out) = R := hgo
      rw [getD_at hp, getD_at hq] at hne hrn hgo
      have hc2 : c = vn - 1 - (j + 1) := by omega
      rw [hc2] at hrn hgo
      obtain ⟨l, hJ1, hJ2, hJ3, hJ4⟩ := idx_of hne
      obtain ⟨J, hJ⟩ : ∃ J, idxE n.links p q = J := ⟨_, rfl⟩
      have hwb := HWB.out.add HLO.out (os := os) ha0 p q
      have hdl := wRun_le HLO.out _ _ _ _ hrn
      have hlw := HLO.out l (List.mem_of_getElem? hJ1)
      obtain ⟨out2, hout2⟩ : ∃ out2, addE n.links os p q out = out2 := ⟨_, rfl⟩
      rw [hout2] at hwb hgo
      unfold addE at hout2
      rw [hJ] at hJ1 hJ4 hout2
      obtain ⟨ow, how⟩ : ∃ ow, os[J]? = some ow := ⟨_, List.getElem?_eq_getElem (by have := (List.getElem?_eq_some_iff.1 hJ1).1; have := HOL.out; omega)⟩
      rw [getD_at how, ← hJ3] at hout2
      rw [← hJ3] at hrn hdl hwb
      obtain ⟨oo, rfl⟩ : ∃ oo : Nat, ow = oo := ⟨ow.toNat, by have := HMO.out ow (List.mem_of_getElem? how); omega⟩
      have hoo : oo < mz := by have := HMO.out _ (List.mem_of_getElem? how); omega
      rw [Int.toNat_natCast] at hout2
      have hJm : J < m := by have := (List.getElem?_eq_some_iff.1 hJ1).1; have := HLN.out; omega
      have HHOW := Lib.hid how
      have HJ1 := Lib.hid hJ1
      have HJ2 := Lib.hid hJ2
      have HRN2 := Lib.hid hrn
      have HGO2 := Lib.hid hgo
      have HWB2 := Lib.hid hwb
      have HO22 := Lib.hid hout2
      have HP := Lib.hid hp
      have HQ := Lib.hid hq
      clear hp hq hc hc2 hne hrn hgo hwb hJ1 hJ2 hJ3 hJ4 hJ how hout2 hvi p0 q0 hbl1 hbl2
      have hn9 : m ≤ 9223372036854775807 := by omega
      have HX0 := Lib.hid (box_below HX2.out HBK.out)
      obtain ⟨c0, c1, c2, -, -, -⟩ := box3_cells HX0.out
      go_wp2_with fail
      go_loopw [16] (fun i wr => ∃ (kk : Nat) (out' : List Int), i = .int .i64 (kk : Nat) ∧ kk ≤ m ∧ Hid (out' = if J < kk then out2 else out) ∧ Hid (V.Own 3 icod w.heap.size wr (.slice (some ⟨ob, 0, none⟩) mz mz) out') ∧ Hid (Below W.heap.size W wr) ∧ Hid (Go.V.Own 3 icod (ob + 1) wr (.slice (some ⟨b1, o1, none⟩) vn vc) xs)) (fun i _ => m - (intOf i).toNat)
      case atStart => exact ⟨0, out, by go_num, by omega, by show _ = _; rw [if_neg (by omega)], HOW.out, HBK.out, HVO.out⟩
      case round =>
        clear HOW HBK HVO HX0 c0 c1 c2
        obtain ⟨kk, out', rfl, hkk, HOE2, HOW, HBK, HVO⟩ := hrel
        have HX3 := Lib.hid (box_below HX2.out HBK.out)
        obtain ⟨c0, c1, c2, -, -, -⟩ := box3_cells HX3.out
        by_cases hlk : kk < m
        case neg =>
          have hkm : kk = m := by omega
          subst hkm
          have hz := HOE2.out
          rw [if_pos hJm] at hz
          subst hz
          go_wp2_with fail
          go_roundw
          case rel => exact ⟨j + 1, out', acc + l.w, by go_num, hlt, by omega, HOW.out, HWB2.out, HRN2.out, HGO2.out, HBK.out, HVO.out⟩
          case measure => simp [intOf]; omega
        have hki : (kk : Int) < (m : Int) := by omega
        obtain ⟨lb, lo, l', e5, hbl5, hl5, w0, w1, w2'⟩ := lnk_at (HH2.out.l.below HBK.out) (i := kk) hlk
        have e5 : la = _ := e5
        subst e5
        have hlab := HLO.out l' (List.mem_of_getElem? hl5)
        have HL5 := Lib.hid hl5
        clear hl5
        go_upto_region 23 with fail
        have HXB := Lib.hid (box_new wr (.cells #[.int .i64 l'.a, .int .i64 l'.b, .int .i64 l'.w] 55))
        have HBX : Hid (Below wr.heap.size wr (wr.alloc (.cells #[.int .i64 l'.a, .int .i64 l'.b, .int .i64 l'.w] 55))) := (Below.refl _ _).alloc (Nat.le_refl _) _
        obtain ⟨zb, hzb⟩ : ∃ zb, wr.heap.size = zb := ⟨_, rfl⟩
        obtain ⟨X, hX⟩ : ∃ X, wr.alloc (.cells #[.int .i64 l'.a, .int .i64 l'.b, .int .i64 l'.w] 55) = X := ⟨_, rfl⟩
        rw [hX, hzb] at HXB
        rw [hX] at HBX
        rw [hX, hzb]
        obtain ⟨x0, x1, x2⟩ : X.cell? ⟨zb, 0, none⟩ = some (.int .i64 l'.a) ∧ X.cell? ⟨zb, 1, none⟩ = some (.int .i64 l'.b) ∧ X.cell? ⟨zb, 2, none⟩ = some (.int .i64 l'.w) := ⟨(box_cell HXB.out 0).1, (box_cell HXB.out 1).1, (box_cell HXB.out 2).1⟩
        have hvx := own_to (HVO.out.below HBX.out)
        obtain ⟨b3, o3, p', e6, hbl6, hp', p0⟩ := int_at hvx (i := j) (by omega)
        cases e6
        have hpp := Option.some.inj (hp'.symm.trans HP.out)
        subst hpp
        obtain ⟨b4, o4, q', e7, hbl7, hq', q0⟩ := int_at hvx (i := j + 1) hlt
        cases e7
        have hqq := Option.some.inj (hq'.symm.trans HQ.out)
        subst hqq
        have HZB := Lib.hid hzb
        clear hX hzb w0 w1 w2' hvx hp' hq' c0 c1 c2
        have hj0 : 0 ≤ (j : Int) + 1 := by omega
        have hjt : ((j : Int) + 1).toNat = j + 1 := by omega
        have hvj : (j : Int) < (vn : Int) := by omega
        have hvi : (j : Int) + 1 < (vn : Int) := by omega
        have HTB : Hid (∀ bb, (bb = true ↔ (l'.a = p' ∧ l'.b = q' ∨ l'.a = q' ∧ l'.b = p')) → bb = twoB p' q' l') := by
          intro bb hbb
          unfold twoB
          cases bb with
          | true => exact (decide_eq_true (hbb.1 rfl)).symm
          | false => exact (decide_eq_false (fun h => by have := hbb.2 h; cases this)).symm
        go_cut [128] (fun v wx => v = .bool (twoB p' q' l') ∧ Below X.heap.size X wx)
        case first =>
          by_cases e1 : l'.a = p'
          · have d1 : (l'.a == p') = true := by simpa using e1
            by_cases e2 : l'.b = q'
            · have d2 : (l'.b == q') = true := by simpa using e2
              have HT := Lib.hid (HTB.out true (by simp [e1, e2]))
              clear e1 e2
              go_wp2_with fail
              go_quiet (fail)
              go_wp2_with fail
              go_meet
              exact ⟨congrArg _ HT.out, below_drewN (Below.refl _ _) _⟩
            · have d2 : (l'.b == q') = false := by simpa using e2
              have d3 : (l'.b == p') = false := by simp; omega
              have HT := Lib.hid (HTB.out false (by simp; omega))
              clear e1 e2
              go_wp2_with fail
              go_quiet (fail)
              go_wp2_with fail
              go_meet
              exact ⟨congrArg _ HT.out, below_drewN (Below.refl _ _) _⟩
          · have d1 : (l'.a == p') = false := by simpa using e1
            by_cases e3 : l'.b = p'
            · have d3 : (l'.b == p') = true := by simpa using e3
              by_cases e4 : l'.a = q'
              · have d4 : (l'.a == q') = true := by simpa using e4
                have HT := Lib.hid (HTB.out true (by simp [e3, e4]))
                clear e1 e3 e4
                go_wp2_with fail
                go_quiet (fail)
                go_wp2_with fail
                go_meet
                exact ⟨congrArg _ HT.out, below_drewN (Below.refl _ _) _⟩
              · have d4 : (l'.a == q') = false := by simpa using e4
                have HT := Lib.hid (HTB.out false (by simp; omega))
                clear e1 e3 e4
                go_wp2_with fail
                go_quiet (fail)
                go_wp2_with fail
                go_meet
                exact ⟨congrArg _ HT.out, below_drewN (Below.refl _ _) _⟩
            · have d3 : (l'.b == p') = false := by simpa using e3
              have HT := Lib.hid (HTB.out false (by simp; omega))
              clear e1 e3
              go_wp2_with fail
              go_quiet (fail)
              go_wp2_with fail
              go_meet
              exact ⟨congrArg _ HT.out, below_drewN (Below.refl _ _) _⟩
        obtain ⟨rfl, hbc⟩ := hcut
        have HBC := Lib.hid hbc
        have hxs9 : zb < X.heap.size := box_lt HXB.out
        have HBKc : Hid (Below W.heap.size W wc) := HBK.out.trans ((HBX.out.trans (hbc.mono HBX.out.size)).mono HBK.out.size)
        have HOWc := Lib.hid ((HOW.out.below HBX.out).below hbc)
        have HVOc := Lib.hid ((HVO.out.below HBX.out).below hbc)
        clear hbc x0 x1 x2 p0 q0 hvj hvi hj0 hjt
        obtain ⟨tb, htb⟩ : ∃ tb, twoB p' q' l' = tb := ⟨_, rfl⟩
        rw [htb]
        have HTB2 := Lib.hid htb
        clear htb HTB
        cases tb with
        | false =>
          have hne : kk ≠ J := by
            rintro rfl
            have h1 := HL5.out.symm.trans HJ1.out
            have h2 := Option.some.inj h1
            rw [h2, HJ2.out] at HTB2
            have := HTB2.out; cases this
          have HOE3 : Hid (out' = if J < kk + 1 then out2 else out) := by
            have := HOE2.out
            by_cases h : J < kk
            · show _ = _; rw [if_pos h] at this; rw [if_pos (by omega)]; exact this
            · show _ = _; rw [if_neg h] at this; rw [if_neg (by omega)]; exact this
          clear hne
          go_wp2_with fail
          go_roundw
          case rel => exact ⟨kk + 1, out', by go_num, by omega, HOE3.out, HOWc.out, HBKc.out, HVOc.out⟩
          case measure => simp [intOf]; omega
        | true =>
          have hJk : kk = J := two_one HLO.out HPW.out HL5.out HJ1.out HTB2.out HJ2.out
          subst hJk
          have hl' := Option.some.inj (HL5.out.symm.trans HJ1.out)
          subst hl'
          have hoe := HOE2.out
          rw [if_neg (by omega)] at hoe
          subst hoe
          have HXC := Lib.hid (box_below HXB.out HBC.out)
          have x2 : wc.cell? ⟨zb, 2, none⟩ = some (.int .i64 l'.w) := (box_cell HXC.out 2).1
          have hzbs : zb < wc.heap.size := box_lt HXC.out
          obtain ⟨ob2, oo2, ow2, e8, hbl8, how2, g0⟩ := int_at (HO2.out.below HBKc.out) (i := kk) (by have := (List.getElem?_eq_some_iff.1 HHOW.out).1; have := HON.out; omega)
          have e8 : a = _ := e8
          subst e8
          have hoe2 := Option.some.inj (how2.symm.trans HHOW.out)
          subst hoe2
          obtain ⟨dv, hdv, r0, r1, hobw⟩ := Ir.icells HOWc.out HWB.out.1.symm hoo
          have ho2 := HO22.out
          rw [getD_at hdv] at ho2
          have hdb := HWB.out.2 dv (List.mem_of_getElem? hdv)
          have hko : (kk : Int) < (on : Int) := by have := (List.getElem?_eq_some_iff.1 HHOW.out).1; have := HON.out; omega
          have hoon : (oo : Int) < (mz : Int) := by omega
          have hwr : IntKind.i64.wrap (dv + l'.w) = dv + l'.w := by rw [IntKind.wrap_i64]; omega
          obtain ⟨hset, hgrow⟩ := Ir.iset HOWc.out HWB.out.1.symm oo (dv + l'.w)
          rw [ho2] at hset
          have HSET := Lib.hid hset
          have HVS := Lib.hid (own_off HVOc.out hgrow)
          have HBF2 : Hid (Below W.heap.size W (wc.setCell ⟨ob, oo, none⟩ (.int .i64 (dv + l'.w)))) := HBKc.out.grown hgrow HBKc.out.size (fun g e => by have := Option.some.inj e; have := HOBK.out; omega)
          have HOE3 : Hid (out2 = if kk < kk + 1 then out2 else out') := by show _ = _; rw [if_pos (by omega)]
          clear how2 hdv hdb hset hgrow ho2
          go_wp2_with fail
          go_region
          all_goals
            go_wp2_with fail
            go_roundw
            case rel => exact ⟨kk + 1, out2, by go_num, by omega, HOE3.out, HSET.out, Below.drew HBF2.out, HVS.out⟩
            case measure => simp [intOf]; omega
end Go.Proofs.Ytgfakkkiejeofaa.Ne
