/- Months as bytes: plain laws. -/
/- Fields: the document's reader, walked: Number, Done. -/
/- Signed numbers and single bytes, read by the document's reader, walked. -/
/- Months out of bytes: month.Take, walked (printed by gen_XMpC.py). -/
/- Months out of bytes: ref37.Take, walked (printed by gen_XMpC.py). -/
import Derived.Test.YtbdkhgenkekioaaWsB
import Derived.Test.YtbdkhgenkekioaaMoS
import Derived.Test.YtbdkhgenkekioaaWiN
import Derived.Test.YtbdkhgenkekioaaMoC
import Derived.Test.YtbdkhgenkekioaaBase6
import Derived.Test.YtbdkhgenkekioaaMoD
namespace Go.Proofs.Ytbdkhgenkekioaa
open Go.V Go.Proofs.Ytbdkhgenkekioaa.Wi

def enR (r : Ride) : List Int := putV r.t.toNat ++ putV r.s.toNat ++ putV r.e.toNat ++ putV (turnV r.f)
def heM (m : Mon) : List Int := [m.a, m.m, m.t, m.c, (m.rides.length : Int)]
def enN (x : Int) : List Int := putV x.toNat
def zB (z : Bool) : Int := if z then 1 else 0
def enM (m : Mon) : List Int := (heM m).flatMap enN ++ m.rides.flatMap enR ++ [zB m.z]
def putMs (ms : List Mon) : List Int := putV ms.length ++ ms.flatMap enM

/-! ### What may be read -/
def rdRide (c : List Int) (s : Rs) : Ride × Rs :=
  let x := rdN c 2147483648 s.1 s.2
  let y := rdN c 1099511627776 x.2.1 x.2.2
  let z := rdN c 1099511627776 y.2.1 y.2.2
  let f := rdS c 4294967296 z.2.1 z.2.2
  (⟨x.1, y.1, z.1, f.1⟩, f.2)
def rdMon (c : List Int) (s : Rs) : (Mon × Int) × Rs :=
  let a := rdN c 2147483648 s.1 s.2
  let m := rdN c 1048576 a.2.1 a.2.2
  let t := rdN c 1048576 m.2.1 m.2.2
  let k := rdN c 15 t.2.1 t.2.2
  let n := rdN c 2048 k.2.1 k.2.2
  let l := rdMany (rdRide c) n.1.toNat n.2
  let z := rdB c l.2.1 l.2.2
  ((⟨a.1, m.1, t.1, k.1, l.1, decide (z.1 = 1)⟩, z.1), z.2)
def rdMons (c : List Int) : List (Mon × Int) × Rs :=
  let n := rdN c 4096 0 0
  rdMany (rdMon c) n.1.toNat n.2
/-- Are all that tell whether it is closed 0 or 1? -/
def formM (l : List (Mon × Int)) : Bool := l.all fun x => decide (x.2 < 2)
/-- The error, and the months, of bytes. -/
noncomputable def takeE (c : List Int) : Int :=
  if doneE c (rdMons c).2.1 (rdMons c).2.2 ≠ 0 then doneE c (rdMons c).2.1 (rdMons c).2.2
  else if formM (rdMons c).1 = false then 11 else if RightM ((rdMons c).1.map Prod.fst) then 0 else 2
noncomputable def takeL (c : List Int) : List Mon := if takeE c = 0 then (rdMons c).1.map Prod.fst else []

/-! ### There and back -/
theorem rdS_put {b : List Int} {most : Int} {at_ : Nat} {n : Int} {t : List Int} (hb : b.drop at_ = putV (turnV n) ++ t) (h1 : -most ≤ n) (h2 : n ≤ most) (hm : most ≤ 4611686018427387904) : rdS b most at_ 0 = (n, at_ + (putV (turnV n)).length, 0) := by
  have hv := turnV_val n
  have hlt : turnV n < 18446744073709551616 := turnV_lt (by omega) (by omega)
  unfold rdS
  rw [if_neg (by simp), hb, takeV_put _ _ hlt]
  simp only []
  rw [if_neg (by simp), if_pos, backV_turn]
  constructor
  · split at hv <;> omega
  · split at hv <;> omega
theorem rdB_put {b : List Int} {at_ : Nat} {x : Int} {t : List Int} (hb : b.drop at_ = [x] ++ t) : rdB b at_ 0 = (x, at_ + 1, 0) := by
  have h1 : b[at_]? = some x := by
    have := List.getElem?_drop (xs := b) (i := at_) (j := 0)
    rw [hb] at this
    simpa using this.symm
  have h2 := (List.getElem?_eq_some_iff.1 h1).1
  unfold rdB
  rw [if_neg (by simp), if_neg (by omega), List.getD_eq_getElem?_getD, h1]; rfl
theorem rdS_step {c : List Int} {most : Int} {at_ : Nat} {n : Int} {t : List Int} (hb : c.drop at_ = putV (turnV n) ++ t) (h1 : -most ≤ n) (h2 : n ≤ most) (hm : most ≤ 4611686018427387904) : rdS c most at_ 0 = (n, at_ + (putV (turnV n)).length, 0) ∧ c.drop (at_ + (putV (turnV n)).length) = t :=
  ⟨rdS_put hb h1 h2 hm, drop_app hb⟩
theorem moneB_iff (r : Ride) : oneB r = true ↔ (1 ≤ r.t ∧ r.t ≤ 2147483648) ∧ (0 ≤ r.e ∧ r.e ≤ 1099511627776) ∧ (0 ≤ r.s ∧ r.s ≤ r.e) ∧ (-1 ≤ r.f ∧ r.f ≤ 4294967296) := by
  unfold oneB withinB
  simp only [Bool.and_eq_true, decide_eq_true_eq]
  constructor
  · rintro ⟨⟨⟨h1, h2⟩, h3⟩, h4⟩; exact ⟨h1, h2, h3, h4⟩
  · rintro ⟨h1, h2, h3, h4⟩; exact ⟨⟨⟨h1, h2⟩, h3⟩, h4⟩
theorem rdRide_put (c : List Int) (x : Ride) (at_ : Nat) (t : List Int) (ho : oneB x = true) (h : c.drop at_ = enR x ++ t) : rdRide c (at_, 0) = (x, at_ + (enR x).length, 0) := by
  obtain ⟨h1, h2, h3, h4⟩ := (moneB_iff x).1 ho
  unfold enR at h ⊢
  rw [List.append_assoc, List.append_assoc, List.append_assoc] at h
  obtain ⟨e1, e2⟩ := rdN_step (most := 2147483648) h (by omega) h1.2 (by omega)
  obtain ⟨e3, e4⟩ := rdN_step (most := 1099511627776) e2 h3.1 (by omega) (by omega)
  obtain ⟨e5, e6⟩ := rdN_step (most := 1099511627776) e4 h2.1 h2.2 (by omega)
  obtain ⟨e7, -⟩ := rdS_step (most := 4294967296) e6 (by omega) h4.2 (by omega)
  unfold rdRide
  simp only [e1, e3, e5, e7]
  simp only [List.length_append, Nat.add_assoc]
theorem enM_split (m : Mon) : enM m = putV m.a.toNat ++ (putV m.m.toNat ++ (putV m.t.toNat ++ (putV m.c.toNat ++ (putV m.rides.length ++ (m.rides.flatMap enR ++ [zB m.z]))))) := by
  unfold enM heM enN
  simp
theorem rdMon_put (c : List Int) (m : Mon) (at_ : Nat) (t : List Int) (ho : OneM m) (h : c.drop at_ = enM m ++ t) : rdMon c (at_, 0) = ((m, zB m.z), at_ + (enM m).length, 0) := by
  obtain ⟨⟨n1, n2, n3, n4⟩, -, hr⟩ := ho
  rw [enM_split] at h ⊢
  simp only [List.append_assoc] at h
  obtain ⟨e1, e2⟩ := rdN_step (most := 2147483648) h (by omega) n1.2 (by omega)
  obtain ⟨e3, e4⟩ := rdN_step (most := 1048576) e2 n2.1 n2.2 (by omega)
  obtain ⟨e5, e6⟩ := rdN_step (most := 1048576) e4 (by omega) n3.2 (by omega)
  obtain ⟨e7, e8⟩ := rdN_step (most := 15) e6 n4.1 n4.2 (by omega)
  have hl : m.rides.length ≤ 2048 := hr.1
  have e9 : rdN c 2048 (at_ + (putV m.a.toNat).length + (putV m.m.toNat).length + (putV m.t.toNat).length + (putV m.c.toNat).length) 0 = ((m.rides.length : Int), at_ + (putV m.a.toNat).length + (putV m.m.toNat).length + (putV m.t.toNat).length + (putV m.c.toNat).length + (putV m.rides.length).length, 0) := rdN_put e8 (by omega) (by omega)
  have e10 := drop_app e8
  have e11 := rdMany_put c (rdRide c) enR (fun x => oneB x = true) (fun x a t ho h => rdRide_put c x a t ho h) m.rides (at_ + (putV m.a.toNat).length + (putV m.m.toNat).length + (putV m.t.toNat).length + (putV m.c.toNat).length + (putV m.rides.length).length) _ (fun x hx => hr.2.1 x hx) e10
  have e12 := drop_app e10
  have e13 := rdB_put e12
  unfold rdMon
  simp only [e1, e3, e5, e7, e9, Int.toNat_natCast, e11, e13]
  simp only [List.length_append, Nat.add_assoc, List.length_cons, List.length_nil]
  congr 2
  · cases m with
    | mk a mm tt cc rides z => cases z <;> simp [zB]
theorem zB_lt (z : Bool) : zB z < 2 := by cases z <;> decide
theorem rdMons_put (ms : List Mon) (h : ∀ m ∈ ms, OneM m) (hl : ms.length ≤ 4096) : rdMons (putMs ms) = (ms.map fun m => (m, zB m.z), (putMs ms).length, 0) := by
  have e0 : (putMs ms).drop 0 = putV ms.length ++ ms.flatMap enM := rfl
  have e1 : rdN (putMs ms) 4096 0 0 = ((ms.length : Int), 0 + (putV ms.length).length, 0) := rdN_put e0 (by omega) (by omega)
  have e2 := drop_app e0
  unfold rdMons
  simp only [e1, Int.toNat_natCast]
  have key : ∀ (l : List Mon) (at_ : Nat) (t : List Int), (∀ m ∈ l, OneM m) → (putMs ms).drop at_ = l.flatMap enM ++ t → rdMany (rdMon (putMs ms)) l.length (at_, 0) = (l.map fun m => (m, zB m.z), at_ + (l.flatMap enM).length, 0) := by
    intro l
    induction l with
    | nil => intro at_ t _ _; simp [rdMany]
    | cons m l ih =>
      intro at_ t ho hd
      rw [List.flatMap_cons, List.append_assoc] at hd
      have h1 := rdMon_put (putMs ms) m at_ _ (ho m (by simp)) hd
      have h2 := ih (at_ + (enM m).length) t (fun x hx => ho x (by simp [hx])) (drop_app hd)
      show rdMany _ (l.length + 1) _ = _
      unfold rdMany
      simp only [h1, h2, List.map_cons, List.flatMap_cons, List.length_append, Nat.add_assoc]
  have h3 := key ms (0 + (putV ms.length).length) [] h (by rw [List.append_nil]; exact e2)
  rw [h3]
  congr 2
  unfold putMs
  simp
theorem take_put (ms : List Mon) (h : RightM ms) : takeE (putMs ms) = 0 ∧ takeL (putMs ms) = ms := by
  have h1 := rdMons_put ms (fun m hm => by
    obtain ⟨i, hi⟩ := List.mem_iff_getElem?.1 hm
    exact (h.2 i m (List.getElem?_eq_some_iff.1 hi).1 hi).1) h.1
  have e2 : (ms.map fun m => (m, zB m.z)).map Prod.fst = ms := by
    rw [List.map_map]
    exact List.map_id ms
  have e : takeE (putMs ms) = 0 := by
    unfold takeE
    rw [h1]
    simp only []
    have hd : doneE (putMs ms) (putMs ms).length 0 = 0 := by unfold doneE; rw [if_neg (by omega)]
    rw [hd, if_neg (by simp), if_neg, e2, if_pos h]
    unfold formM
    rw [List.all_map]
    simp [zB_lt]
  exact ⟨e, by unfold takeL; rw [if_pos e, h1]; exact e2⟩
/-! ### Lengths -/
theorem enR_len {r : Ride} (h : oneB r = true) : (enR r).length ≤ 40 := by
  obtain ⟨h1, h2, h3, h4⟩ := (moneB_iff r).1 h
  have g1 := putV_10 r.t.toNat (by omega)
  have g2 := putV_10 r.s.toNat (by omega)
  have g3 := putV_10 r.e.toNat (by omega)
  have g4 := putV_10 (turnV r.f) (turnV_lt (by omega) (by omega))
  unfold enR
  simp only [List.length_append]
  omega
theorem enR_byt {r : Ride} (h : oneB r = true) : Byt (enR r) := by
  obtain ⟨h1, h2, h3, h4⟩ := (moneB_iff r).1 h
  exact (((putV_byt _ (by omega)).app (putV_byt _ (by omega))).app (putV_byt _ (by omega))).app (putV_byt _ (turnV_lt (by omega) (by omega)))
end Go.Proofs.Ytbdkhgenkekioaa

namespace Go.Proofs.Ytbdkhgenkekioaa.Wi
open Go.RowKit Go.V Go.Proofs Go.Sort
open Go.Proofs.Ytbdkhgenkekioaa.Ne (box_alloc box_new box_cell box_below box_lt box3_cells below_drewN)

set_option maxHeartbeats 4000000 in
theorem rrnum_any (g : Nat) (a : Option Addr) (n cap : Nat) (at_ : Nat) (bad most : Int) (c : List Int) (w : World) (hb : Rb w g a n cap at_ bad) (hs : Sl bcod w a n cap c) (hB : Byt c) (hn : n ≤ 1000000000) (hat : at_ ≤ n) (hm0 : 0 ≤ most) (hm1 : most < 9223372036854775808) :
    Calls Try.prog 67 #[.pointer (some ⟨g, 0, none⟩), .int .i64 most] w fun e w' => e = .returned (.int .i64 (rdN c most at_ bad).1) ∧ Rb w' g a n cap (rdN c most at_ bad).2.1 (rdN c most at_ bad).2.2 ∧ w.grownBy w' (some g) := by
  have HRW := Lib.hid (rraw_any g a n cap at_ bad c w hb hs hB hn hat)
  have hln : n = c.length := hs.hlen
  have hcl : ∀ k, (takeV (c.drop at_)).2.2 = 0 → (takeV (c.drop at_)).2.1 = k → k ≤ 1000000000 := fun k h1 h2 => by
    have := takeV_len (b := c.drop at_) (n := (takeV (c.drop at_)).1) (k := (takeV (c.drop at_)).2.1) (hB.drop _) (by rw [← h1])
    rw [h2, List.length_drop] at this
    omega
  have HCL := Lib.hid hcl
  clear hb hs hB hln hcl
  by_cases h0 : bad = 0
  case neg =>
    have HD : Hid (rdN c most at_ bad = (0, at_, bad)) := by show _ = _; unfold rdN; rw [if_pos h0]
    have h0' : (bad != 0) = true := by simpa using h0
    have H0 := Lib.hid h0
    clear h0
    go_enter Try.func67, Try.ntmps67
    go_wp2_with (go_at_call 110; go_loud (refine HRW.out.mono ?_); rintro e w1 ⟨hx, -, hg⟩; obtain ⟨rfl, hb1⟩ := hx H0.out; have HB1 := Lib.hid hb1; have HG1 := Lib.hid hg; obtain ⟨-, -, c2, -, -, -⟩ := box3_cells hb1; clear hb1 hg hx)
    go_ret
    exact ⟨by rw [HD.out]; rfl, by rw [HD.out]; exact HB1.out, HG1.out⟩
  case pos =>
    subst h0
    obtain ⟨t, ht⟩ : ∃ t, takeV (c.drop at_) = t := ⟨_, rfl⟩
    obtain ⟨N, K, E⟩ := t
    have HT := Lib.hid ht
    rw [ht] at HRW HCL
    clear ht
    by_cases hE : E = 0
    case neg =>
      have HD : Hid (rdN c most at_ 0 = (0, at_, E)) := by show _ = _; unfold rdN; rw [if_neg (by simp), HT.out]; exact if_pos hE
      have hE' : (E != 0) = true := by simpa using hE
      clear hE
      go_enter Try.func67, Try.ntmps67
      go_wp2_with (go_at_call 110; go_loud (refine HRW.out.mono ?_); rintro e w1 ⟨-, hx, hg⟩; obtain ⟨rfl, hb1⟩ := hx rfl; replace hb1 : Rb w1 g a n cap at_ E := hb1; have HB1 := Lib.hid hb1; have HG1 := Lib.hid hg; obtain ⟨-, -, c2, -, -, -⟩ := box3_cells hb1; clear hb1 hg hx)
      go_ret
      exact ⟨by rw [HD.out]; rfl, by rw [HD.out]; exact HB1.out, HG1.out⟩
    case pos =>
      subst hE
      have hK : K ≤ 1000000000 := HCL.out K rfl rfl
      have hm2 : decide (most < 0) = false := decide_eq_false (by omega)
      by_cases hok : (N : Int) ≤ most ∧ N ≤ 4611686018427387904
      · have HD : Hid (rdN c most at_ 0 = ((N : Int), at_ + K, 0)) := by
          show _ = _; unfold rdN; rw [if_neg (by simp), HT.out]; simp only []; rw [if_neg (by simp), if_pos hok]
        have hd1 : decide (most < (N : Int)) = false := decide_eq_false (by omega)
        have hd2 : decide ((4611686018427387904 : Int) < (N : Int)) = false := decide_eq_false (by omega)
        have hN2 : (N : Int) < 9223372036854775808 := by omega
        have HAK : Hid ((at_ : Int) + (K : Int) = ((at_ + K : Nat) : Int)) := by show _ = _; omega
        clear hok
        go_enter Try.func67, Try.ntmps67
        go_wp2_with (go_at_call 110; go_loud (refine HRW.out.mono ?_); rintro e w1 ⟨-, hx, hg⟩; obtain ⟨rfl, hb1⟩ := hx rfl; replace hb1 : Rb w1 g a n cap at_ 0 := hb1; have HB1 := Lib.hid hb1; have HG1 := Lib.hid hg; obtain ⟨-, c1, c2, -, z1, z2⟩ := box3_cells hb1; clear hb1 hg hx)
        go_ret
        refine ⟨by rw [HD.out]; rfl, ?_, grown_set HG1.out⟩
        rw [HD.out]
        show (w1.setCell ⟨g, 1, none⟩ (.int .i64 ((at_ : Int) + (K : Int)))).heap[g]? = _
        rw [HAK.out]
        exact heap_setCell_same w1 g 1 _ _ _ HB1.out
      · have HD : Hid (rdN c most at_ 0 = (0, at_, 3)) := by
          show _ = _; unfold rdN; rw [if_neg (by simp), HT.out]; simp only []; rw [if_neg (by simp), if_neg hok]
        by_cases hd : most < (N : Int)
        · have hd1 : decide (most < (N : Int)) = true := decide_eq_true hd
          clear hok hd
          go_enter Try.func67, Try.ntmps67
          go_wp2_with (go_at_call 110; go_loud (refine HRW.out.mono ?_); rintro e w1 ⟨-, hx, hg⟩; obtain ⟨rfl, hb1⟩ := hx rfl; replace hb1 : Rb w1 g a n cap at_ 0 := hb1; have HB1 := Lib.hid hb1; have HG1 := Lib.hid hg; obtain ⟨-, c1, c2, -, z1, z2⟩ := box3_cells hb1; clear hb1 hg hx)
          go_ret
          exact ⟨by rw [HD.out]; rfl, by rw [HD.out]; exact heap_setCell_same w1 g 2 _ _ _ HB1.out, grown_set HG1.out⟩
        · have hd1 : decide (most < (N : Int)) = false := decide_eq_false hd
          have hd2 : decide ((4611686018427387904 : Int) < (N : Int)) = true := decide_eq_true (by omega)
          clear hok hd
          go_enter Try.func67, Try.ntmps67
          go_wp2_with (go_at_call 110; go_loud (refine HRW.out.mono ?_); rintro e w1 ⟨-, hx, hg⟩; obtain ⟨rfl, hb1⟩ := hx rfl; replace hb1 : Rb w1 g a n cap at_ 0 := hb1; have HB1 := Lib.hid hb1; have HG1 := Lib.hid hg; obtain ⟨-, c1, c2, -, z1, z2⟩ := box3_cells hb1; clear hb1 hg hx)
          go_ret
          exact ⟨by rw [HD.out]; rfl, by rw [HD.out]; exact heap_setCell_same w1 g 2 _ _ _ HB1.out, grown_set HG1.out⟩

set_option maxHeartbeats 4000000 in
theorem rrdone_any (g : Nat) (a : Option Addr) (n cap : Nat) (at_ : Nat) (bad : Int) (c : List Int) (w : World) (hb : Rb w g a n cap at_ bad) (hln : n = c.length) (_ : n ≤ 1000000000) :
    Calls Try.prog 70 #[.pointer (some ⟨g, 0, none⟩)] w fun e w' => e = .returned (.int .i64 (doneE c at_ bad)) ∧ Below w.heap.size w w' := by
  obtain ⟨c0, c1, c2, -, -, -⟩ := box3_cells hb
  have HLN := Lib.hid hln
  clear hb hln
  by_cases h0 : bad = 0
  · subst h0
    by_cases hl : at_ < n
    · have hd : decide (at_ < n) = true := decide_eq_true hl
      have HD : Hid (doneE c at_ 0 = 13) := by show _ = _; unfold doneE; rw [if_pos ⟨rfl, by rw [← HLN.out]; exact hl⟩]
      clear hl
      go_enter Try.func70, Try.ntmps70
      go_wp2_with fail
      go_quiet (fail)
      go_wp2_with fail
      go_ret
      exact ⟨by rw [HD.out]; rfl, below_drewN (Below.refl _ _) _⟩
    · have hd : decide (at_ < n) = false := decide_eq_false hl
      have HD : Hid (doneE c at_ 0 = 0) := by show _ = _; unfold doneE; rw [if_neg (fun q => hl (by rw [HLN.out]; exact q.2))]
      clear hl
      go_enter Try.func70, Try.ntmps70
      go_wp2_with fail
      go_quiet (fail)
      go_wp2_with fail
      go_ret
      exact ⟨by rw [HD.out]; rfl, below_drewN (Below.refl _ _) _⟩
  · have h0' : (bad == 0) = false := by simpa using h0
    have HD : Hid (doneE c at_ bad = bad) := by show _ = _; unfold doneE; rw [if_neg (fun q => h0 q.1)]
    clear h0
    go_enter Try.func70, Try.ntmps70
    go_wp2_with fail
    go_quiet (fail)
    go_wp2_with fail
    go_ret
    exact ⟨by rw [HD.out]; rfl, below_drewN (Below.refl _ _) _⟩
end Go.Proofs.Ytbdkhgenkekioaa.Wi

namespace Go.Proofs.Ytbdkhgenkekioaa.Wi
open Go.RowKit Go.V Go.Proofs Go.Sort
open Go.Proofs.Ytbdkhgenkekioaa.Ne (box_alloc box_new box_cell box_below box_lt box3_cells below_drewN)

set_option maxHeartbeats 4000000 in
theorem rrsgn_any (g : Nat) (a : Option Addr) (n cap : Nat) (at_ : Nat) (bad most : Int) (c : List Int) (w : World) (hb : Rb w g a n cap at_ bad) (hs : Sl bcod w a n cap c) (hB : Byt c) (hn : n ≤ 1000000000) (hat : at_ ≤ n) (hm0 : 0 ≤ most) (hm1 : most < 9223372036854775808) :
    Calls Try.prog 68 #[.pointer (some ⟨g, 0, none⟩), .int .i64 most] w fun e w' => e = .returned (.int .i64 (rdS c most at_ bad).1) ∧ Rb w' g a n cap (rdS c most at_ bad).2.1 (rdS c most at_ bad).2.2 ∧ w.grownBy w' (some g) := by
  have HRW := Lib.hid (rraw_any g a n cap at_ bad c w hb hs hB hn hat)
  have hln : n = c.length := hs.hlen
  have hcl : ∀ k, (takeV (c.drop at_)).2.2 = 0 → (takeV (c.drop at_)).2.1 = k → k ≤ 1000000000 := fun k h1 h2 => by
    have := takeV_len (b := c.drop at_) (n := (takeV (c.drop at_)).1) (k := (takeV (c.drop at_)).2.1) (hB.drop _) (by rw [← h1])
    rw [h2, List.length_drop] at this
    omega
  have HCL := Lib.hid hcl
  have h64 := takeV_lt0 (hB.drop at_)
  clear hb hs hB hln hcl
  by_cases h0 : bad = 0
  case neg =>
    have HD : Hid (rdS c most at_ bad = (0, at_, bad)) := by show _ = _; unfold rdS; rw [if_pos h0]
    have h0' : (bad != 0) = true := by simpa using h0
    have H0 := Lib.hid h0
    clear h0
    go_enter Try.func68, Try.ntmps68
    go_wp2_with (go_at_call 110; go_loud (refine HRW.out.mono ?_); rintro e w1 ⟨hx, -, hg⟩; obtain ⟨rfl, hb1⟩ := hx H0.out; have HB1 := Lib.hid hb1; have HG1 := Lib.hid hg; obtain ⟨-, -, c2, -, -, -⟩ := box3_cells hb1; clear hb1 hg hx)
    go_ret
    exact ⟨by rw [HD.out]; rfl, by rw [HD.out]; exact HB1.out, HG1.out⟩
  case pos =>
    subst h0
    obtain ⟨t, ht⟩ : ∃ t, takeV (c.drop at_) = t := ⟨_, rfl⟩
    obtain ⟨N, K, E⟩ := t
    have HT := Lib.hid ht
    rw [ht] at HRW HCL h64
    have h64 : N < 18446744073709551616 := h64
    clear ht
    by_cases hE : E = 0
    case neg =>
      have HD : Hid (rdS c most at_ 0 = (0, at_, E)) := by show _ = _; unfold rdS; rw [if_neg (by simp), HT.out]; exact if_pos hE
      have hE' : (E != 0) = true := by simpa using hE
      clear hE
      go_enter Try.func68, Try.ntmps68
      go_wp2_with (go_at_call 110; go_loud (refine HRW.out.mono ?_); rintro e w1 ⟨-, hx, hg⟩; obtain ⟨rfl, hb1⟩ := hx rfl; replace hb1 : Rb w1 g a n cap at_ E := hb1; have HB1 := Lib.hid hb1; have HG1 := Lib.hid hg; obtain ⟨-, -, c2, -, -, -⟩ := box3_cells hb1; clear hb1 hg hx)
      go_ret
      exact ⟨by rw [HD.out]; rfl, by rw [HD.out]; exact HB1.out, HG1.out⟩
    case pos =>
      subst hE
      have hK : K ≤ 1000000000 := HCL.out K rfl rfl
      have hm2 : decide (most < 0) = false := decide_eq_false (by omega)
      have q1 : (N : Int).tdiv 2 = (N : Int) / 2 := Int.tdiv_eq_ediv_of_nonneg (by omega)
      have q2 : (N : Int).tmod 2 = (N : Int) % 2 := Int.tmod_eq_emod_of_nonneg (by omega)
      have q3 : IntKind.u64.wrap ((N : Int) / 2) = (N : Int) / 2 := by rw [wraps_u64n]; omega
      have q4 : IntKind.u64.wrap ((N : Int) % 2) = (N : Int) % 2 := by rw [wraps_u64n]; omega
      have q5 : IntKind.u64.wrap ((N : Int) / 2 + 1) = (N : Int) / 2 + 1 := by rw [wraps_u64n]; omega
      have q6 : IntKind.u64.wrap most = most := by rw [wraps_u64n]; omega
      obtain ⟨P, hP⟩ : ∃ P, backV N = P := ⟨_, rfl⟩
      have hPV := backV_val N
      rw [hP] at hPV
      have HPE := Lib.hid hP
      clear hP
      by_cases hodd : N % 2 = 0
      · rw [if_pos hodd] at hPV
        have o1 : ((N : Int) % 2 == 1) = false := by simp; omega
        have o2 : N / 2 + N % 2 = N / 2 := by omega
        obtain ⟨Z, hZ⟩ : ∃ Z, (N : Int) / 2 = Z := ⟨_, rfl⟩
        have HZ : Hid (((N / 2 + N % 2 : Nat) : Int) = Z) := by show _ = _; omega
        rw [hZ] at q1 q3 q5 hPV
        by_cases hok : Z ≤ most ∧ Z ≤ 4611686018427387904
        · have HD : Hid (rdS c most at_ 0 = (P, at_ + K, 0)) := by
            have := HZ.out
            show _ = _; unfold rdS; rw [if_neg (by simp), HT.out]; simp only []; rw [if_neg (by simp), if_pos (by omega), HPE.out]
          have hd1 : decide (most < Z) = false := decide_eq_false (by omega)
          have hd2 : decide ((4611686018427387904 : Int) < Z) = false := decide_eq_false (by omega)
          have hN2 : IntKind.i64.wrap Z = Z := by simp only [IntKind.wrap_i64]; omega
          have HAK : Hid ((at_ : Int) + (K : Int) = ((at_ + K : Nat) : Int)) := by show _ = _; omega
          have HPZ := Lib.hid hPV
          clear hok hZ hPV hodd o2
          go_enter Try.func68, Try.ntmps68
          go_wp2_with (go_at_call 110; go_loud (refine HRW.out.mono ?_); rintro e w1 ⟨-, hx, hg⟩; obtain ⟨rfl, hb1⟩ := hx rfl; replace hb1 : Rb w1 g a n cap at_ 0 := hb1; have HB1 := Lib.hid hb1; have HG1 := Lib.hid hg; obtain ⟨-, c1, c2, -, z1, z2⟩ := box3_cells hb1; clear hb1 hg hx)
          go_ret
          refine ⟨by rw [HD.out, HPZ.out]; rfl, ?_, grown_set HG1.out⟩
          rw [HD.out]
          show (w1.setCell ⟨g, 1, none⟩ (.int .i64 ((at_ : Int) + (K : Int)))).heap[g]? = _
          rw [HAK.out]
          exact heap_setCell_same w1 g 1 _ _ _ HB1.out
        · have HD : Hid (rdS c most at_ 0 = (0, at_, 3)) := by
            have := HZ.out
            show _ = _; unfold rdS; rw [if_neg (by simp), HT.out]; simp only []; rw [if_neg (by simp), if_neg (by omega)]
          by_cases hd : most < Z
          · have hd1 : decide (most < Z) = true := decide_eq_true hd
            clear hok hd hZ hPV hodd o2
            go_enter Try.func68, Try.ntmps68
            go_wp2_with (go_at_call 110; go_loud (refine HRW.out.mono ?_); rintro e w1 ⟨-, hx, hg⟩; obtain ⟨rfl, hb1⟩ := hx rfl; replace hb1 : Rb w1 g a n cap at_ 0 := hb1; have HB1 := Lib.hid hb1; have HG1 := Lib.hid hg; obtain ⟨-, c1, c2, -, z1, z2⟩ := box3_cells hb1; clear hb1 hg hx)
            go_ret
            exact ⟨by rw [HD.out]; rfl, by rw [HD.out]; exact heap_setCell_same w1 g 2 _ _ _ HB1.out, grown_set HG1.out⟩
          · have hd1 : decide (most < Z) = false := decide_eq_false hd
            have hd2 : decide ((4611686018427387904 : Int) < Z) = true := decide_eq_true (by omega)
            clear hok hd hZ hPV hodd o2
            go_enter Try.func68, Try.ntmps68
            go_wp2_with (go_at_call 110; go_loud (refine HRW.out.mono ?_); rintro e w1 ⟨-, hx, hg⟩; obtain ⟨rfl, hb1⟩ := hx rfl; replace hb1 : Rb w1 g a n cap at_ 0 := hb1; have HB1 := Lib.hid hb1; have HG1 := Lib.hid hg; obtain ⟨-, c1, c2, -, z1, z2⟩ := box3_cells hb1; clear hb1 hg hx)
            go_ret
            exact ⟨by rw [HD.out]; rfl, by rw [HD.out]; exact heap_setCell_same w1 g 2 _ _ _ HB1.out, grown_set HG1.out⟩
      · rw [if_neg hodd] at hPV
        have o1 : ((N : Int) % 2 == 1) = true := by simp; omega
        have o2 : N / 2 + N % 2 = N / 2 + 1 := by omega
        obtain ⟨Z, hZ⟩ : ∃ Z, (N : Int) / 2 + 1 = Z := ⟨_, rfl⟩
        have HZ : Hid (((N / 2 + N % 2 : Nat) : Int) = Z) := by show _ = _; omega
        have hPV : P = -Z := by omega
        rw [hZ] at q5
        by_cases hok : Z ≤ most ∧ Z ≤ 4611686018427387904
        · have HD : Hid (rdS c most at_ 0 = (P, at_ + K, 0)) := by
            have := HZ.out
            show _ = _; unfold rdS; rw [if_neg (by simp), HT.out]; simp only []; rw [if_neg (by simp), if_pos (by omega), HPE.out]
          have hd1 : decide (most < Z) = false := decide_eq_false (by omega)
          have hd2 : decide ((4611686018427387904 : Int) < Z) = false := decide_eq_false (by omega)
          have hN2 : IntKind.i64.wrap Z = Z := by simp only [IntKind.wrap_i64]; omega
          have hN3 : IntKind.i64.wrap (-Z) = -Z := by simp only [IntKind.wrap_i64]; omega
          have HAK : Hid ((at_ : Int) + (K : Int) = ((at_ + K : Nat) : Int)) := by show _ = _; omega
          have HPZ := Lib.hid hPV
          clear hok hPV hodd o2
          go_enter Try.func68, Try.ntmps68
          go_wp2_with (go_at_call 110; go_loud (refine HRW.out.mono ?_); rintro e w1 ⟨-, hx, hg⟩; obtain ⟨rfl, hb1⟩ := hx rfl; replace hb1 : Rb w1 g a n cap at_ 0 := hb1; have HB1 := Lib.hid hb1; have HG1 := Lib.hid hg; obtain ⟨-, c1, c2, -, z1, z2⟩ := box3_cells hb1; clear hb1 hg hx)
          go_ret
          refine ⟨by rw [HD.out, HPZ.out]; rfl, ?_, grown_set HG1.out⟩
          rw [HD.out]
          show (w1.setCell ⟨g, 1, none⟩ (.int .i64 ((at_ : Int) + (K : Int)))).heap[g]? = _
          rw [HAK.out]
          exact heap_setCell_same w1 g 1 _ _ _ HB1.out
        · have HD : Hid (rdS c most at_ 0 = (0, at_, 3)) := by
            have := HZ.out
            show _ = _; unfold rdS; rw [if_neg (by simp), HT.out]; simp only []; rw [if_neg (by simp), if_neg (by omega)]
          by_cases hd : most < Z
          · have hd1 : decide (most < Z) = true := decide_eq_true hd
            clear hok hd hPV hodd o2
            go_enter Try.func68, Try.ntmps68
            go_wp2_with (go_at_call 110; go_loud (refine HRW.out.mono ?_); rintro e w1 ⟨-, hx, hg⟩; obtain ⟨rfl, hb1⟩ := hx rfl; replace hb1 : Rb w1 g a n cap at_ 0 := hb1; have HB1 := Lib.hid hb1; have HG1 := Lib.hid hg; obtain ⟨-, c1, c2, -, z1, z2⟩ := box3_cells hb1; clear hb1 hg hx)
            go_ret
            exact ⟨by rw [HD.out]; rfl, by rw [HD.out]; exact heap_setCell_same w1 g 2 _ _ _ HB1.out, grown_set HG1.out⟩
          · have hd1 : decide (most < Z) = false := decide_eq_false hd
            have hd2 : decide ((4611686018427387904 : Int) < Z) = true := decide_eq_true (by omega)
            clear hok hd hPV hodd o2
            go_enter Try.func68, Try.ntmps68
            go_wp2_with (go_at_call 110; go_loud (refine HRW.out.mono ?_); rintro e w1 ⟨-, hx, hg⟩; obtain ⟨rfl, hb1⟩ := hx rfl; replace hb1 : Rb w1 g a n cap at_ 0 := hb1; have HB1 := Lib.hid hb1; have HG1 := Lib.hid hg; obtain ⟨-, c1, c2, -, z1, z2⟩ := box3_cells hb1; clear hb1 hg hx)
            go_ret
            exact ⟨by rw [HD.out]; rfl, by rw [HD.out]; exact heap_setCell_same w1 g 2 _ _ _ HB1.out, grown_set HG1.out⟩

theorem no_byte3 {x : Option Addr} {n cap : Nat} {i j r : Int} {k : Nat} (h : some (Value.int .u8 r) = (#[Value.slice x n cap, .int .i64 i, .int .i64 j] : Array Value)[k]?) : False := by
  match k, h with
  | 0, h => simp at h
  | 1, h => simp at h
  | 2, h => simp at h
  | k + 3, h => simp at h
set_option maxHeartbeats 2000000 in
theorem rrbyte_any (g : Nat) (a : Option Addr) (n cap : Nat) (at_ : Nat) (bad : Int) (c : List Int) (w : World) (hb : Rb w g a n cap at_ bad) (hs : Sl bcod w a n cap c) (hn : n ≤ 1000000000) (hat : at_ ≤ n) :
    Calls Try.prog 69 #[.pointer (some ⟨g, 0, none⟩)] w fun e w' => e = .returned (.int .u8 (rdB c at_ bad).1) ∧ Rb w' g a n cap (rdB c at_ bad).2.1 (rdB c at_ bad).2.2 ∧ w.grownBy w' (some g) := by
  have mixed : Try.prog.follows .mixedOrders = true := by kernel_rfl
  have HRB := Lib.hid hb
  have HS := Lib.hid hs
  have HLN := Lib.hid hs.hlen
  obtain ⟨d0, d1, d2, z0, z1, z2⟩ := box3_cells hb
  have hg0 := box_lt hb
  clear hb hs
  by_cases h0 : bad = 0
  case neg =>
    have HD : Hid (rdB c at_ bad = (0, at_, bad)) := by show _ = _; unfold rdB; rw [if_pos h0]
    have h0' : (bad != 0) = true := by simpa using h0
    clear h0
    go_enter Try.func69, Try.ntmps69
    go_wp2_with fail
    go_ret
    exact ⟨by rw [HD.out]; rfl, by rw [HD.out]; exact HRB.out, ⟨rfl, rfl, rfl, Nat.le_refl _, fun _ _ _ => rfl⟩⟩
  case pos =>
    subst h0
    by_cases hl : at_ = n
    · subst hl
      have HD : Hid (rdB c at_ 0 = (0, at_, 10)) := by show _ = _; unfold rdB; rw [if_neg (by simp), if_pos (by rw [← HLN.out]; exact Nat.le_refl _)]
      have b1 : decide ((at_ : Int) ≤ (at_ : Int)) = true := by simp
      go_enter Try.func69, Try.ntmps69
      go_upto_region 3 with fail
      go_quiet (fail)
      go_wp2_with fail
      go_ret
      refine ⟨by rw [HD.out]; rfl, ?_, grown_set (grown_of_below (below_drewN (Below.refl _ _) _))⟩
      rw [HD.out]
      exact heap_setCell_same (w.drewN _) g 2 _ _ _ HRB.out
    · have hlt : at_ < n := by omega
      have b1 : decide ((n : Int) ≤ (at_ : Int)) = false := decide_eq_false (by omega)
      have b2 : IntKind.i64.wrap ((at_ : Int) + 1) = (at_ : Int) + 1 := by simp only [IntKind.wrap_i64]; omega
      have b3 : IntKind.i64.wrap ((at_ : Int) + 1 - 1) = (at_ : Int) := by simp only [IntKind.wrap_i64]; omega
      have b4 : (at_ : Int) < (n : Int) := by omega
      obtain ⟨b, off, r, rfl, hbl, hr, hcell⟩ := byte_at HS.out hlt
      have HD : Hid (rdB c at_ 0 = (r, at_ + 1, 0)) := by
        show _ = _; unfold rdB; rw [if_neg (by simp), if_neg (by rw [← HLN.out]; omega), List.getD_eq_getElem?_getD, hr]; rfl
      have HC := Lib.hid hcell
      have HBL := Lib.hid hbl
      have hgb : g ≠ b := by
        intro q
        subst q
        have h1 := (box_cell HRB.out (off + at_)).1
        rw [hcell] at h1
        exact no_byte3 h1
      clear hr hcell hl hbl
      go_enter Try.func69, Try.ntmps69
      go_upto_region 3 with fail
      go_quiet (fail)
      go_upto_region 7 with fail
      have HR7 : Hid (((w.drewN nq).setCell ⟨g, 1, none⟩ (.int .i64 ((at_ : Int) + 1))).heap[g]? = some (.cells #[.slice (some ⟨b, off, none⟩) n cap, .int .i64 ((at_ : Int) + 1), .int .i64 0] 148 (0, 0))) := heap_setCell_same (w.drewN nq) g 1 _ _ _ HRB.out
      have HG7 : Hid (w.grownBy ((w.drewN nq).setCell ⟨g, 1, none⟩ (.int .i64 ((at_ : Int) + 1))) (some g)) := grown_set (grown_of_below (below_drewN (Below.refl _ _) _))
      have HC7 : Hid (((w.drewN nq).setCell ⟨g, 1, none⟩ (.int .i64 ((at_ : Int) + 1))).cell? ⟨b, off + at_, none⟩ = some (.int .u8 r)) := by
        show _ = _
        rw [World.cell?_setCell_far _ _ _ _ hgb]
        exact HC.out
      obtain ⟨W7, hW7⟩ : ∃ W, (w.drewN nq).setCell ⟨g, 1, none⟩ (.int .i64 ((at_ : Int) + 1)) = W := ⟨_, rfl⟩
      rw [hW7] at HR7 HG7 HC7 ⊢
      clear hW7 d0 d1 d2 z0 z1 z2 hg0
      obtain ⟨d0, d1, d2, -, -, -⟩ := box3_cells HR7.out
      have c7 := HC7.out
      replace c7 : W7.cell? ⟨b, off + at_, none⟩ = some (.int .u8 r) := c7
      have hg7 := box_lt HR7.out
      have b0 : (0 : Int) ≤ (at_ : Int) := by omega
      go_quiet (fail)
      go_wp2_with fail
      go_ret
      refine ⟨by rw [HD.out]; rfl, ?_, ?_⟩
      · rw [HD.out]
        exact HR7.out
      · exact HG7.out.trans (grown_of_below (below_drewN (Below.refl _ _) _))
end Go.Proofs.Ytbdkhgenkekioaa.Wi

namespace Go.Proofs.Ytbdkhgenkekioaa
open Go.RowKit Go.V Go.Sort Go.Shelf Go.Proofs Go.Maps Go.Proofs.Ytbdkhgenkekioaa.Wi
open Go.Proofs.Ytbdkhgenkekioaa.Ne (box_alloc box_new box_cell box_below box_lt)

/-- Below y only block g changes. -/
structure KG (g y : Nat) (w w' : World) : Prop where
  os : w'.os = w.os
  tape : w'.tape = w.tape
  output : w'.output = w.output
  size : w.heap.size ≤ w'.heap.size
  block : ∀ k, k < y → k ≠ g → w'.heap[k]? = w.heap[k]?
theorem KG.refl (g y : Nat) (w : World) : KG g y w w := ⟨rfl, rfl, rfl, Nat.le_refl _, fun _ _ _ => rfl⟩
theorem KG.grown {g y : Nat} {w w' w2 : World} {row : Option Nat} (h : KG g y w w') (hg : w'.grownBy w2 row) (hr : row = some g ∨ ∀ k, row = some k → y ≤ k) (hy : y ≤ w'.heap.size) : KG g y w w2 := by
  refine ⟨hg.os.trans h.os, hg.tape.trans h.tape, hg.output.trans h.output, Nat.le_trans h.size hg.size, fun k hk hne => ?_⟩
  have hl : k < w'.heap.size := by omega
  rw [hg.block k hl (fun q => by
    rcases hr with hr | hr
    · rw [hr] at q; exact hne (Option.some.inj q)
    · have := hr k q.symm; omega)]
  exact h.block k hk hne
theorem KG.alloc {g y : Nat} {w w' : World} (h : KG g y w w') (hy : y ≤ w'.heap.size) (o : Obj) : KG g y w (w'.alloc o) :=
  ⟨h.os, h.tape, h.output, by have := h.size; simp; omega, fun k hk hne => by
    have hl : k < w'.heap.size := by omega
    have e : (w'.alloc o).heap[k]? = w'.heap[k]? := by
      rw [Array.getElem?_eq_getElem hl]
      exact box_alloc (Array.getElem?_eq_getElem hl)
    rw [e]; exact h.block k hk hne⟩
theorem KG.set {g y z : Nat} {w w' : World} (h : KG g y w w') (hz : y ≤ z) (i : Nat) (v : Value) : KG g y w (w'.setCell ⟨z, i, none⟩ v) :=
  ⟨h.os, h.tape, h.output, by have := h.size; simp; omega, fun k hk hne => (heap_setCell_other w' ⟨z, i, none⟩ k v (by show k ≠ z; omega)).trans (h.block k hk hne)⟩
theorem own_kg {α : Type} {c : Cod α} {e : TypeId} {g : Nat} {w w' : World} {v : Value} {xs : List α} (h : V.Own e c (g + 1) w v xs) (hk : KG g w.heap.size w w') : V.Own e c (g + 1) w' v xs := by
  obtain ⟨h1, h2⟩ := h
  refine ⟨h1, ?_⟩
  rcases h2 with h2 | ⟨b, cap, cur, h2, h3, h4, h5⟩
  · exact .inl h2
  · exact .inr ⟨b, cap, cur, h2, h3, by rw [hk.block b (box_lt h4) (by omega)]; exact h4, h5⟩

/-- What Take has in memory between two months. -/
structure MTo (w1 W : World) (g : Nat) (va : Option Addr) (vn vc : Nat) (c : List Int) (s : Rs) (ov : Value) (hs : List Hdr) (ms : List Mon) : Prop where
  rd : Fb W g va vn vc s.1 s.2
  hat : s.1 ≤ vn
  own : V.Own 27 MH.cod (g + 1) W ov (List.zipWith Mon.hd ms hs)
  len : hs.length = ms.length
  each : ∀ (i : Nat) (h : Hdr) (m : Mon), hs[i]? = some h → ms[i]? = some m → V.Own 24 Ride.cod (g + 1) W (.slice h.a h.n h.cap) m.rides
  bl : Below g w1 W
  sz : w1.heap.size = g
  sl : Sl bcod w1 va vn vc c
/-- .. and within one: its box, its rides. -/
structure MTi (w1 W0 W : World) (g y : Nat) (va : Option Addr) (vn vc : Nat) (c : List Int) (s : Rs) (a m t k : Int) (rv : Value) (xs : List Ride) : Prop where
  rd : Fb W g va vn vc s.1 s.2
  hat : s.1 ≤ vn
  kg : KG g y W0 W
  bx : W.heap[y]? = some (.cells #[.int .i64 a, .int .i64 m, .int .i64 t, .int .i64 k, rv, .bool false] 27 (0, 0))
  rr : V.Own 24 Ride.cod (y + 1) W rv xs
  bl : Below g w1 W
  sz : w1.heap.size = g
  gy : g < y
  sl : Sl bcod w1 va vn vc c
section
variable {w1 W W' : World} {g : Nat} {va : Option Addr} {vn vc : Nat} {c : List Int} {s : Rs} {ov : Value} {hs : List Hdr} {ms : List Mon}
theorem MTo.grown (h : MTo w1 W g va vn vc c s ov hs ms) (hg : W.grownBy W' (some g)) {s' : Rs} (hr : Fb W' g va vn vc s'.1 s'.2) (ha : s'.1 ≤ vn) : MTo w1 W' g va vn vc c s' ov hs ms :=
  ⟨hr, ha, h.own.kept hg (own_lt_ne h.own (by omega)), h.len, fun i x m h1 h2 => (h.each i x m h1 h2).kept hg (own_lt_ne (h.each i x m h1 h2) (by omega)),
    h.bl.grown hg (by have := h.sz; have := h.bl.size; omega) (fun k hk => by have := Option.some.inj hk; omega), h.sz, h.sl⟩
theorem MTo.num (h : MTo w1 W g va vn vc c s ov hs ms) (hB : Byt c) (hn : vn ≤ 1000000000) (most : Int) (h0 : 0 ≤ most) (h1 : most < 9223372036854775808) :
    Calls Try.prog 62 #[.pointer (some ⟨g, 0, none⟩), .int .i64 most] W fun e W' => e = .returned (.int .i64 (rdN c most s.1 s.2).1) ∧ MTo w1 W' g va vn vc c (rdN c most s.1 s.2).2 ov hs ms ∧ W.grownBy W' (some g) := by
  have := h0
  have := h1
  refine (fnum_any g va vn vc s.1 s.2 most c W h.rd (h.sl.below (by have := h.bl; rw [← h.sz] at this; exact this)) hB hn h.hat).mono ?_
  rintro e W' ⟨rfl, hr, hg⟩
  exact ⟨rfl, h.grown hg hr (by rw [h.sl.hlen]; exact rdN_at hB (by rw [← h.sl.hlen]; exact h.hat)), hg⟩
/-- What the months in memory are to a reader. -/
theorem MTo.turn (h : MTo w1 W g va vn vc c s ov hs ms) : ∃ a cc, ov = .slice a ms.length cc ∧ MonIn W a ms.length cc hs ms := by
  obtain ⟨a, cc, e, -, -⟩ := h.own.slice
  have el : (List.zipWith Mon.hd ms hs).length = ms.length := by rw [List.length_zipWith, h.len, Nat.min_self]
  rw [el] at e
  subst e
  exact ⟨a, cc, rfl, own_sl h.own, h.len, fun i x m h1 h2 => own_sl (h.each i x m h1 h2)⟩
theorem MTo.begin (h : MTo w1 W g va vn vc c s ov hs ms) (a m t k : Int) : MTi w1 W (W.alloc (.cells #[.int .i64 a, .int .i64 m, .int .i64 t, .int .i64 k, .slice none 0 0, .bool false] 27)) g W.heap.size va vn vc c s a m t k (.slice none 0 0) [] :=
  ⟨box_alloc h.rd, h.hat, KG.alloc (KG.refl _ _ _) (Nat.le_refl _) _, box_new _ _, V.Own.nil, h.bl.alloc (by have := h.sz; have := h.bl.size; omega) _, h.sz, box_lt h.rd, h.sl⟩
end
section
variable {w1 W0 W W' : World} {g y : Nat} {va : Option Addr} {vn vc : Nat} {c : List Int} {s : Rs} {a m t k : Int} {rv : Value} {xs : List Ride}
theorem MTi.grown (h : MTi w1 W0 W g y va vn vc c s a m t k rv xs) (hg : W.grownBy W' (some g)) {s' : Rs} (hr : Fb W' g va vn vc s'.1 s'.2) (ha : s'.1 ≤ vn) : MTi w1 W0 W' g y va vn vc c s' a m t k rv xs :=
  ⟨hr, ha, h.kg.grown hg (.inl rfl) (Nat.le_of_lt (box_lt h.bx)), (hg.block y (box_lt h.bx) (fun q => by have := Option.some.inj q; have := h.gy; omega)).trans h.bx, h.rr.kept hg (own_lt_ne h.rr (by have := h.gy; omega)),
    h.bl.grown hg (by have := h.sz; have := h.bl.size; omega) (fun k hk => by have := Option.some.inj hk; omega), h.sz, h.gy, h.sl⟩
theorem MTi.drew (h : MTi w1 W0 W g y va vn vc c s a m t k rv xs) : MTi w1 W0 W.drew g y va vn vc c s a m t k rv xs := h.grown (drew_grown W _) h.rd h.hat
theorem MTi.num (h : MTi w1 W0 W g y va vn vc c s a m t k rv xs) (hB : Byt c) (hn : vn ≤ 1000000000) (most : Int) (h0 : 0 ≤ most) (h1 : most < 9223372036854775808) :
    Calls Try.prog 62 #[.pointer (some ⟨g, 0, none⟩), .int .i64 most] W fun e W' => e = .returned (.int .i64 (rdN c most s.1 s.2).1) ∧ MTi w1 W0 W' g y va vn vc c (rdN c most s.1 s.2).2 a m t k rv xs ∧ W.grownBy W' (some g) := by
  have := h0
  have := h1
  refine (fnum_any g va vn vc s.1 s.2 most c W h.rd (h.sl.below (by have := h.bl; rw [← h.sz] at this; exact this)) hB hn h.hat).mono ?_
  rintro e W' ⟨rfl, hr, hg⟩
  exact ⟨rfl, h.grown hg hr (by rw [h.sl.hlen]; exact rdN_at hB (by rw [← h.sl.hlen]; exact h.hat)), hg⟩
theorem MTi.sgn (h : MTi w1 W0 W g y va vn vc c s a m t k rv xs) (hB : Byt c) (hn : vn ≤ 1000000000) (most : Int) (h0 : 0 ≤ most) (h1 : most < 9223372036854775808) :
    Calls Try.prog 63 #[.pointer (some ⟨g, 0, none⟩), .int .i64 most] W fun e W' => e = .returned (.int .i64 (rdS c most s.1 s.2).1) ∧ MTi w1 W0 W' g y va vn vc c (rdS c most s.1 s.2).2 a m t k rv xs ∧ W.grownBy W' (some g) := by
  have := h0
  have := h1
  refine (fsgn_any g va vn vc s.1 s.2 most c W h.rd (h.sl.below (by have := h.bl; rw [← h.sz] at this; exact this)) hB hn h.hat).mono ?_
  rintro e W' ⟨rfl, hr, hg⟩
  exact ⟨rfl, h.grown hg hr (by rw [h.sl.hlen]; exact rdS_at hB (by rw [← h.sl.hlen]; exact h.hat)), hg⟩
theorem MTi.byt (h : MTi w1 W0 W g y va vn vc c s a m t k rv xs) (hn : vn ≤ 1000000000) :
    Calls Try.prog 64 #[.pointer (some ⟨g, 0, none⟩)] W fun e W' => e = .returned (.int .u8 (rdB c s.1 s.2).1) ∧ MTi w1 W0 W' g y va vn vc c (rdB c s.1 s.2).2 a m t k rv xs ∧ W.grownBy W' (some g) := by
  refine (fbyte_any g va vn vc s.1 s.2 c W h.rd (h.sl.below (by have := h.bl; rw [← h.sz] at this; exact this)) hn h.hat).mono ?_
  rintro e W' ⟨rfl, hr, hg⟩
  exact ⟨rfl, h.grown hg hr (by rw [h.sl.hlen]; exact rdB_at (by rw [← h.sl.hlen]; exact h.hat)), hg⟩
theorem MTi.alloc (h : MTi w1 W0 W g y va vn vc c s a m t k rv xs) (o : Obj) : MTi w1 W0 (W.alloc o) g y va vn vc c s a m t k rv xs :=
  ⟨box_alloc h.rd, h.hat, h.kg.alloc (by have := h.kg.size; have := box_lt h.bx; omega) o, box_alloc h.bx, h.rr.alloc o, h.bl.alloc (by have := h.sz; have := h.bl.size; omega) o, h.sz, h.gy, h.sl⟩
theorem MTi.set (h : MTi w1 W0 W g y va vn vc c s a m t k rv xs) {z : Nat} (hz : y < z) (ha : rv.ownBlock = none ∨ rv.ownBlock ≠ some z) (i : Nat) (v : Value) : MTi w1 W0 (W.setCell ⟨z, i, none⟩ v) g y va vn vc c s a m t k rv xs :=
  ⟨(heap_setCell_other W ⟨z, i, none⟩ g v (by show g ≠ z; have := h.gy; omega)).trans h.rd, h.hat, h.kg.set (by omega) i v, (heap_setCell_other W ⟨z, i, none⟩ y v (by show y ≠ z; omega)).trans h.bx, h.rr.kept (set_grown W z i v) ha,
    h.bl.setCell (p := ⟨z, i, none⟩) (by show g ≤ z; have := h.gy; omega) _, h.sz, h.gy, h.sl⟩
theorem MTi.apart (h : MTi w1 W0 W g y va vn vc c s a m t k rv xs) : rv.ownBlock = none ∨ rv.ownBlock ≠ some W.heap.size := .inr (fun q => by have := (World.ownsRow.lt h.rr _ q).2; omega)
theorem MTi.m_ (h : MTi w1 W0 W g y va vn vc c s a m t k rv xs) (n : Int) : MTi w1 W0 (W.setCell ⟨y, 1, none⟩ (.int .i64 n)) g y va vn vc c s a n t k rv xs :=
  ⟨(heap_setCell_other W ⟨y, 1, none⟩ g _ (by show g ≠ y; have := h.gy; omega)).trans h.rd, h.hat, h.kg.set (Nat.le_refl _) 1 _, heap_setCell_same W y 1 _ _ _ h.bx, h.rr.kept (set_grown W y 1 _) (own_lt_ne h.rr (by omega)),
    h.bl.setCell (p := ⟨y, 1, none⟩) (by show g ≤ y; have := h.gy; omega) _, h.sz, h.gy, h.sl⟩
theorem MTi.t_ (h : MTi w1 W0 W g y va vn vc c s a m t k rv xs) (n : Int) : MTi w1 W0 (W.setCell ⟨y, 2, none⟩ (.int .i64 n)) g y va vn vc c s a m n k rv xs :=
  ⟨(heap_setCell_other W ⟨y, 2, none⟩ g _ (by show g ≠ y; have := h.gy; omega)).trans h.rd, h.hat, h.kg.set (Nat.le_refl _) 2 _, heap_setCell_same W y 2 _ _ _ h.bx, h.rr.kept (set_grown W y 2 _) (own_lt_ne h.rr (by omega)),
    h.bl.setCell (p := ⟨y, 2, none⟩) (by show g ≤ y; have := h.gy; omega) _, h.sz, h.gy, h.sl⟩
theorem MTi.k_ (h : MTi w1 W0 W g y va vn vc c s a m t k rv xs) (n : Int) : MTi w1 W0 (W.setCell ⟨y, 3, none⟩ (.int .i64 n)) g y va vn vc c s a m t n rv xs :=
  ⟨(heap_setCell_other W ⟨y, 3, none⟩ g _ (by show g ≠ y; have := h.gy; omega)).trans h.rd, h.hat, h.kg.set (Nat.le_refl _) 3 _, heap_setCell_same W y 3 _ _ _ h.bx, h.rr.kept (set_grown W y 3 _) (own_lt_ne h.rr (by omega)),
    h.bl.setCell (p := ⟨y, 3, none⟩) (by show g ≤ y; have := h.gy; omega) _, h.sz, h.gy, h.sl⟩
/-- A ride more: in the row, and the row in the box. -/
theorem MTi.app (h : MTi w1 W0 W g y va vn vc c s a m t k rv xs) (o : Obj) {W4 : World} {rv' : Value} {xs' : List Ride} (ho : V.Own 24 Ride.cod (y + 1) W4 rv' xs') (hg : (W.alloc o).grownBy W4 rv.ownBlock) :
    MTi w1 W0 (W4.setCell ⟨y, 4, none⟩ rv') g y va vn vc c s a m t k rv' xs' := by
  have hgy := h.gy
  have ha := h.alloc o
  have hnb : ∀ k, k < y + 1 → some k ≠ rv.ownBlock := fun k hk q => by have := (World.ownsRow.lt h.rr k q.symm).1; omega
  have hb4 : W4.heap[y]? = _ := (hg.block y (box_lt ha.bx) (hnb y (by omega))).trans ha.bx
  have hr4 : W4.heap[g]? = _ := (hg.block g (box_lt ha.rd) (hnb g (by omega))).trans ha.rd
  refine ⟨?_, h.hat, ?_, heap_setCell_same W4 y 4 _ _ _ hb4, ho.kept (set_grown W4 y 4 rv') (own_lt_ne ho (by omega)), ?_, h.sz, hgy, h.sl⟩
  · exact (heap_setCell_other W4 ⟨y, 4, none⟩ g rv' (by show g ≠ y; omega)).trans hr4
  · exact (ha.kg.grown hg (.inr (fun k hk => by have := (World.ownsRow.lt h.rr k hk).1; omega)) (Nat.le_of_lt (box_lt ha.bx))).set (Nat.le_refl _) 4 _
  · have hb2 : Below g w1 W4 := ha.bl.grown hg (by have := h.sz; have := ha.bl.size; omega) (fun k hk => by have := (World.ownsRow.lt h.rr k hk).1; omega)
    exact hb2.setCell (p := ⟨y, 4, none⟩) (by show g ≤ y; omega) _
theorem MTi.outer (h : MTi w1 W0 W g y va vn vc c s a m t k rv xs) {s0 : Rs} {ov : Value} {hs : List Hdr} {ms : List Mon} (h0 : MTo w1 W0 g va vn vc c s0 ov hs ms) (hy : W0.heap.size = y) (q : Bool) (o : Obj) :
    V.Own 27 MH.cod (g + 1) ((W.setCell ⟨y, 5, none⟩ (.bool q)).alloc o) ov (List.zipWith Mon.hd ms hs) := by
  subst hy
  exact ((own_kg h0.own h.kg).kept (set_grown W _ 5 _) (.inr (fun z => by have := (World.ownsRow.lt h0.own _ z).2; omega))).alloc o
/-- A month more. -/
theorem MTi.push (h : MTi w1 W0 W g y va vn vc c s a m t k rv xs) {s0 : Rs} {ov : Value} {hs : List Hdr} {ms : List Mon} (h0 : MTo w1 W0 g va vn vc c s0 ov hs ms) (hy : y = W0.heap.size) (q : Bool) (o : Obj) {W4 : World} {ov' : Value} {ra : Option Addr} {rc : Nat} (hrv : rv = .slice ra xs.length rc)
    (ho : V.Own 27 MH.cod (g + 1) W4 ov' (List.zipWith Mon.hd ms hs ++ [(⟨a, m, t, k, xs, q⟩ : Mon).hd ⟨ra, xs.length, rc⟩])) (hg : ((W.setCell ⟨y, 5, none⟩ (.bool q)).alloc o).grownBy W4 ov.ownBlock) :
    MTo w1 W4 g va vn vc c s ov' (hs ++ [⟨ra, xs.length, rc⟩]) (ms ++ [⟨a, m, t, k, xs, q⟩]) := by
  subst hy
  have hgy := h.gy
  have hov : V.Own 27 MH.cod (g + 1) ((W.setCell ⟨W0.heap.size, 5, none⟩ (.bool q)).alloc o) ov (List.zipWith Mon.hd ms hs) := ((own_kg h0.own h.kg).kept (set_grown W _ 5 _) (.inr (fun z => by have := (World.ownsRow.lt h0.own _ z).2; omega))).alloc o
  have hrd : ((W.setCell ⟨W0.heap.size, 5, none⟩ (.bool q)).alloc o).heap[g]? = _ := box_alloc ((heap_setCell_other W ⟨W0.heap.size, 5, none⟩ g _ (by show g ≠ W0.heap.size; omega)).trans h.rd)
  have hnb : ∀ k, k < g + 1 → some k ≠ ov.ownBlock := fun k hk z => by have := (World.ownsRow.lt h0.own k z.symm).1; omega
  have hbl : Below g w1 ((W.setCell ⟨W0.heap.size, 5, none⟩ (.bool q)).alloc o) := (h.bl.setCell (p := ⟨W0.heap.size, 5, none⟩) (by show g ≤ W0.heap.size; omega) _).alloc (by have := h.sz; have := h.bl.size; simp; omega) o
  have rides : ∀ (v : Value) (zs : List Ride), V.Own 24 Ride.cod (g + 1) W v zs → (v.ownBlock = none ∨ v.ownBlock ≠ some W0.heap.size) → V.Own 24 Ride.cod (g + 1) W4 v zs := fun v zs hv hne => by
    have h2 := (hv.kept (set_grown W W0.heap.size 5 (.bool q)) hne).alloc o
    exact h2.kept hg (own_apart h2 hov (by decide))
  refine ⟨(hg.block g (box_lt hrd) (hnb g (by omega))).trans hrd, h.hat, ?_, by simp [h0.len], fun i x y e1 e2 => ?_, ?_, h.sz, h.sl⟩
  · rw [List.zipWith_append h0.len.symm]; exact ho
  · by_cases hi : i < hs.length
    · rw [List.getElem?_append_left hi] at e1
      rw [List.getElem?_append_left (by rw [← h0.len]; exact hi)] at e2
      have h3 := h0.each i x y e1 e2
      exact rides _ _ (own_kg h3 h.kg) (.inr (fun z => by have := (World.ownsRow.lt h3 _ z).2; omega))
    · rw [List.getElem?_append_right (by omega)] at e1
      rw [List.getElem?_append_right (by rw [← h0.len]; omega)] at e2
      have e3 : i - hs.length = 0 := by have := (List.getElem?_eq_some_iff.1 e1).1; simp at this; omega
      rw [← h0.len] at e2
      rw [e3] at e1 e2
      simp at e1 e2
      subst e1; subst e2
      have h3 : V.Own 24 Ride.cod (g + 1) W (.slice ra xs.length rc) xs := by rw [← hrv]; exact h.rr.lower (by omega)
      refine rides _ _ h3 ?_
      rw [← hrv]
      exact own_lt_ne h.rr (by omega)
  · exact hbl.grown hg (by have := h.sz; have := hbl.size; omega) (fun k hk => by have := (World.ownsRow.lt h0.own k hk).1; omega)
end

/-! ### Plain laws of what is read -/
theorem rdMon_of {c : List Int} {s : Rs} {xa xm xt xk : Int × Rs} {K : Nat} {ks : Rs} {l : List Ride} {ls : Rs} {zb : Int × Rs} (h1 : rdN c 2147483648 s.1 s.2 = xa) (h2 : rdN c 1048576 xa.2.1 xa.2.2 = xm) (h3 : rdN c 1048576 xm.2.1 xm.2.2 = xt) (h4 : rdN c 15 xt.2.1 xt.2.2 = xk) (h5 : rdN c 2048 xk.2.1 xk.2.2 = ((K : Int), ks)) (h6 : rdMany (rdRide c) K ks = (l, ls)) (h7 : rdB c ls.1 ls.2 = zb) : rdMon c s = ((⟨xa.1, xm.1, xt.1, xk.1, l, decide (zb.1 = 1)⟩, zb.1), zb.2) := by
  unfold rdMon
  simp only [h1, h2, h3, h4, h5, Int.toNat_natCast, h6, h7]
theorem rdRide_of {c : List Int} {s : Rs} {x y z f : Int × Rs} (h1 : rdN c 2147483648 s.1 s.2 = x) (h2 : rdN c 1099511627776 x.2.1 x.2.2 = y) (h3 : rdN c 1099511627776 y.2.1 y.2.2 = z) (h4 : rdS c 4294967296 z.2.1 z.2.2 = f) : rdRide c s = (⟨x.1, y.1, z.1, f.1⟩, f.2) := by
  unfold rdRide
  simp only [h1, h2, h3, h4]
theorem formM_snoc (l : List (Mon × Int)) (x : Mon × Int) : formM (l ++ [x]) = (formM l && decide (x.2 < 2)) := by
  unfold formM
  simp
theorem rdS_range (c : List Int) (most : Int) (at_ : Nat) (bad : Int) : -4611686018427387904 ≤ (rdS c most at_ bad).1 ∧ (rdS c most at_ bad).1 ≤ 4611686018427387904 := by
  unfold rdS
  simp only []
  split
  · simp
  split
  · simp
  split
  · next h =>
    have h1 := backV_val (takeV (c.drop at_)).1
    show _ ≤ backV _ ∧ backV _ ≤ _
    split at h1 <;> omega
  · simp
theorem i64_wf {x : Int} (h1 : -4611686018427387904 ≤ x) (h2 : x ≤ 4611686018427387904) : (Lit.int .i64 x).wf = true := by
  simp [Lit.wf, IntKind.min, IntKind.max, IntKind.signed, IntKind.bits]
  omega
theorem rdRide_ok (c : List Int) (s : Rs) : Ride.ok (rdRide c s).1 := by
  have g : ∀ most a b, (Lit.int .i64 (rdN c most a b).1).wf = true := fun most a b => by
    have := rdN_range c most a b
    exact i64_wf (by omega) this.2
  have g2 : ∀ most a b, (Lit.int .i64 (rdS c most a b).1).wf = true := fun most a b => by
    have := rdS_range c most a b
    exact i64_wf this.1 this.2
  exact ⟨g _ _ _, g _ _ _, g _ _ _, g2 _ _ _⟩
theorem rdMany_all {α : Type} (p : α → Prop) (f : Rs → α × Rs) (h : ∀ s, p (f s).1) : ∀ (k : Nat) (s : Rs), ∀ x ∈ (rdMany f k s).1, p x
  | 0, s, x, hx => by simp [rdMany] at hx
  | k + 1, s, x, hx => by
    rw [rdMany_snoc] at hx
    rcases List.mem_append.1 hx with hx | hx
    · exact rdMany_all p f h k s x hx
    · simp at hx; subst hx; exact h _
theorem rdMon_small (c : List Int) (s : Rs) : (rdMon c s).1.1.rides.length ≤ 2048 ∧ ∀ r ∈ (rdMon c s).1.1.rides, Ride.ok r := by
  constructor
  · show (rdMany _ _ _).1.length ≤ _
    rw [rdMany_len]
    have := fun s e => rdN_most c 2048 s e (by omega)
    obtain ⟨K, h1, h2⟩ := this (rdN c 15 (rdN c 1048576 (rdN c 1048576 (rdN c 2147483648 s.1 s.2).2.1 (rdN c 2147483648 s.1 s.2).2.2).2.1 (rdN c 1048576 (rdN c 2147483648 s.1 s.2).2.1 (rdN c 2147483648 s.1 s.2).2.2).2.2).2.1 (rdN c 1048576 (rdN c 1048576 (rdN c 2147483648 s.1 s.2).2.1 (rdN c 2147483648 s.1 s.2).2.2).2.1 (rdN c 1048576 (rdN c 2147483648 s.1 s.2).2.1 (rdN c 2147483648 s.1 s.2).2.2).2.2).2.2).2.1 (rdN c 15 (rdN c 1048576 (rdN c 1048576 (rdN c 2147483648 s.1 s.2).2.1 (rdN c 2147483648 s.1 s.2).2.2).2.1 (rdN c 1048576 (rdN c 2147483648 s.1 s.2).2.1 (rdN c 2147483648 s.1 s.2).2.2).2.2).2.1 (rdN c 1048576 (rdN c 1048576 (rdN c 2147483648 s.1 s.2).2.1 (rdN c 2147483648 s.1 s.2).2.2).2.1 (rdN c 1048576 (rdN c 2147483648 s.1 s.2).2.1 (rdN c 2147483648 s.1 s.2).2.2).2.2).2.2).2.2
    rw [h1]
    simp
    omega
  · show ∀ r ∈ (rdMany _ _ _).1, _
    exact rdMany_all Ride.ok _ (rdRide_ok c) _ _
theorem rdMons_small (c : List Int) (k : Nat) (s : Rs) : ∀ m ∈ (rdMany (rdMon c) k s).1.map Prod.fst, m.rides.length ≤ 2048 ∧ ∀ r ∈ m.rides, Ride.ok r := by
  intro m hm
  obtain ⟨x, hx, rfl⟩ := List.mem_map.1 hm
  exact rdMany_all (fun x : Mon × Int => x.1.rides.length ≤ 2048 ∧ ∀ r ∈ x.1.rides, Ride.ok r) _ (rdMon_small c) k s x hx
theorem rdMons_of {c : List Int} {N : Nat} {s0 : Rs} (h : rdN c 4096 0 0 = ((N : Int), s0)) : rdMons c = rdMany (rdMon c) N s0 := by
  unfold rdMons
  simp only [h, Int.toNat_natCast]
theorem take_done {c : List Int} {L : List (Mon × Int)} {s : Rs} (h : rdMons c = (L, s)) (hd : doneE c s.1 s.2 ≠ 0) : takeE c = doneE c s.1 s.2 ∧ takeL c = [] := by
  have e : takeE c = doneE c s.1 s.2 := by unfold takeE; rw [h]; exact if_pos hd
  exact ⟨e, by unfold takeL; rw [e, if_neg hd]⟩
theorem take_form {c : List Int} {L : List (Mon × Int)} {s : Rs} (h : rdMons c = (L, s)) (hd : doneE c s.1 s.2 = 0) (hf : formM L = false) : takeE c = 11 ∧ takeL c = [] := by
  have e : takeE c = 11 := by unfold takeE; rw [h]; simp only [hd]; rw [if_neg (by simp), if_pos hf]
  exact ⟨e, by unfold takeL; rw [e, if_neg (by decide)]⟩
theorem take_bad {c : List Int} {L : List (Mon × Int)} {s : Rs} (h : rdMons c = (L, s)) (hd : doneE c s.1 s.2 = 0) (hf : formM L = true) (hr : ¬ RightM (L.map Prod.fst)) : takeE c = 2 ∧ takeL c = [] := by
  have e : takeE c = 2 := by unfold takeE; rw [h]; simp only [hd]; rw [if_neg (by simp), if_neg (by simp [hf]), if_neg hr]
  exact ⟨e, by unfold takeL; rw [e, if_neg (by decide)]⟩
theorem take_good {c : List Int} {L : List (Mon × Int)} {s : Rs} (h : rdMons c = (L, s)) (hd : doneE c s.1 s.2 = 0) (hf : formM L = true) (hr : RightM (L.map Prod.fst)) : takeE c = 0 ∧ takeL c = L.map Prod.fst := by
  have e : takeE c = 0 := by unfold takeE; rw [h]; simp only [hd]; rw [if_neg (by simp), if_neg (by simp [hf]), if_pos hr]
  exact ⟨e, by unfold takeL; rw [if_pos e, h]⟩

set_option maxHeartbeats 8000000 in
set_option maxRecDepth 100000 in
theorem mtake_any (va : Option Addr) (vn vc : Nat) (c : List Int) (w : World) (h : Sl bcod w va vn vc c) (hB : Byt c) (hn : vn ≤ 1000000000) :
    Calls Try.prog 24 #[.slice va vn vc] w fun e w' => ∃ v, e = .returned (.tuple #[v, .int .i64 (takeE c)]) ∧ TurnQ (takeL c) w' v ∧ Below w.heap.size w w' := by
  have HLN : Hid (vn = c.length) := h.hlen
  have HS := Lib.hid h
  have HBC := Lib.hid hB
  obtain ⟨N, hN, hN2⟩ := rdN_most c 4096 0 0 (by omega)
  obtain ⟨k0, hk0⟩ : ∃ k, rdN c 4096 0 0 = k := ⟨_, rfl⟩
  have HNE := Lib.hid hk0
  rw [hk0] at hN
  obtain ⟨nv, s0⟩ := k0
  have hN : nv = (N : Int) := hN
  subst hN
  have HMS := Lib.hid (rdMons_of HNE.out)
  clear h hB hk0
  go_enter Try.func24, Try.ntmps24
  go_wp2_with (first
    | (go_at_call 61; go_loud (refine (fread_any va vn vc w).mono ?_); rintro e w2 ⟨rfl, hf2, hb2⟩; have HF2 : Hid (MTo w w2 w.heap.size va vn vc c (0, 0) (.slice none 0 0) [] []) := ⟨hf2, Nat.zero_le _, V.Own.nil, rfl, fun i x y h1 => by simp at h1, hb2, rfl, HS.out⟩; clear hf2 hb2)
    | (go_at_call 62; go_loud (refine (HF2.out.num HBC.out hn 4096 (by omega) (by omega)).mono ?_); rintro e w3 ⟨rfl, hg3, -⟩; have e0 : rdN c 4096 ((0 : Nat), (0 : Int)).1 ((0 : Nat), (0 : Int)).2 = ((N : Int), s0) := HNE.out; rw [e0] at hg3 ⊢; have HG := Lib.hid hg3; clear hg3 e0))
  obtain ⟨g, hg⟩ : ∃ g, w.heap.size = g := ⟨_, rfl⟩
  rw [hg] at HG ⊢
  have HGE := Lib.hid hg
  clear HF2 hg
  go_loopw [5, 6, 14] (fun vo vf vi wr => ∃ (i : Nat) (hs : List Hdr), vi = .int .i64 ((i : Nat) : Int) ∧ (∃ z, z = vf ∧ Hid (z = .bool (formM (rdMany (rdMon c) i s0).1))) ∧ i ≤ N ∧ Hid (MTo w wr g va vn vc c (rdMany (rdMon c) i s0).2 vo hs ((rdMany (rdMon c) i s0).1.map Prod.fst))) (fun _ _ vi _ => N - (intOf vi).toNat)
  case atStart => exact ⟨0, [], rfl, ⟨_, rfl, rfl⟩, by omega, HG.out⟩
  case round =>
    obtain ⟨i, hs, rfl, ⟨z, rfl, hvf⟩, hi, HGI⟩ := hrel
    have HSN := Lib.hid (rdMany_snoc (rdMon c) i s0)
    have HSM := Lib.hid (rdMons_small c i s0)
    have HLM := Lib.hid (rdMany_len (rdMon c) i s0)
    obtain ⟨R, hR⟩ : ∃ R, rdMany (rdMon c) i s0 = R := ⟨_, rfl⟩
    rw [hR] at HGI HSN HSM HLM hvf
    obtain ⟨L, st⟩ := R
    have HRI := Lib.hid hR
    simp only [] at HGI HSN HSM HLM
    clear hR
    obtain ⟨bf, hbf⟩ : ∃ b, formM L = b := ⟨_, rfl⟩
    have HBF := Lib.hid hbf
    have hvf2 : z = .bool bf := by have := hvf.out; rw [this, hbf]
    subst hvf2
    clear hvf hbf
    by_cases hlt : i < N
    · have hii : (i : Int) < (N : Int) := by omega
      obtain ⟨xa, hxa⟩ : ∃ x, rdN c 2147483648 st.1 st.2 = x := ⟨_, rfl⟩
      obtain ⟨xm, hxm⟩ : ∃ x, rdN c 1048576 xa.2.1 xa.2.2 = x := ⟨_, rfl⟩
      obtain ⟨xt, hxt⟩ : ∃ x, rdN c 1048576 xm.2.1 xm.2.2 = x := ⟨_, rfl⟩
      obtain ⟨xk, hxk⟩ : ∃ x, rdN c 15 xt.2.1 xt.2.2 = x := ⟨_, rfl⟩
      have HXA := Lib.hid hxa
      have HXM := Lib.hid hxm
      have HXT := Lib.hid hxt
      have HXK := Lib.hid hxk
      obtain ⟨K, hK, hK2⟩ := rdN_most c 2048 xk.2.1 xk.2.2 (by omega)
      obtain ⟨k1, hk1⟩ : ∃ k, rdN c 2048 xk.2.1 xk.2.2 = k := ⟨_, rfl⟩
      have HKE := Lib.hid hk1
      rw [hk1] at hK
      obtain ⟨kv, ks⟩ := k1
      have hK : kv = (K : Int) := hK
      subst hK
      clear hxa hxm hxt hxk hk1
      go_upto_region 7 with (first
        | (go_at_call 62; go_fit (HGI.out.num HBC.out hn 2147483648 (by omega) (by omega)); rintro e U1 ⟨rfl, hg1, -⟩; rw [HXA.out] at hg1 ⊢; have HG1 := Lib.hid hg1; clear hg1)
        | (go_at_call 62; go_fit (HG1.out.num HBC.out hn 1048576 (by omega) (by omega)); rintro e U2 ⟨rfl, hg2, -⟩; rw [HXM.out] at hg2 ⊢; have HG2 := Lib.hid hg2; clear hg2)
        | (go_at_call 62; go_fit (HG2.out.num HBC.out hn 1048576 (by omega) (by omega)); rintro e U3 ⟨rfl, hg3, -⟩; rw [HXT.out] at hg3 ⊢; have HG3 := Lib.hid hg3; clear hg3)
        | (go_at_call 62; go_fit (HG3.out.num HBC.out hn 15 (by omega) (by omega)); rintro e U4 ⟨rfl, hg4, -⟩; rw [HXK.out] at hg4 ⊢; have HG4 := Lib.hid hg4; clear hg4))
      have HI := Lib.hid (HG4.out.begin xa.1 xm.1 xt.1 xk.1)
      obtain ⟨V, hV⟩ : ∃ V, U4.alloc (.cells #[.int .i64 xa.1, .int .i64 xm.1, .int .i64 xt.1, .int .i64 xk.1, .slice none 0 0, .bool false] 27) = V := ⟨_, rfl⟩
      obtain ⟨y, hy⟩ : ∃ y, U4.heap.size = y := ⟨_, rfl⟩
      rw [hV, hy] at HI
      rw [hV, hy]
      have HYE := Lib.hid hy
      clear hV hy HG1 HG2 HG3
      have hy5 : y < V.heap.size := box_lt HI.out.bx
      go_upto_region 8 with (go_at_call 62; go_fit (HI.out.num HBC.out hn 2048 (by omega) (by omega)); rintro e U5 ⟨rfl, hg5, -⟩; rw [HKE.out] at hg5 ⊢; have HI1 := Lib.hid hg5; clear hg5)
      go_loopw [27] (fun vj wr => ∃ (j : Nat) (rv : Value), vj = .int .i64 ((j : Nat) : Int) ∧ j ≤ K ∧ Hid (MTi w U4 wr g y va vn vc c (rdMany (rdRide c) j ks).2 xa.1 xm.1 xt.1 xk.1 rv (rdMany (rdRide c) j ks).1)) (fun vj _ => K - (intOf vj).toNat)
      case atStart => exact ⟨0, _, rfl, Nat.zero_le _, HI1.out⟩
      case round =>
        obtain ⟨j, rv, rfl, hj, HGJ⟩ := hrel
        have HSR := Lib.hid (rdMany_snoc (rdRide c) j ks)
        have HLR := Lib.hid (rdMany_len (rdRide c) j ks)
        obtain ⟨R2, hR2⟩ : ∃ R, rdMany (rdRide c) j ks = R := ⟨_, rfl⟩
        rw [hR2] at HGJ HSR HLR
        obtain ⟨xs, sl⟩ := R2
        have HRJ := Lib.hid hR2
        simp only [] at HGJ HSR HLR
        obtain ⟨sa, sc, hsv, -, -⟩ := HGJ.out.rr.slice
        rw [HLR.out] at hsv
        subst hsv
        clear hR2 HI HI1
        by_cases hlj : j < K
        · have hjj : (j : Int) < (K : Int) := by omega
          obtain ⟨x, hx⟩ : ∃ x, rdN c 2147483648 sl.1 sl.2 = x := ⟨_, rfl⟩
          obtain ⟨z, hz⟩ : ∃ z, rdN c 1099511627776 x.2.1 x.2.2 = z := ⟨_, rfl⟩
          obtain ⟨u, hu⟩ : ∃ u, rdN c 1099511627776 z.2.1 z.2.2 = u := ⟨_, rfl⟩
          obtain ⟨f, hf⟩ : ∃ f, rdS c 4294967296 u.2.1 u.2.2 = f := ⟨_, rfl⟩
          have HX := Lib.hid hx
          have HZ := Lib.hid hz
          have HU := Lib.hid hu
          have HF := Lib.hid hf
          have HNX : Hid (rdMany (rdRide c) (j + 1) ks = (xs ++ [⟨x.1, z.1, u.1, f.1⟩], f.2)) := by
            show _ = _
            rw [HSR.out, rdRide_of hx hz hu hf]
          have HM1 : Hid (xs.length + 1 ≤ maxLen) := by show _ ≤ _; rw [HLR.out]; unfold maxLen; omega
          have HM2 : Hid ((xs.length + 1) * 32 ≤ 140737488355328) := by show _ ≤ _; rw [HLR.out]; omega
          have HLA : Hid ((xs ++ [(⟨x.1, z.1, u.1, f.1⟩ : Ride)]).length = j + 1) := by show _ = _; rw [List.length_append, HLR.out]; rfl
          obtain ⟨-, -, -, -, c1, -⟩ := box6_cells HGJ.out.bx
          have f1 := (box_cell HGJ.out.bx 4).2
          clear hx hz hu hf
          have hy2 : y < wr.heap.size := box_lt HGJ.out.bx
          go_upto_region 9 with fail
          go_region_law (first
            | (go_simp; go_at_call 62; go_fit (HGJ.out.drew.num HBC.out hn 2147483648 (by omega) (by omega)); rintro e W2 ⟨rfl, hg2, -⟩; rw [HX.out] at hg2 ⊢; have HG2 := Lib.hid hg2; have c2 := (box_cell hg2.bx 4).1; have f2 := (box_cell hg2.bx 4).2; have hyl2 := box_lt hg2.bx; clear hg2)
            | (go_simp; go_at_call 62; go_fit (HG2.out.num HBC.out hn 1099511627776 (by omega) (by omega)); rintro e W3 ⟨rfl, hg3, -⟩; rw [HZ.out] at hg3 ⊢; have HG3 := Lib.hid hg3; have c3 := (box_cell hg3.bx 4).1; have f3 := (box_cell hg3.bx 4).2; have hyl3 := box_lt hg3.bx; clear hg3)
            | (go_simp; go_at_call 62; go_fit (HG3.out.num HBC.out hn 1099511627776 (by omega) (by omega)); rintro e W6 ⟨rfl, hg6, -⟩; rw [HU.out] at hg6 ⊢; have HG6 := Lib.hid hg6; have c6 := (box_cell hg6.bx 4).1; have f6 := (box_cell hg6.bx 4).2; have hyl6 := box_lt hg6.bx; clear hg6)
            | (go_simp; go_at_call 63; go_fit (HG6.out.sgn HBC.out hn 4294967296 (by omega) (by omega)); rintro e W7 ⟨rfl, hg7, -⟩; rw [HF.out] at hg7 ⊢; have HG7 := Lib.hid hg7; have c7 := (box_cell hg7.bx 4).1; have f7 := (box_cell hg7.bx 4).2; have hyl7 := box_lt hg7.bx; clear hg7)
            | (go_loud (refine step_app_at eltRide rfl (.tmp 30) (.tmp 40) rfl (.slice sa j sc) xs (by simp [Act.eval]) (HG7.out.rr.alloc _) ⟨W7.heap.size, 0, none⟩ 1 1 [⟨x.1, z.1, u.1, f.1⟩] (by simp [Act.eval]) (sl_new (c := Ride.cod) W7 #[.int .i64 x.1, .int .i64 z.1, .int .i64 u.1, .int .i64 f.1] 24 [⟨x.1, z.1, u.1, f.1⟩] 1 rfl (by unfold maxLen; omega) rfl) HM1.out HM2.out (by have := box_lt HG7.out.bx; simp; omega) ?_); rintro v4 W4 ho4 hg4 -; obtain ⟨a4, k4, ev4, -⟩ := ho4.slice; rw [HLA.out] at ev4; subst ev4; have HO4 := Lib.hid ho4; have HG4' := Lib.hid hg4; have b4 := ((hg4.block y (by have := box_lt HG7.out.bx; simp; omega) (fun q => by have := (World.ownsRow.lt HG7.out.rr y q.symm).1; omega)).trans (box_alloc HG7.out.bx)); have c4 := (box_cell b4 4).1; have f4 := (box_cell b4 4).2; clear ho4 hg4 b4))
          all_goals
            go_wp2_with fail
            go_roundw
            case rel => exact ⟨j + 1, _, by go_num, by omega, by show MTi _ _ _ _ _ _ _ _ _ _ _ _ _ _ _ _; rw [HNX.out]; exact HG7.out.app _ HO4.out HG4'.out⟩
            case measure => simp [intOf]; omega
        · have hje : j = K := by omega
          subst hje
          have hjj : ¬ (j : Int) < (j : Int) := by omega
          obtain ⟨zb, hzb⟩ : ∃ x, rdB c sl.1 sl.2 = x := ⟨_, rfl⟩
          have HZB := Lib.hid hzb
          have HRM := Lib.hid (rdMon_of HXA.out HXM.out HXT.out HXK.out HKE.out HRJ.out hzb)
          clear hzb
          go_upto_region 12 with (go_at_call 64; go_loud (refine (HGJ.out.byt hn).mono ?_); rintro e W8 ⟨rfl, hg8, -⟩; rw [HZB.out] at hg8 ⊢; have HG8 := Lib.hid hg8; clear hg8)
          obtain ⟨q2, hq2⟩ : ∃ q, decide (zb.1 < 2) = q := ⟨_, rfl⟩
          obtain ⟨q1, hq1⟩ : ∃ q, decide (zb.1 = 1) = q := ⟨_, rfl⟩
          have HQ2 := Lib.hid hq2
          have HQ1 := Lib.hid hq1
          have HFS : Hid (formM (L ++ [(⟨xa.1, xm.1, xt.1, xk.1, xs, q1⟩, zb.1)]) = (bf && q2)) := by show _ = _; rw [formM_snoc, HBF.out, hq2]
          have HMS2 : Hid (rdMany (rdMon c) (i + 1) s0 = (L ++ [(⟨xa.1, xm.1, xt.1, xk.1, xs, q1⟩, zb.1)], zb.2)) := by show _ = _; rw [HSN.out, HRM.out, hq1]
          have hb2 : zb.1 < 2 ↔ q2 = true := by rw [← hq2]; simp
          have hb1 : zb.1 = 1 ↔ q1 = true := by rw [← hq1]; simp
          have hje2 := HLR.out
          subst hje2
          have c9 : (W8.setCell ⟨y, 5, none⟩ (.bool q1)).heap[y]? = some (.cells #[.int .i64 xa.1, .int .i64 xm.1, .int .i64 xt.1, .int .i64 xk.1, .slice sa xs.length sc, .bool q1] 27 (0, 0)) := (heap_setCell_same W8 y 5 _ _ _ HG8.out.bx).trans rfl
          have C9 := box6_cells c9
          have f8 := (box_cell HG8.out.bx 5).2
          have z8 := (box_cell HG8.out.bx 5).1
          have hy8 : y < W8.heap.size := box_lt HG8.out.bx
          have hy9 : y < (W8.setCell ⟨y, 5, none⟩ (.bool q1)).heap.size := by simpa using hy8
          have HGY := Lib.hid HG8.out.gy
          have hqe : (zb.1 == 1) = q1 := hq1
          have HMZ : Hid ((List.zipWith Mon.hd (L.map Prod.fst) hs).length + 1 ≤ maxLen ∧ ((List.zipWith Mon.hd (L.map Prod.fst) hs).length + 1) * 64 ≤ 140737488355328) := by
            show _ ∧ _
            have := HLM.out
            unfold maxLen
            simp only [List.length_zipWith, List.length_map]
            omega
          have HOW := Lib.hid (HG8.out.outer HG4.out HYE.out q1 (.cells #[.int .i64 xa.1, .int .i64 xm.1, .int .i64 xt.1, .int .i64 xk.1, .slice sa xs.length sc, .bool q1] 27))
          clear hq2 hq1 hb2 hb1
          cases bf
          all_goals
            go_upto_region 14 with fail
            clear z8 f8 hqe
            obtain ⟨W9, hW9⟩ : ∃ W9, W8.setCell ⟨y, 5, none⟩ (.bool q1) = W9 := ⟨_, rfl⟩
            rw [hW9] at c9 C9 hy9 HOW ⊢
            have HW9 := Lib.hid hW9
            clear hW9 c9
            obtain ⟨c10, c11, c12, c13, c14, c15⟩ := C9
            go_wp2_with (at_builtin; go_loud (refine wpList_app eltMonth rfl (.tmp 54) (.tmp 56) rfl (base := g + 1) _ (List.zipWith Mon.hd (L.map Prod.fst) hs) rfl HOW.out _ 1 1 [(⟨xa.1, xm.1, xt.1, xk.1, xs, q1⟩ : Mon).hd ⟨sa, xs.length, sc⟩] rfl (sl_new (c := MH.cod) _ #[.int .i64 xa.1, .int .i64 xm.1, .int .i64 xt.1, .int .i64 xk.1, .slice sa xs.length sc, .bool q1] 27 [(⟨xa.1, xm.1, xt.1, xk.1, xs, q1⟩ : Mon).hd ⟨sa, xs.length, sc⟩] 1 rfl (by unfold maxLen; omega) rfl) HMZ.out.1 HMZ.out.2 (by have := HGY.out; simp; omega) ?_); intro v5 w5 hown5 hg5; have HO5 := Lib.hid hown5; have HG5 := Lib.hid hg5; clear hown5 hg5)
            have HE := HG5.out
            rw [← HW9.out] at HE
            go_roundw
            case rel => exact ⟨i + 1, _, by go_num, ⟨_, rfl, by show _ = _; rw [HMS2.out]; show _ = Value.bool (formM _); rw [HFS.out, ← HQ2.out]; simp⟩, by omega, by show MTo _ _ _ _ _ _ _ _ _ _ _; rw [HMS2.out, List.map_append]; exact HG8.out.push HG4.out HYE.out.symm q1 _ rfl HO5.out HE⟩
            case measure => simp [intOf]; omega
    · have hie : i = N := by omega
      subst hie
      have hii : ¬ (i : Int) < (i : Int) := by omega
      obtain ⟨d, hde⟩ : ∃ d, doneE c st.1 st.2 = d := ⟨_, rfl⟩
      have HD := Lib.hid hde
      have HVL : Hid (vn = c.length) := HLN
      have HRL : Hid (rdMons c = (L, st)) := HMS.out.trans HRI.out
      clear hde
      go_upto_region 17 with (go_at_call 65; go_loud (refine (fdone_any g va vn vc st.1 st.2 c wr HGI.out.rd HVL.out hn).mono ?_); rintro e W1 ⟨rfl, hb1⟩; rw [HD.out]; have HB1 := Lib.hid hb1; clear hb1)
      have HMI := Lib.hid HGI.out.turn
      obtain ⟨a, cc, hov, hmi⟩ := HMI.out
      subst hov
      have HM1 := Lib.hid (hmi.below HB1.out)
      have HBW : Hid (Below w.heap.size w W1) := by
        have := HGI.out.bl
        rw [← HGE.out] at this
        exact this.trans (HB1.out.mono this.size)
      clear hmi HMI
      by_cases hd0 : d = 0
      case neg =>
        have hdd : (d != 0) = true := by simpa using hd0
        have HR := Lib.hid (take_done HRL.out (by rw [HD.out]; exact hd0))
        go_wp2_with fail
        go_ret2
        rw [HR.out.1, HR.out.2, HD.out]
        exact ⟨_, rfl, ⟨none, 0, [], rfl, MonIn.nil _⟩, HBW.out⟩
      subst hd0
      cases bf with
      | false =>
        have HR := Lib.hid (take_form HRL.out HD.out HBF.out)
        go_wp2_with fail
        go_ret2
        rw [HR.out.1, HR.out.2]
        exact ⟨_, rfl, ⟨none, 0, [], rfl, MonIn.nil _⟩, HBW.out⟩
      | true =>
        have hll : (L.map Prod.fst).length ≤ 1000000 := by rw [List.length_map, HLM.out]; omega
        have hsm : ∀ m ∈ L.map Prod.fst, m.rides.length ≤ 1000000 := fun m hm => Nat.le_trans (HSM.out m hm).1 (by decide)
        have hok : ∀ m ∈ L.map Prod.fst, ∀ r ∈ m.rides, Ride.ok r := fun m hm => (HSM.out m hm).2
        have HTB := Lib.hid (fun h => take_bad HRL.out HD.out HBF.out h)
        have HTG := Lib.hid (fun h => take_good HRL.out HD.out HBF.out h)
        obtain ⟨M2, hM2⟩ : ∃ x, L.map Prod.fst = x := ⟨_, rfl⟩
        rw [hM2] at hll hsm hok HTB HTG HM1 ⊢
        have HRC := Lib.hid (mright_any a M2.length cc hs M2 W1 hll hsm hok HM1.out)
        obtain ⟨n2, hn2⟩ : ∃ x, M2.length = x := ⟨_, rfl⟩
        have HN2 := Lib.hid hn2
        rw [hn2] at HRC HM1 ⊢
        obtain ⟨p, hp⟩ : ∃ p, decide (RightM M2) = p := ⟨_, rfl⟩
        have HP := Lib.hid hp
        rw [hp] at HRC
        clear hp hM2 hll hsm hok hn2 HGI
        cases p with
        | false =>
          go_wp2_with (go_at_call 9; go_loud (refine HRC.out.mono ?_); rintro e W2 ⟨rfl, hb2⟩; have HB2 := Lib.hid (HBW.out.trans (hb2.mono HBW.out.size)); clear hb2)
          go_ret2
          have HR := HTB.out (of_decide_eq_false HP.out)
          rw [HR.1, HR.2]
          exact ⟨_, rfl, ⟨none, 0, [], rfl, MonIn.nil _⟩, HB2.out⟩
        | true =>
          go_wp2_with (go_at_call 9; go_loud (refine HRC.out.mono ?_); rintro e W2 ⟨rfl, hb2⟩; have HB2 := Lib.hid (HBW.out.trans (hb2.mono HBW.out.size)); have HM2 := Lib.hid (HM1.out.below hb2); clear hb2)
          go_ret2
          have HR := HTG.out (of_decide_eq_true HP.out)
          rw [HR.1, HR.2]
          have h2 := HN2.out
          subst h2
          exact ⟨_, rfl, ⟨a, cc, hs, rfl, HM2.out⟩, HB2.out⟩
end Go.Proofs.Ytbdkhgenkekioaa

namespace Go.Proofs.Ytbdkhgenkekioaa
open Go.RowKit Go.V Go.Sort Go.Shelf Go.Proofs Go.Maps Go.Proofs.Ytbdkhgenkekioaa.Wi
open Go.Proofs.Ytbdkhgenkekioaa.Ne (box_alloc box_new box_cell box_below box_lt)

/-- What Take has in memory between two months. -/
structure MRo (w1 W : World) (g : Nat) (va : Option Addr) (vn vc : Nat) (c : List Int) (s : Rs) (ov : Value) (hs : List Hdr) (ms : List Mon) : Prop where
  rd : Rb W g va vn vc s.1 s.2
  hat : s.1 ≤ vn
  own : V.Own 27 MH.cod (g + 1) W ov (List.zipWith Mon.hd ms hs)
  len : hs.length = ms.length
  each : ∀ (i : Nat) (h : Hdr) (m : Mon), hs[i]? = some h → ms[i]? = some m → V.Own 24 Ride.cod (g + 1) W (.slice h.a h.n h.cap) m.rides
  bl : Below g w1 W
  sz : w1.heap.size = g
  sl : Sl bcod w1 va vn vc c
/-- .. and within one: its box, its rides. -/
structure MRi (w1 W0 W : World) (g y : Nat) (va : Option Addr) (vn vc : Nat) (c : List Int) (s : Rs) (a m t k : Int) (rv : Value) (xs : List Ride) : Prop where
  rd : Rb W g va vn vc s.1 s.2
  hat : s.1 ≤ vn
  kg : KG g y W0 W
  bx : W.heap[y]? = some (.cells #[.int .i64 a, .int .i64 m, .int .i64 t, .int .i64 k, rv, .bool false] 27 (0, 0))
  rr : V.Own 24 Ride.cod (y + 1) W rv xs
  bl : Below g w1 W
  sz : w1.heap.size = g
  gy : g < y
  sl : Sl bcod w1 va vn vc c
section
variable {w1 W W' : World} {g : Nat} {va : Option Addr} {vn vc : Nat} {c : List Int} {s : Rs} {ov : Value} {hs : List Hdr} {ms : List Mon}
theorem MRo.grown (h : MRo w1 W g va vn vc c s ov hs ms) (hg : W.grownBy W' (some g)) {s' : Rs} (hr : Rb W' g va vn vc s'.1 s'.2) (ha : s'.1 ≤ vn) : MRo w1 W' g va vn vc c s' ov hs ms :=
  ⟨hr, ha, h.own.kept hg (own_lt_ne h.own (by omega)), h.len, fun i x m h1 h2 => (h.each i x m h1 h2).kept hg (own_lt_ne (h.each i x m h1 h2) (by omega)),
    h.bl.grown hg (by have := h.sz; have := h.bl.size; omega) (fun k hk => by have := Option.some.inj hk; omega), h.sz, h.sl⟩
theorem MRo.num (h : MRo w1 W g va vn vc c s ov hs ms) (hB : Byt c) (hn : vn ≤ 1000000000) (most : Int) (h0 : 0 ≤ most) (h1 : most < 9223372036854775808) :
    Calls Try.prog 67 #[.pointer (some ⟨g, 0, none⟩), .int .i64 most] W fun e W' => e = .returned (.int .i64 (rdN c most s.1 s.2).1) ∧ MRo w1 W' g va vn vc c (rdN c most s.1 s.2).2 ov hs ms ∧ W.grownBy W' (some g) := by
  have := h0
  have := h1
  refine (rrnum_any g va vn vc s.1 s.2 most c W h.rd (h.sl.below (by have := h.bl; rw [← h.sz] at this; exact this)) hB hn h.hat h0 h1).mono ?_
  rintro e W' ⟨rfl, hr, hg⟩
  exact ⟨rfl, h.grown hg hr (by rw [h.sl.hlen]; exact rdN_at hB (by rw [← h.sl.hlen]; exact h.hat)), hg⟩
/-- What the months in memory are to a reader. -/
theorem MRo.turn (h : MRo w1 W g va vn vc c s ov hs ms) : ∃ a cc, ov = .slice a ms.length cc ∧ MonIn W a ms.length cc hs ms := by
  obtain ⟨a, cc, e, -, -⟩ := h.own.slice
  have el : (List.zipWith Mon.hd ms hs).length = ms.length := by rw [List.length_zipWith, h.len, Nat.min_self]
  rw [el] at e
  subst e
  exact ⟨a, cc, rfl, own_sl h.own, h.len, fun i x m h1 h2 => own_sl (h.each i x m h1 h2)⟩
theorem MRo.begin (h : MRo w1 W g va vn vc c s ov hs ms) (a m t k : Int) : MRi w1 W (W.alloc (.cells #[.int .i64 a, .int .i64 m, .int .i64 t, .int .i64 k, .slice none 0 0, .bool false] 27)) g W.heap.size va vn vc c s a m t k (.slice none 0 0) [] :=
  ⟨box_alloc h.rd, h.hat, KG.alloc (KG.refl _ _ _) (Nat.le_refl _) _, box_new _ _, V.Own.nil, h.bl.alloc (by have := h.sz; have := h.bl.size; omega) _, h.sz, box_lt h.rd, h.sl⟩
end
section
variable {w1 W0 W W' : World} {g y : Nat} {va : Option Addr} {vn vc : Nat} {c : List Int} {s : Rs} {a m t k : Int} {rv : Value} {xs : List Ride}
theorem MRi.grown (h : MRi w1 W0 W g y va vn vc c s a m t k rv xs) (hg : W.grownBy W' (some g)) {s' : Rs} (hr : Rb W' g va vn vc s'.1 s'.2) (ha : s'.1 ≤ vn) : MRi w1 W0 W' g y va vn vc c s' a m t k rv xs :=
  ⟨hr, ha, h.kg.grown hg (.inl rfl) (Nat.le_of_lt (box_lt h.bx)), (hg.block y (box_lt h.bx) (fun q => by have := Option.some.inj q; have := h.gy; omega)).trans h.bx, h.rr.kept hg (own_lt_ne h.rr (by have := h.gy; omega)),
    h.bl.grown hg (by have := h.sz; have := h.bl.size; omega) (fun k hk => by have := Option.some.inj hk; omega), h.sz, h.gy, h.sl⟩
theorem MRi.drew (h : MRi w1 W0 W g y va vn vc c s a m t k rv xs) : MRi w1 W0 W.drew g y va vn vc c s a m t k rv xs := h.grown (drew_grown W _) h.rd h.hat
theorem MRi.num (h : MRi w1 W0 W g y va vn vc c s a m t k rv xs) (hB : Byt c) (hn : vn ≤ 1000000000) (most : Int) (h0 : 0 ≤ most) (h1 : most < 9223372036854775808) :
    Calls Try.prog 67 #[.pointer (some ⟨g, 0, none⟩), .int .i64 most] W fun e W' => e = .returned (.int .i64 (rdN c most s.1 s.2).1) ∧ MRi w1 W0 W' g y va vn vc c (rdN c most s.1 s.2).2 a m t k rv xs ∧ W.grownBy W' (some g) := by
  have := h0
  have := h1
  refine (rrnum_any g va vn vc s.1 s.2 most c W h.rd (h.sl.below (by have := h.bl; rw [← h.sz] at this; exact this)) hB hn h.hat h0 h1).mono ?_
  rintro e W' ⟨rfl, hr, hg⟩
  exact ⟨rfl, h.grown hg hr (by rw [h.sl.hlen]; exact rdN_at hB (by rw [← h.sl.hlen]; exact h.hat)), hg⟩
theorem MRi.sgn (h : MRi w1 W0 W g y va vn vc c s a m t k rv xs) (hB : Byt c) (hn : vn ≤ 1000000000) (most : Int) (h0 : 0 ≤ most) (h1 : most < 9223372036854775808) :
    Calls Try.prog 68 #[.pointer (some ⟨g, 0, none⟩), .int .i64 most] W fun e W' => e = .returned (.int .i64 (rdS c most s.1 s.2).1) ∧ MRi w1 W0 W' g y va vn vc c (rdS c most s.1 s.2).2 a m t k rv xs ∧ W.grownBy W' (some g) := by
  have := h0
  have := h1
  refine (rrsgn_any g va vn vc s.1 s.2 most c W h.rd (h.sl.below (by have := h.bl; rw [← h.sz] at this; exact this)) hB hn h.hat h0 h1).mono ?_
  rintro e W' ⟨rfl, hr, hg⟩
  exact ⟨rfl, h.grown hg hr (by rw [h.sl.hlen]; exact rdS_at hB (by rw [← h.sl.hlen]; exact h.hat)), hg⟩
theorem MRi.byt (h : MRi w1 W0 W g y va vn vc c s a m t k rv xs) (hn : vn ≤ 1000000000) :
    Calls Try.prog 69 #[.pointer (some ⟨g, 0, none⟩)] W fun e W' => e = .returned (.int .u8 (rdB c s.1 s.2).1) ∧ MRi w1 W0 W' g y va vn vc c (rdB c s.1 s.2).2 a m t k rv xs ∧ W.grownBy W' (some g) := by
  refine (rrbyte_any g va vn vc s.1 s.2 c W h.rd (h.sl.below (by have := h.bl; rw [← h.sz] at this; exact this)) hn h.hat).mono ?_
  rintro e W' ⟨rfl, hr, hg⟩
  exact ⟨rfl, h.grown hg hr (by rw [h.sl.hlen]; exact rdB_at (by rw [← h.sl.hlen]; exact h.hat)), hg⟩
theorem MRi.alloc (h : MRi w1 W0 W g y va vn vc c s a m t k rv xs) (o : Obj) : MRi w1 W0 (W.alloc o) g y va vn vc c s a m t k rv xs :=
  ⟨box_alloc h.rd, h.hat, h.kg.alloc (by have := h.kg.size; have := box_lt h.bx; omega) o, box_alloc h.bx, h.rr.alloc o, h.bl.alloc (by have := h.sz; have := h.bl.size; omega) o, h.sz, h.gy, h.sl⟩
theorem MRi.set (h : MRi w1 W0 W g y va vn vc c s a m t k rv xs) {z : Nat} (hz : y < z) (ha : rv.ownBlock = none ∨ rv.ownBlock ≠ some z) (i : Nat) (v : Value) : MRi w1 W0 (W.setCell ⟨z, i, none⟩ v) g y va vn vc c s a m t k rv xs :=
  ⟨(heap_setCell_other W ⟨z, i, none⟩ g v (by show g ≠ z; have := h.gy; omega)).trans h.rd, h.hat, h.kg.set (by omega) i v, (heap_setCell_other W ⟨z, i, none⟩ y v (by show y ≠ z; omega)).trans h.bx, h.rr.kept (set_grown W z i v) ha,
    h.bl.setCell (p := ⟨z, i, none⟩) (by show g ≤ z; have := h.gy; omega) _, h.sz, h.gy, h.sl⟩
theorem MRi.apart (h : MRi w1 W0 W g y va vn vc c s a m t k rv xs) : rv.ownBlock = none ∨ rv.ownBlock ≠ some W.heap.size := .inr (fun q => by have := (World.ownsRow.lt h.rr _ q).2; omega)
theorem MRi.m_ (h : MRi w1 W0 W g y va vn vc c s a m t k rv xs) (n : Int) : MRi w1 W0 (W.setCell ⟨y, 1, none⟩ (.int .i64 n)) g y va vn vc c s a n t k rv xs :=
  ⟨(heap_setCell_other W ⟨y, 1, none⟩ g _ (by show g ≠ y; have := h.gy; omega)).trans h.rd, h.hat, h.kg.set (Nat.le_refl _) 1 _, heap_setCell_same W y 1 _ _ _ h.bx, h.rr.kept (set_grown W y 1 _) (own_lt_ne h.rr (by omega)),
    h.bl.setCell (p := ⟨y, 1, none⟩) (by show g ≤ y; have := h.gy; omega) _, h.sz, h.gy, h.sl⟩
theorem MRi.t_ (h : MRi w1 W0 W g y va vn vc c s a m t k rv xs) (n : Int) : MRi w1 W0 (W.setCell ⟨y, 2, none⟩ (.int .i64 n)) g y va vn vc c s a m n k rv xs :=
  ⟨(heap_setCell_other W ⟨y, 2, none⟩ g _ (by show g ≠ y; have := h.gy; omega)).trans h.rd, h.hat, h.kg.set (Nat.le_refl _) 2 _, heap_setCell_same W y 2 _ _ _ h.bx, h.rr.kept (set_grown W y 2 _) (own_lt_ne h.rr (by omega)),
    h.bl.setCell (p := ⟨y, 2, none⟩) (by show g ≤ y; have := h.gy; omega) _, h.sz, h.gy, h.sl⟩
theorem MRi.k_ (h : MRi w1 W0 W g y va vn vc c s a m t k rv xs) (n : Int) : MRi w1 W0 (W.setCell ⟨y, 3, none⟩ (.int .i64 n)) g y va vn vc c s a m t n rv xs :=
  ⟨(heap_setCell_other W ⟨y, 3, none⟩ g _ (by show g ≠ y; have := h.gy; omega)).trans h.rd, h.hat, h.kg.set (Nat.le_refl _) 3 _, heap_setCell_same W y 3 _ _ _ h.bx, h.rr.kept (set_grown W y 3 _) (own_lt_ne h.rr (by omega)),
    h.bl.setCell (p := ⟨y, 3, none⟩) (by show g ≤ y; have := h.gy; omega) _, h.sz, h.gy, h.sl⟩
/-- A ride more: in the row, and the row in the box. -/
theorem MRi.app (h : MRi w1 W0 W g y va vn vc c s a m t k rv xs) (o : Obj) {W4 : World} {rv' : Value} {xs' : List Ride} (ho : V.Own 24 Ride.cod (y + 1) W4 rv' xs') (hg : (W.alloc o).grownBy W4 rv.ownBlock) :
    MRi w1 W0 (W4.setCell ⟨y, 4, none⟩ rv') g y va vn vc c s a m t k rv' xs' := by
  have hgy := h.gy
  have ha := h.alloc o
  have hnb : ∀ k, k < y + 1 → some k ≠ rv.ownBlock := fun k hk q => by have := (World.ownsRow.lt h.rr k q.symm).1; omega
  have hb4 : W4.heap[y]? = _ := (hg.block y (box_lt ha.bx) (hnb y (by omega))).trans ha.bx
  have hr4 : W4.heap[g]? = _ := (hg.block g (box_lt ha.rd) (hnb g (by omega))).trans ha.rd
  refine ⟨?_, h.hat, ?_, heap_setCell_same W4 y 4 _ _ _ hb4, ho.kept (set_grown W4 y 4 rv') (own_lt_ne ho (by omega)), ?_, h.sz, hgy, h.sl⟩
  · exact (heap_setCell_other W4 ⟨y, 4, none⟩ g rv' (by show g ≠ y; omega)).trans hr4
  · exact (ha.kg.grown hg (.inr (fun k hk => by have := (World.ownsRow.lt h.rr k hk).1; omega)) (Nat.le_of_lt (box_lt ha.bx))).set (Nat.le_refl _) 4 _
  · have hb2 : Below g w1 W4 := ha.bl.grown hg (by have := h.sz; have := ha.bl.size; omega) (fun k hk => by have := (World.ownsRow.lt h.rr k hk).1; omega)
    exact hb2.setCell (p := ⟨y, 4, none⟩) (by show g ≤ y; omega) _
theorem MRi.outer (h : MRi w1 W0 W g y va vn vc c s a m t k rv xs) {s0 : Rs} {ov : Value} {hs : List Hdr} {ms : List Mon} (h0 : MRo w1 W0 g va vn vc c s0 ov hs ms) (hy : W0.heap.size = y) (q : Bool) (o : Obj) :
    V.Own 27 MH.cod (g + 1) ((W.setCell ⟨y, 5, none⟩ (.bool q)).alloc o) ov (List.zipWith Mon.hd ms hs) := by
  subst hy
  exact ((own_kg h0.own h.kg).kept (set_grown W _ 5 _) (.inr (fun z => by have := (World.ownsRow.lt h0.own _ z).2; omega))).alloc o
/-- A month more. -/
theorem MRi.push (h : MRi w1 W0 W g y va vn vc c s a m t k rv xs) {s0 : Rs} {ov : Value} {hs : List Hdr} {ms : List Mon} (h0 : MRo w1 W0 g va vn vc c s0 ov hs ms) (hy : y = W0.heap.size) (q : Bool) (o : Obj) {W4 : World} {ov' : Value} {ra : Option Addr} {rc : Nat} (hrv : rv = .slice ra xs.length rc)
    (ho : V.Own 27 MH.cod (g + 1) W4 ov' (List.zipWith Mon.hd ms hs ++ [(⟨a, m, t, k, xs, q⟩ : Mon).hd ⟨ra, xs.length, rc⟩])) (hg : ((W.setCell ⟨y, 5, none⟩ (.bool q)).alloc o).grownBy W4 ov.ownBlock) :
    MRo w1 W4 g va vn vc c s ov' (hs ++ [⟨ra, xs.length, rc⟩]) (ms ++ [⟨a, m, t, k, xs, q⟩]) := by
  subst hy
  have hgy := h.gy
  have hov : V.Own 27 MH.cod (g + 1) ((W.setCell ⟨W0.heap.size, 5, none⟩ (.bool q)).alloc o) ov (List.zipWith Mon.hd ms hs) := ((own_kg h0.own h.kg).kept (set_grown W _ 5 _) (.inr (fun z => by have := (World.ownsRow.lt h0.own _ z).2; omega))).alloc o
  have hrd : ((W.setCell ⟨W0.heap.size, 5, none⟩ (.bool q)).alloc o).heap[g]? = _ := box_alloc ((heap_setCell_other W ⟨W0.heap.size, 5, none⟩ g _ (by show g ≠ W0.heap.size; omega)).trans h.rd)
  have hnb : ∀ k, k < g + 1 → some k ≠ ov.ownBlock := fun k hk z => by have := (World.ownsRow.lt h0.own k z.symm).1; omega
  have hbl : Below g w1 ((W.setCell ⟨W0.heap.size, 5, none⟩ (.bool q)).alloc o) := (h.bl.setCell (p := ⟨W0.heap.size, 5, none⟩) (by show g ≤ W0.heap.size; omega) _).alloc (by have := h.sz; have := h.bl.size; simp; omega) o
  have rides : ∀ (v : Value) (zs : List Ride), V.Own 24 Ride.cod (g + 1) W v zs → (v.ownBlock = none ∨ v.ownBlock ≠ some W0.heap.size) → V.Own 24 Ride.cod (g + 1) W4 v zs := fun v zs hv hne => by
    have h2 := (hv.kept (set_grown W W0.heap.size 5 (.bool q)) hne).alloc o
    exact h2.kept hg (own_apart h2 hov (by decide))
  refine ⟨(hg.block g (box_lt hrd) (hnb g (by omega))).trans hrd, h.hat, ?_, by simp [h0.len], fun i x y e1 e2 => ?_, ?_, h.sz, h.sl⟩
  · rw [List.zipWith_append h0.len.symm]; exact ho
  · by_cases hi : i < hs.length
    · rw [List.getElem?_append_left hi] at e1
      rw [List.getElem?_append_left (by rw [← h0.len]; exact hi)] at e2
      have h3 := h0.each i x y e1 e2
      exact rides _ _ (own_kg h3 h.kg) (.inr (fun z => by have := (World.ownsRow.lt h3 _ z).2; omega))
    · rw [List.getElem?_append_right (by omega)] at e1
      rw [List.getElem?_append_right (by rw [← h0.len]; omega)] at e2
      have e3 : i - hs.length = 0 := by have := (List.getElem?_eq_some_iff.1 e1).1; simp at this; omega
      rw [← h0.len] at e2
      rw [e3] at e1 e2
      simp at e1 e2
      subst e1; subst e2
      have h3 : V.Own 24 Ride.cod (g + 1) W (.slice ra xs.length rc) xs := by rw [← hrv]; exact h.rr.lower (by omega)
      refine rides _ _ h3 ?_
      rw [← hrv]
      exact own_lt_ne h.rr (by omega)
  · exact hbl.grown hg (by have := h.sz; have := hbl.size; omega) (fun k hk => by have := (World.ownsRow.lt h0.own k hk).1; omega)
end

set_option maxHeartbeats 8000000 in
set_option maxRecDepth 100000 in
theorem rmtake_any (va : Option Addr) (vn vc : Nat) (c : List Int) (w : World) (h : Sl bcod w va vn vc c) (hB : Byt c) (hn : vn ≤ 1000000000) :
    Calls Try.prog 25 #[.slice va vn vc] w fun e w' => ∃ v, e = .returned (.tuple #[v, .int .i64 (takeE c)]) ∧ TurnQ (takeL c) w' v ∧ Below w.heap.size w w' := by
  have HLN : Hid (vn = c.length) := h.hlen
  have HS := Lib.hid h
  have HBC := Lib.hid hB
  obtain ⟨N, hN, hN2⟩ := rdN_most c 4096 0 0 (by omega)
  obtain ⟨k0, hk0⟩ : ∃ k, rdN c 4096 0 0 = k := ⟨_, rfl⟩
  have HNE := Lib.hid hk0
  rw [hk0] at hN
  obtain ⟨nv, s0⟩ := k0
  have hN : nv = (N : Int) := hN
  subst hN
  have HMS := Lib.hid (rdMons_of HNE.out)
  clear h hB hk0
  go_enter Try.func25, Try.ntmps25
  go_wp2_with (first
    | (go_at_call 66; go_loud (refine (rread_any va vn vc w).mono ?_); rintro e w2 ⟨rfl, hf2, hb2⟩; have HF2 : Hid (MRo w w2 w.heap.size va vn vc c (0, 0) (.slice none 0 0) [] []) := ⟨hf2, Nat.zero_le _, V.Own.nil, rfl, fun i x y h1 => by simp at h1, hb2, rfl, HS.out⟩; clear hf2 hb2)
    | (go_at_call 67; go_loud (refine (HF2.out.num HBC.out hn 4096 (by omega) (by omega)).mono ?_); rintro e w3 ⟨rfl, hg3, -⟩; have e0 : rdN c 4096 ((0 : Nat), (0 : Int)).1 ((0 : Nat), (0 : Int)).2 = ((N : Int), s0) := HNE.out; rw [e0] at hg3 ⊢; have HG := Lib.hid hg3; clear hg3 e0))
  obtain ⟨g, hg⟩ : ∃ g, w.heap.size = g := ⟨_, rfl⟩
  rw [hg] at HG ⊢
  have HGE := Lib.hid hg
  clear HF2 hg
  go_loopw [5, 6, 8] (fun vo vf vi wr => ∃ (i : Nat) (hs : List Hdr), vi = .int .i64 ((i : Nat) : Int) ∧ (∃ z, z = vf ∧ Hid (z = .bool (formM (rdMany (rdMon c) i s0).1))) ∧ i ≤ N ∧ Hid (MRo w wr g va vn vc c (rdMany (rdMon c) i s0).2 vo hs ((rdMany (rdMon c) i s0).1.map Prod.fst))) (fun _ _ vi _ => N - (intOf vi).toNat)
  case atStart => exact ⟨0, [], rfl, ⟨_, rfl, rfl⟩, by omega, HG.out⟩
  case round =>
    obtain ⟨i, hs, rfl, ⟨z, rfl, hvf⟩, hi, HGI⟩ := hrel
    have HSN := Lib.hid (rdMany_snoc (rdMon c) i s0)
    have HSM := Lib.hid (rdMons_small c i s0)
    have HLM := Lib.hid (rdMany_len (rdMon c) i s0)
    obtain ⟨R, hR⟩ : ∃ R, rdMany (rdMon c) i s0 = R := ⟨_, rfl⟩
    rw [hR] at HGI HSN HSM HLM hvf
    obtain ⟨L, st⟩ := R
    have HRI := Lib.hid hR
    simp only [] at HGI HSN HSM HLM
    clear hR
    obtain ⟨bf, hbf⟩ : ∃ b, formM L = b := ⟨_, rfl⟩
    have HBF := Lib.hid hbf
    have hvf2 : z = .bool bf := by have := hvf.out; rw [this, hbf]
    subst hvf2
    clear hvf hbf
    by_cases hlt : i < N
    · have hii : (i : Int) < (N : Int) := by omega
      obtain ⟨xa, hxa⟩ : ∃ x, rdN c 2147483648 st.1 st.2 = x := ⟨_, rfl⟩
      obtain ⟨xm, hxm⟩ : ∃ x, rdN c 1048576 xa.2.1 xa.2.2 = x := ⟨_, rfl⟩
      obtain ⟨xt, hxt⟩ : ∃ x, rdN c 1048576 xm.2.1 xm.2.2 = x := ⟨_, rfl⟩
      obtain ⟨xk, hxk⟩ : ∃ x, rdN c 15 xt.2.1 xt.2.2 = x := ⟨_, rfl⟩
      have HXA := Lib.hid hxa
      have HXM := Lib.hid hxm
      have HXT := Lib.hid hxt
      have HXK := Lib.hid hxk
      obtain ⟨K, hK, hK2⟩ := rdN_most c 2048 xk.2.1 xk.2.2 (by omega)
      obtain ⟨k1, hk1⟩ : ∃ k, rdN c 2048 xk.2.1 xk.2.2 = k := ⟨_, rfl⟩
      have HKE := Lib.hid hk1
      rw [hk1] at hK
      obtain ⟨kv, ks⟩ := k1
      have hK : kv = (K : Int) := hK
      subst hK
      clear hxa hxm hxt hxk hk1
      go_upto_region 9 with (go_at_call 67; go_loud (refine (HGI.out.num HBC.out hn 2147483648 (by omega) (by omega)).mono ?_); rintro e U4 ⟨rfl, hg4, -⟩; rw [HXA.out] at hg4 ⊢; have HG4 := Lib.hid hg4; clear hg4)
      have HI := Lib.hid (HG4.out.begin xa.1 0 0 0)
      obtain ⟨V, hV⟩ : ∃ V, U4.alloc (.cells #[.int .i64 xa.1, .int .i64 0, .int .i64 0, .int .i64 0, .slice none 0 0, .bool false] 27) = V := ⟨_, rfl⟩
      obtain ⟨y, hy⟩ : ∃ y, U4.heap.size = y := ⟨_, rfl⟩
      rw [hV, hy] at HI
      rw [hV, hy]
      have HYE := Lib.hid hy
      clear hV hy
      go_upto_region 10 with (go_at_call 67; go_loud (refine (HI.out.num HBC.out hn 1048576 (by omega) (by omega)).mono ?_); rintro e X0 ⟨rfl, hg2, -⟩; rw [HXM.out] at hg2 ⊢; have HJ := Lib.hid hg2; have z1 := (box_cell hg2.bx 1).1; have f1 := (box_cell hg2.bx 1).2; have hyl := box_lt hg2.bx; clear hg2)
      have HI0 := Lib.hid (HJ.out.m_ xm.1)
      obtain ⟨V0, hV2⟩ : ∃ V, X0.setCell ⟨y, 1, none⟩ (.int .i64 xm.1) = V := ⟨_, rfl⟩
      rw [hV2] at HI0 ⊢
      clear hV2 z1 f1 hyl HJ HI
      go_upto_region 11 with (go_at_call 67; go_loud (refine (HI0.out.num HBC.out hn 1048576 (by omega) (by omega)).mono ?_); rintro e X1 ⟨rfl, hg2, -⟩; rw [HXT.out] at hg2 ⊢; have HJ := Lib.hid hg2; have z1 := (box_cell hg2.bx 2).1; have f1 := (box_cell hg2.bx 2).2; have hyl := box_lt hg2.bx; clear hg2)
      have HI1 := Lib.hid (HJ.out.t_ xt.1)
      obtain ⟨V1, hV2⟩ : ∃ V, X1.setCell ⟨y, 2, none⟩ (.int .i64 xt.1) = V := ⟨_, rfl⟩
      rw [hV2] at HI1 ⊢
      clear hV2 z1 f1 hyl HJ HI0
      go_upto_region 12 with (go_at_call 67; go_loud (refine (HI1.out.num HBC.out hn 15 (by omega) (by omega)).mono ?_); rintro e X2 ⟨rfl, hg2, -⟩; rw [HXK.out] at hg2 ⊢; have HJ := Lib.hid hg2; have z1 := (box_cell hg2.bx 3).1; have f1 := (box_cell hg2.bx 3).2; have hyl := box_lt hg2.bx; clear hg2)
      have HI2 := Lib.hid (HJ.out.k_ xk.1)
      obtain ⟨V2, hV2⟩ : ∃ V, X2.setCell ⟨y, 3, none⟩ (.int .i64 xk.1) = V := ⟨_, rfl⟩
      rw [hV2] at HI2 ⊢
      clear hV2 z1 f1 hyl HJ HI1
      go_upto_region 14 with (go_at_call 67; go_loud (refine (HI2.out.num HBC.out hn 2048 (by omega) (by omega)).mono ?_); rintro e U5 ⟨rfl, hg5, -⟩; rw [HKE.out] at hg5 ⊢; have HI1 := Lib.hid hg5; clear hg5)
      clear HI2
      go_loopw [11] (fun vj wr => ∃ (j : Nat) (rv : Value), vj = .int .i64 ((j : Nat) : Int) ∧ j ≤ K ∧ Hid (MRi w U4 wr g y va vn vc c (rdMany (rdRide c) j ks).2 xa.1 xm.1 xt.1 xk.1 rv (rdMany (rdRide c) j ks).1)) (fun vj _ => K - (intOf vj).toNat)
      case atStart => exact ⟨0, _, rfl, Nat.zero_le _, HI1.out⟩
      case round =>
        obtain ⟨j, rv, rfl, hj, HGJ⟩ := hrel
        have HSR := Lib.hid (rdMany_snoc (rdRide c) j ks)
        have HLR := Lib.hid (rdMany_len (rdRide c) j ks)
        obtain ⟨R2, hR2⟩ : ∃ R, rdMany (rdRide c) j ks = R := ⟨_, rfl⟩
        rw [hR2] at HGJ HSR HLR
        obtain ⟨xs, sl⟩ := R2
        have HRJ := Lib.hid hR2
        simp only [] at HGJ HSR HLR
        obtain ⟨sa, sc, hsv, -, -⟩ := HGJ.out.rr.slice
        rw [HLR.out] at hsv
        subst hsv
        clear hR2 HI1
        by_cases hlj : j < K
        · have hjj : (j : Int) < (K : Int) := by omega
          obtain ⟨x, hx⟩ : ∃ x, rdN c 2147483648 sl.1 sl.2 = x := ⟨_, rfl⟩
          obtain ⟨z, hz⟩ : ∃ z, rdN c 1099511627776 x.2.1 x.2.2 = z := ⟨_, rfl⟩
          obtain ⟨u, hu⟩ : ∃ u, rdN c 1099511627776 z.2.1 z.2.2 = u := ⟨_, rfl⟩
          obtain ⟨f, hf⟩ : ∃ f, rdS c 4294967296 u.2.1 u.2.2 = f := ⟨_, rfl⟩
          have HX := Lib.hid hx
          have HZ := Lib.hid hz
          have HU := Lib.hid hu
          have HF := Lib.hid hf
          have HNX : Hid (rdMany (rdRide c) (j + 1) ks = (xs ++ [⟨x.1, z.1, u.1, f.1⟩], f.2)) := by
            show _ = _
            rw [HSR.out, rdRide_of hx hz hu hf]
          have HM1 : Hid (xs.length + 1 ≤ maxLen) := by show _ ≤ _; rw [HLR.out]; unfold maxLen; omega
          have HM2 : Hid ((xs.length + 1) * 32 ≤ 140737488355328) := by show _ ≤ _; rw [HLR.out]; omega
          have HLA : Hid ((xs ++ [(⟨x.1, z.1, u.1, f.1⟩ : Ride)]).length = j + 1) := by show _ = _; rw [List.length_append, HLR.out]; rfl
          clear hx hz hu hf
          go_upto_region 17 with (go_at_call 67; go_loud (refine (HGJ.out.num HBC.out hn 2147483648 (by omega) (by omega)).mono ?_); rintro e W2 ⟨rfl, hg2, -⟩; rw [HX.out] at hg2 ⊢; have HG2 := Lib.hid hg2; clear hg2)
          have HA0 := Lib.hid (HG2.out.alloc (.cells #[.int .i64 x.1, .int .i64 0, .int .i64 0, .int .i64 0] 24))
          have HB0 := Lib.hid (box_new W2 (.cells #[.int .i64 x.1, .int .i64 0, .int .i64 0, .int .i64 0] 24))
          have HAP := Lib.hid HG2.out.apart
          have hyz : y < W2.heap.size := box_lt HG2.out.bx
          obtain ⟨Z, hZ⟩ : ∃ V, W2.alloc (.cells #[.int .i64 x.1, .int .i64 0, .int .i64 0, .int .i64 0] 24) = V := ⟨_, rfl⟩
          obtain ⟨q, hq⟩ : ∃ q, W2.heap.size = q := ⟨_, rfl⟩
          rw [hZ] at HA0 HB0 ⊢
          rw [hq] at HB0 HAP hyz ⊢
          clear hZ hq HG2
          go_upto_region 18 with (go_at_call 67; go_loud (refine (HA0.out.num HBC.out hn 1099511627776 (by omega) (by omega)).mono ?_); rintro e W3 ⟨rfl, hg3, hw3⟩; rw [HZ.out] at hg3 ⊢; have HGt := Lib.hid hg3; have HBt := Lib.hid ((hw3.block q (box_lt HB0.out) (fun e => by have := Option.some.inj e; have := HA0.out.gy; omega)).trans HB0.out); have k1 := (box_cell HBt.out 1).1; have k2 := (box_cell HBt.out 1).2; have hql := box_lt HBt.out; clear hg3 hw3)
          clear k1 k2 hql
          have HA1 := Lib.hid (HGt.out.set hyz HAP.out 1 (.int .i64 z.1))
          have HB1 : Hid ((W3.setCell ⟨q, 1, none⟩ (.int .i64 z.1)).heap[q]? = some (.cells #[.int .i64 x.1, .int .i64 z.1, .int .i64 0, .int .i64 0] 24 (0, 0))) := heap_setCell_same W3 q 1 _ _ _ HBt.out
          obtain ⟨Z0, hZ⟩ : ∃ V, W3.setCell ⟨q, 1, none⟩ (.int .i64 z.1) = V := ⟨_, rfl⟩
          rw [hZ] at HA1 HB1 ⊢
          clear hZ HGt HBt HA0 HB0
          go_upto_region 19 with (go_at_call 67; go_loud (refine (HA1.out.num HBC.out hn 1099511627776 (by omega) (by omega)).mono ?_); rintro e W3 ⟨rfl, hg3, hw3⟩; rw [HU.out] at hg3 ⊢; have HGt := Lib.hid hg3; have HBt := Lib.hid ((hw3.block q (box_lt HB1.out) (fun e => by have := Option.some.inj e; have := HA1.out.gy; omega)).trans HB1.out); have k1 := (box_cell HBt.out 2).1; have k2 := (box_cell HBt.out 2).2; have hql := box_lt HBt.out; clear hg3 hw3)
          clear k1 k2 hql
          have HA2 := Lib.hid (HGt.out.set hyz HAP.out 2 (.int .i64 u.1))
          have HB2 : Hid ((W3.setCell ⟨q, 2, none⟩ (.int .i64 u.1)).heap[q]? = some (.cells #[.int .i64 x.1, .int .i64 z.1, .int .i64 u.1, .int .i64 0] 24 (0, 0))) := heap_setCell_same W3 q 2 _ _ _ HBt.out
          obtain ⟨Z1, hZ⟩ : ∃ V, W3.setCell ⟨q, 2, none⟩ (.int .i64 u.1) = V := ⟨_, rfl⟩
          rw [hZ] at HA2 HB2 ⊢
          clear hZ HGt HBt HA1 HB1
          go_upto_region 20 with (go_at_call 68; go_loud (refine (HA2.out.sgn HBC.out hn 4294967296 (by omega) (by omega)).mono ?_); rintro e W3 ⟨rfl, hg3, hw3⟩; rw [HF.out] at hg3 ⊢; have HGt := Lib.hid hg3; have HBt := Lib.hid ((hw3.block q (box_lt HB2.out) (fun e => by have := Option.some.inj e; have := HA2.out.gy; omega)).trans HB2.out); have k1 := (box_cell HBt.out 3).1; have k2 := (box_cell HBt.out 3).2; have hql := box_lt HBt.out; clear hg3 hw3)
          clear k1 k2 hql
          have HA3 := Lib.hid (HGt.out.set hyz HAP.out 3 (.int .i64 f.1))
          have HB3 : Hid ((W3.setCell ⟨q, 3, none⟩ (.int .i64 f.1)).heap[q]? = some (.cells #[.int .i64 x.1, .int .i64 z.1, .int .i64 u.1, .int .i64 f.1] 24 (0, 0))) := heap_setCell_same W3 q 3 _ _ _ HBt.out
          obtain ⟨Z2, hZ⟩ : ∃ V, W3.setCell ⟨q, 3, none⟩ (.int .i64 f.1) = V := ⟨_, rfl⟩
          rw [hZ] at HA3 HB3 ⊢
          clear hZ HGt HBt HA2 HB2
          have k0 : Z2.cell? ⟨q, 0, none⟩ = some (.int .i64 x.1) := (box_cell HB3.out 0).1
          have k1 : Z2.cell? ⟨q, 1, none⟩ = some (.int .i64 z.1) := (box_cell HB3.out 1).1
          have k2 : Z2.cell? ⟨q, 2, none⟩ = some (.int .i64 u.1) := (box_cell HB3.out 2).1
          have k3 : Z2.cell? ⟨q, 3, none⟩ = some (.int .i64 f.1) := (box_cell HB3.out 3).1
          have c1 : Z2.cell? ⟨y, 4, none⟩ = some (.slice sa j sc) := (box_cell HA3.out.bx 4).1
          have f1 := (box_cell HA3.out.bx 4).2
          have hy4 := box_lt HA3.out.bx
          have hq4 := box_lt HB3.out
          go_wp2_with (at_builtin; go_loud (refine wpList_app_at eltRide rfl (.tmp 55) (.tmp 57) rfl (.slice sa j sc) xs rfl (HA3.out.rr.alloc _) _ 1 1 [⟨x.1, z.1, u.1, f.1⟩] rfl (sl_new (c := Ride.cod) Z2 #[.int .i64 x.1, .int .i64 z.1, .int .i64 u.1, .int .i64 f.1] 24 [⟨x.1, z.1, u.1, f.1⟩] 1 rfl (by unfold maxLen; omega) rfl) HM1.out HM2.out (by simp; omega) ?_); rintro v4 W5 ho4 hg4 -; obtain ⟨a4, k4, ev4, -⟩ := ho4.slice; rw [HLA.out] at ev4; subst ev4; have HO4 := Lib.hid ho4; have HG5 := Lib.hid hg4; have b4 := ((hg4.block y (by simp; omega) (fun q => by have := (World.ownsRow.lt HA3.out.rr y q.symm).1; omega)).trans (box_alloc HA3.out.bx)); have c4 := (box_cell b4 4).1; have f4 := (box_cell b4 4).2; have hy5 := box_lt b4; clear ho4 hg4 b4)
          go_roundw
          case rel => exact ⟨j + 1, _, by go_num, by omega, by show MRi _ _ _ _ _ _ _ _ _ _ _ _ _ _ _ _; rw [HNX.out]; exact HA3.out.app _ HO4.out HG5.out⟩
          case measure => simp [intOf]; omega
        · have hje : j = K := by omega
          subst hje
          have hjj : ¬ (j : Int) < (j : Int) := by omega
          obtain ⟨zb, hzb⟩ : ∃ x, rdB c sl.1 sl.2 = x := ⟨_, rfl⟩
          have HZB := Lib.hid hzb
          have HRM := Lib.hid (rdMon_of HXA.out HXM.out HXT.out HXK.out HKE.out HRJ.out hzb)
          clear hzb
          go_upto_region 22 with (go_at_call 69; go_loud (refine (HGJ.out.byt hn).mono ?_); rintro e W8 ⟨rfl, hg8, -⟩; rw [HZB.out] at hg8 ⊢; have HG8 := Lib.hid hg8; clear hg8)
          obtain ⟨q1, hq1⟩ : ∃ q, decide (zb.1 = 1) = q := ⟨_, rfl⟩
          have HFS : Hid (formM (L ++ [(⟨xa.1, xm.1, xt.1, xk.1, xs, q1⟩, zb.1)]) = (bf && decide (zb.1 < 2))) := by show _ = _; rw [formM_snoc, HBF.out]
          have HMS2 : Hid (rdMany (rdMon c) (i + 1) s0 = (L ++ [(⟨xa.1, xm.1, xt.1, xk.1, xs, q1⟩, zb.1)], zb.2)) := by show _ = _; rw [HSN.out, HRM.out, hq1]
          have hje2 := HLR.out
          subst hje2
          have c9 : (W8.setCell ⟨y, 5, none⟩ (.bool q1)).heap[y]? = some (.cells #[.int .i64 xa.1, .int .i64 xm.1, .int .i64 xt.1, .int .i64 xk.1, .slice sa xs.length sc, .bool q1] 27 (0, 0)) := (heap_setCell_same W8 y 5 _ _ _ HG8.out.bx).trans rfl
          have C9 := box6_cells c9
          have f8 := (box_cell HG8.out.bx 5).2
          have z8 := (box_cell HG8.out.bx 5).1
          have hy8 : y < W8.heap.size := box_lt HG8.out.bx
          have hy9 : y < (W8.setCell ⟨y, 5, none⟩ (.bool q1)).heap.size := by simpa using hy8
          have HGY := Lib.hid HG8.out.gy
          have hqe : (zb.1 == 1) = q1 := hq1
          have HMZ : Hid ((List.zipWith Mon.hd (L.map Prod.fst) hs).length + 1 ≤ maxLen ∧ ((List.zipWith Mon.hd (L.map Prod.fst) hs).length + 1) * 64 ≤ 140737488355328) := by
            show _ ∧ _
            have := HLM.out
            unfold maxLen
            simp only [List.length_zipWith, List.length_map]
            omega
          have HOW := Lib.hid (HG8.out.outer HG4.out HYE.out q1 (.cells #[.int .i64 xa.1, .int .i64 xm.1, .int .i64 xt.1, .int .i64 xk.1, .slice sa xs.length sc, .bool q1] 27))
          clear hq1
          by_cases hz2 : zb.1 < 2
          case pos =>
            have hz1 : ¬ (1 < zb.1) := by omega
            go_upto_region 25 with fail
            clear z8 f8 hqe hz1
            obtain ⟨W9, hW9⟩ : ∃ W9, W8.setCell ⟨y, 5, none⟩ (.bool q1) = W9 := ⟨_, rfl⟩
            rw [hW9] at c9 C9 hy9 HOW ⊢
            have HW9 := Lib.hid hW9
            clear hW9 c9
            obtain ⟨c10, c11, c12, c13, c14, c15⟩ := C9
            go_wp2_with (at_builtin; go_loud (refine wpList_app eltMonth rfl (.tmp 67) (.tmp 69) rfl (base := g + 1) _ (List.zipWith Mon.hd (L.map Prod.fst) hs) rfl HOW.out _ 1 1 [(⟨xa.1, xm.1, xt.1, xk.1, xs, q1⟩ : Mon).hd ⟨sa, xs.length, sc⟩] rfl (sl_new (c := MH.cod) _ #[.int .i64 xa.1, .int .i64 xm.1, .int .i64 xt.1, .int .i64 xk.1, .slice sa xs.length sc, .bool q1] 27 [(⟨xa.1, xm.1, xt.1, xk.1, xs, q1⟩ : Mon).hd ⟨sa, xs.length, sc⟩] 1 rfl (by unfold maxLen; omega) rfl) HMZ.out.1 HMZ.out.2 (by have := HGY.out; simp; omega) ?_); intro v5 w5 hown5 hg5; have HO5 := Lib.hid hown5; have HG5 := Lib.hid hg5; clear hown5 hg5)
            have HE := HG5.out
            rw [← HW9.out] at HE
            go_roundw
            case rel => exact ⟨i + 1, _, by go_num, ⟨_, rfl, by show _ = _; rw [HMS2.out]; show _ = Value.bool (formM _); rw [HFS.out]; simp [hz2]⟩, by omega, by show MRo _ _ _ _ _ _ _ _ _ _ _; rw [HMS2.out, List.map_append]; exact HG8.out.push HG4.out HYE.out.symm q1 _ rfl HO5.out HE⟩
            case measure => simp [intOf]; omega
          case neg =>
            have hz1 : 1 < zb.1 := by omega
            go_upto_region 25 with fail
            clear z8 f8 hqe hz1
            obtain ⟨W9, hW9⟩ : ∃ W9, W8.setCell ⟨y, 5, none⟩ (.bool q1) = W9 := ⟨_, rfl⟩
            rw [hW9] at c9 C9 hy9 HOW ⊢
            have HW9 := Lib.hid hW9
            clear hW9 c9
            obtain ⟨c10, c11, c12, c13, c14, c15⟩ := C9
            go_wp2_with (at_builtin; go_loud (refine wpList_app eltMonth rfl (.tmp 67) (.tmp 69) rfl (base := g + 1) _ (List.zipWith Mon.hd (L.map Prod.fst) hs) rfl HOW.out _ 1 1 [(⟨xa.1, xm.1, xt.1, xk.1, xs, q1⟩ : Mon).hd ⟨sa, xs.length, sc⟩] rfl (sl_new (c := MH.cod) _ #[.int .i64 xa.1, .int .i64 xm.1, .int .i64 xt.1, .int .i64 xk.1, .slice sa xs.length sc, .bool q1] 27 [(⟨xa.1, xm.1, xt.1, xk.1, xs, q1⟩ : Mon).hd ⟨sa, xs.length, sc⟩] 1 rfl (by unfold maxLen; omega) rfl) HMZ.out.1 HMZ.out.2 (by have := HGY.out; simp; omega) ?_); intro v5 w5 hown5 hg5; have HO5 := Lib.hid hown5; have HG5 := Lib.hid hg5; clear hown5 hg5)
            have HE := HG5.out
            rw [← HW9.out] at HE
            go_roundw
            case rel => exact ⟨i + 1, _, by go_num, ⟨_, rfl, by show _ = _; rw [HMS2.out]; show _ = Value.bool (formM _); rw [HFS.out]; simp [hz2]⟩, by omega, by show MRo _ _ _ _ _ _ _ _ _ _ _; rw [HMS2.out, List.map_append]; exact HG8.out.push HG4.out HYE.out.symm q1 _ rfl HO5.out HE⟩
            case measure => simp [intOf]; omega
    · have hie : i = N := by omega
      subst hie
      have hii : ¬ (i : Int) < (i : Int) := by omega
      obtain ⟨d, hde⟩ : ∃ d, doneE c st.1 st.2 = d := ⟨_, rfl⟩
      have HD := Lib.hid hde
      have HVL : Hid (vn = c.length) := HLN
      have HRL : Hid (rdMons c = (L, st)) := HMS.out.trans HRI.out
      clear hde
      go_upto_if 73 with (go_at_call 70; go_loud (refine (rrdone_any g va vn vc st.1 st.2 c wr HGI.out.rd HVL.out hn).mono ?_); rintro e W1 ⟨rfl, hb1⟩; rw [HD.out]; have HB1 := Lib.hid hb1; have HRD1 := Lib.hid (box_below HGI.out.rd hb1); clear hb1)
      have HMI := Lib.hid HGI.out.turn
      obtain ⟨a, cc, hov, hmi⟩ := HMI.out
      subst hov
      have HM1 := Lib.hid (hmi.below HB1.out)
      have HBW : Hid (Below w.heap.size w W1) := by
        have := HGI.out.bl
        rw [← HGE.out] at this
        exact this.trans (HB1.out.mono this.size)
      clear hmi HMI
      by_cases hd0 : d = 0
      case neg =>
        have hdd : (d != 0) = true := by simpa using hd0
        have HR := Lib.hid (take_done HRL.out (by rw [HD.out]; exact hd0))
        go_wp2_with (go_at_call 70; go_loud (refine (rrdone_any g va vn vc st.1 st.2 c W1 HRD1.out HVL.out hn).mono ?_); rintro e W3 ⟨rfl, hb3⟩; rw [HD.out]; have HB3 := Lib.hid (HBW.out.trans (hb3.mono HBW.out.size)); clear hb3)
        go_ret2
        rw [HR.out.1, HR.out.2, HD.out]
        exact ⟨_, rfl, ⟨none, 0, [], rfl, MonIn.nil _⟩, HB3.out⟩
      subst hd0
      cases bf with
      | false =>
        have HR := Lib.hid (take_form HRL.out HD.out HBF.out)
        go_wp2_with fail
        go_ret2
        rw [HR.out.1, HR.out.2]
        exact ⟨_, rfl, ⟨none, 0, [], rfl, MonIn.nil _⟩, HBW.out⟩
      | true =>
        have hll : (L.map Prod.fst).length ≤ 1000000 := by rw [List.length_map, HLM.out]; omega
        have hsm : ∀ m ∈ L.map Prod.fst, m.rides.length ≤ 1000000 := fun m hm => Nat.le_trans (HSM.out m hm).1 (by decide)
        have HTB := Lib.hid (fun h => take_bad HRL.out HD.out HBF.out h)
        have HTG := Lib.hid (fun h => take_good HRL.out HD.out HBF.out h)
        obtain ⟨M2, hM2⟩ : ∃ x, L.map Prod.fst = x := ⟨_, rfl⟩
        rw [hM2] at hll hsm HTB HTG HM1 ⊢
        have HRC := Lib.hid (rmright_any a M2.length cc hs M2 W1 hll hsm HM1.out)
        obtain ⟨n2, hn2⟩ : ∃ x, M2.length = x := ⟨_, rfl⟩
        have HN2 := Lib.hid hn2
        rw [hn2] at HRC HM1 ⊢
        obtain ⟨p, hp⟩ : ∃ p, decide (RightM M2) = p := ⟨_, rfl⟩
        have HP := Lib.hid hp
        rw [hp] at HRC
        clear hp hM2 hll hsm hn2 HGI
        cases p with
        | false =>
          go_wp2_with (go_at_call 10; go_loud (refine HRC.out.mono ?_); rintro e W2 ⟨rfl, hb2⟩; have HB2 := Lib.hid (HBW.out.trans (hb2.mono HBW.out.size)); clear hb2)
          go_ret2
          have HR := HTB.out (of_decide_eq_false HP.out)
          rw [HR.1, HR.2]
          exact ⟨_, rfl, ⟨none, 0, [], rfl, MonIn.nil _⟩, HB2.out⟩
        | true =>
          go_wp2_with (go_at_call 10; go_loud (refine HRC.out.mono ?_); rintro e W2 ⟨rfl, hb2⟩; have HB2 := Lib.hid (HBW.out.trans (hb2.mono HBW.out.size)); have HM2 := Lib.hid (HM1.out.below hb2); clear hb2)
          go_ret2
          have HR := HTG.out (of_decide_eq_true HP.out)
          rw [HR.1, HR.2]
          have h2 := HN2.out
          subst h2
          exact ⟨_, rfl, ⟨a, cc, hs, rfl, HM2.out⟩, HB2.out⟩
end Go.Proofs.Ytbdkhgenkekioaa
