/- Disputes: what it makes, if a ride was another one; a number in parts. -/
import Derived.Test.YtgdhlhjflbinmaaDiC
namespace Go.Proofs.Ytgdhlhjflbinmaa
open Go.RowKit Go.V Go.Sort Go.Shelf Go.Proofs Go.Maps

theorem repR_in {l : List Ride} {x : Ride} : (repR l x).length ≤ l.length ∧ ((∀ r ∈ l, Ride.ok r) → Ride.ok x → ∀ r ∈ repR l x, Ride.ok r) := by
  unfold repR
  split
  · refine ⟨by rw [List.length_set]; exact Nat.le_refl _, fun h hx r hr => ?_⟩
    rcases List.mem_or_eq_of_mem_set hr with h1 | h1
    · exact h r h1
    · rw [h1]; exact hx
  · exact ⟨by simp, fun _ _ r hr => by simp at hr⟩

set_option maxHeartbeats 4000000 in
theorem delta_any (t : Tar) (hb hs hr : Hdr) (c : Int) (a : Option Addr) (n cap : Nat) (xs : List Ride) (x : Ride) (w : World) (hm : hb.n ≤ 1000000 ∧ hs.n ≤ 1000000 ∧ hr.n ≤ 1000000) (hn : n ≤ 100000) (hok : ∀ r ∈ xs, Ride.ok r) (hxo : Ride.ok x) (h : TarIn w t hb hs hr) (hx : Sl Ride.cod w a n cap xs) :
    Calls Try.prog 13 #[t.val hb hs hr, .int .i64 c, .slice a n cap, x.val] w fun e w' => e = .returned (.tuple #[.int .i64 (delV t c xs x), .int .i64 (delE t c xs x)]) ∧ Below w.heap.size w w' := by
  have TB0 : Hid (TarBox 26 ((w.alloc (t.box hb hs hr)).alloc (.cells #[.int .i64 x.t, .int .i64 x.s, .int .i64 x.e, .int .i64 x.f] 29)) w.heap.size t hb hs hr) := box_alloc (box_new _ _)
  have B0 : Hid (Below w.heap.size w ((w.alloc (t.box hb hs hr)).alloc (.cells #[.int .i64 x.t, .int .i64 x.s, .int .i64 x.e, .int .i64 x.f] 29))) := ((Below.refl _ _).alloc (Nat.le_refl _) _).alloc (by simp) _
  obtain ⟨E, hE⟩ : ∃ E, repE xs x = E := ⟨_, rfl⟩
  have HE := Lib.hid hE
  have HL := Lib.hid hx.hlen
  have hV : delE t c xs x = (if E = 0 then betE t c xs (repR xs x) else E) ∧ delV t c xs x = (if E = 0 then betV t c xs (repR xs x) else 0) := by
    unfold delE delV; rw [hE]; exact ⟨rfl, rfl⟩
  clear hE
  unfold Tar.box at TB0 B0
  unfold Tar.val Ride.val
  go_enter Try.func13, Try.ntmps13
  by_cases e0 : E = 0
  case neg =>
    have e1 : (E == 0) = false := by simp; exact e0
    rw [if_neg e0, if_neg e0] at hV
    have HV := Lib.hid hV
    clear hV
    go_wp2_with (go_at_call 6; refine (replace_any a n cap xs x _ (by omega) hok hxo (hx.below B0.out)).mono ?_; rintro e w1 ⟨v, rfl, ho, hb1⟩; rw [HE.out]; obtain ⟨a1, c1, rfl, -⟩ := ho.slice; have HB1 : Hid (Below w.heap.size w w1) := B0.out.trans (hb1.mono B0.out.size); clear hb1 ho)
    go_ret2
    exact ⟨by rw [HV.out.1, HV.out.2]; rfl, HB1.out⟩
  case pos =>
    subst e0
    rw [if_pos rfl, if_pos rfl] at hV
    have HV := Lib.hid hV
    obtain ⟨q1, q2⟩ := repR_in (l := xs) (x := x)
    have q3 := q2 hok hxo
    have q4 : (repR xs x).length ≤ 100000 := by have := HL.out; omega
    obtain ⟨ys, hys⟩ : ∃ ys, repR xs x = ys := ⟨_, rfl⟩
    have HY := Lib.hid hys
    rw [hys] at q3 q4
    clear hV q1 q2 hys
    go_wp2_with (first
      | (go_at_call 6; refine (replace_any a n cap xs x _ (by omega) hok hxo (hx.below B0.out)).mono ?_; rintro e w1 ⟨v, rfl, ho, hb1⟩; rw [HE.out]; rw [HY.out] at ho; obtain ⟨a1, c1, rfl, hs1, -⟩ := ho.slice; have HS1 := Lib.hid hs1; have HB1 : Hid (Below w.heap.size w w1) := B0.out.trans (hb1.mono B0.out.size); have TB1 : Hid (TarBox 26 w1 w.heap.size t hb hs hr) := TB0.out.below hb1; obtain ⟨kk, k0, k1, k2, k3, k4, k5, k6, k7, k8⟩ := TB1.out.cells; clear hb1 ho hs1)
      | (go_at_call 11; refine (between_any t hb hs hr c a n cap xs a1 ys.length c1 ys _ hm hn q4 hok q3 (h.below HB1.out) (hx.below HB1.out) HS1.out).mono ?_; rintro e w2 ⟨rfl, hb2⟩; have HB2 := Lib.hid (HB1.out.trans (hb2.mono HB1.out.size)); clear hb2))
    go_ret2
    exact ⟨by rw [HV.out.1, HV.out.2, HY.out]; rfl, HB2.out⟩

/-! ### A number in parts -/
def splitL (p : Int) (n : Nat) : List Int := (List.range n).map fun k : Nat => p / (n : Int) + (if (k : Int) < p % (n : Int) then 1 else 0)
theorem splitL_len (p : Int) (n : Nat) : (splitL p n).length = n := by simp [splitL]
theorem splitL_at (p : Int) (n k : Nat) (hk : k < n) : (splitL p n)[k]? = some (p / (n : Int) + (if (k : Int) < p % (n : Int) then 1 else 0)) := by simp [splitL, hk]

/-- The first k are laid, the others are 0. -/
def laidL (f : Nat → Int) (k n : Nat) : List Int := (List.range k).map f ++ List.replicate (n - k) 0
theorem laidL_zero (f : Nat → Int) (n : Nat) : laidL f 0 n = List.replicate n 0 := by simp [laidL]
theorem laidL_len (f : Nat → Int) {k n : Nat} (h : k ≤ n) : (laidL f k n).length = n := by simp [laidL]; omega
theorem laidL_full (f : Nat → Int) (n : Nat) : laidL f n n = (List.range n).map f := by simp [laidL]
theorem laidL_step (f : Nat → Int) {k n : Nat} (h : k < n) : (laidL f k n).set k (f k) = laidL f (k + 1) n := by
  unfold laidL
  rw [List.set_append_right _ _ (by simp), List.range_succ, List.map_append, List.append_assoc]
  simp
  obtain ⟨m, hm⟩ : ∃ m, n - k = m + 1 := ⟨n - k - 1, by omega⟩
  rw [hm, show n - (k + 1) = m by omega]
  simp [List.replicate_succ]
theorem laidL_at (f : Nat → Int) {k n i : Nat} (h : i < n) : (laidL f k n)[i]? = some (if i < k then f i else 0) := by
  unfold laidL
  by_cases hi : i < k
  · rw [List.getElem?_append_left (by simp; exact hi), if_pos hi]; simp [hi]
  · rw [List.getElem?_append_right (by simp; omega), if_neg hi]; simp [List.getElem?_replicate]; omega
theorem iown_cell {base : Nat} {w : World} {g n cap : Nat} {xs : List Int} (h : V.Own 3 icod base w (.slice (some ⟨g, 0, none⟩) n cap) xs) (hn : n = xs.length) {k : Nat} {x : Int} (hk : xs[k]? = some x) : w.cell? ⟨g, k, none⟩ = some (.int .i64 x) ∧ w.frozen? ⟨g, k, none⟩ = false := by
  obtain ⟨a', cap', e, hsl, -⟩ := h.slice
  subst hn
  cases e
  obtain ⟨b, off, r', e2, hb, hr, c0⟩ := int_at hsl (List.getElem?_eq_some_iff.1 hk).1
  cases e2
  have := hk.symm.trans hr
  cases this
  rw [Nat.zero_add] at c0
  exact ⟨c0, iown_free h rfl _⟩

set_option maxHeartbeats 2000000 in
theorem rsplit_any (p : Int) (n : Nat) (w : World) (hp : 0 ≤ p ∧ p ≤ 281474976710656) (hn : 1 ≤ n ∧ n ≤ 2048) :
    Calls Try.prog 28 #[.int .i64 p, .int .i64 n] w fun e w' => ∃ g cap, e = .returned (.tuple #[.slice (some ⟨g, 0, none⟩) n cap, .int .i64 0]) ∧ V.Own 3 icod w.heap.size w' (.slice (some ⟨g, 0, none⟩) n cap) (splitL p n) ∧ Below w.heap.size w w' := by
  have w1 : wB p 0 281474976710656 = true := decide_eq_true hp
  have w2 : wB (n : Int) 1 2048 = true := decide_eq_true (by omega)
  have hmk := run_make_row' (P := Try.prog) 23 3 (.int .i64 0) 8 Try.underlying23 infoInt rfl .i64 .i64 n (by omega) (by omega)
  go_enter Try.func28, Try.ntmps28
  go_wp2_with (go_at_call 46; refine (rwithin_any _ _ _ _).mono ?_; rintro e w' ⟨rfl, rfl⟩; first | rw [w1] | rw [w2])
  have hB0 : Below w.heap.size w (w.alloc (.cells (madeCells #[.int .i64 0] n) 3)) := (Below.refl _ _).alloc (Nat.le_refl _) _
  obtain ⟨f, hf⟩ : ∃ f : Nat → Int, f = fun k : Nat => p / (n : Int) + (if (k : Int) < p % (n : Int) then 1 else 0) := ⟨_, rfl⟩
  have HFF := Lib.hid hf
  clear hf
  have q1 : p.tdiv (n : Int) = p / (n : Int) := Int.tdiv_eq_ediv_of_nonneg hp.1
  have q2 : p.tmod (n : Int) = p % (n : Int) := Int.tmod_eq_emod_of_nonneg hp.1
  have q3 : ((n : Int) == 0) = false := by simp; omega
  have q4 : ¬ (n : Int) = 0 := by omega
  have q5 : 0 ≤ p / (n : Int) ∧ p / (n : Int) ≤ p := ⟨Int.ediv_nonneg hp.1 (by omega), Int.ediv_le_self _ hp.1⟩
  obtain ⟨d, hd⟩ : ∃ d, p / (n : Int) = d := ⟨_, rfl⟩
  obtain ⟨m, hm⟩ : ∃ m, p % (n : Int) = m := ⟨_, rfl⟩
  rw [hd] at q1 q5
  rw [hm] at q2
  have HDM : Hid (p / (n : Int) = d ∧ p % (n : Int) = m) := ⟨hd, hm⟩
  clear hd hm
  have q6 : IntKind.i64.wrap d = d := by rw [IntKind.wrap_i64]; omega
  have q7 : IntKind.i64.wrap (d + 1) = d + 1 := by rw [IntKind.wrap_i64]; omega
  go_loopw [20] (fun i wr => ∃ k : Nat, i = .int .i64 k ∧ k ≤ n ∧ Hid (V.Own 3 icod w.heap.size wr (.slice (some ⟨w.heap.size, 0, none⟩) n n) (laidL f k n)) ∧ Hid (Below w.heap.size w wr)) (fun i _ => n - (intOf i).toNat)
  case atStart => exact ⟨0, rfl, by omega, by show V.Own _ _ _ _ _ _; rw [laidL_zero]; exact iown_made w n _ (Nat.le_refl _) (by unfold maxLen; omega), hB0⟩
  case round =>
    obtain ⟨k, rfl, hk, hO, hB⟩ := hrel
    by_cases hlt : k < n
    · obtain ⟨c0, f0⟩ := iown_cell hO.out (laidL_len f hk).symm (laidL_at f hlt)
      rw [if_neg (Nat.lt_irrefl k)] at c0
      obtain ⟨o1, g1⟩ := iown_set hO.out (laidL_len f hk).symm k d
      have b1 : (k : Int) < (n : Int) := by omega
      by_cases hkm : (k : Int) < m
      · have e1 : f k = d + 1 := by rw [HFF.out]; simp only [HDM.out.1, HDM.out.2]; rw [if_pos hkm]
        obtain ⟨o2, g2⟩ := iown_set o1 (by rw [List.length_set]; exact (laidL_len f hk).symm) k (d + 1)
        rw [List.set_set, ← e1, laidL_step f hlt] at o2
        rw [← e1] at g2
        have O2 := Lib.hid o2
        have G2 : Hid (wr.grownBy _ (some w.heap.size)) := g1.trans g2
        rw [e1] at O2 G2
        clear o1 o2 g1 g2 e1
        go_wp2_with fail
        go_roundw
        case rel => exact ⟨k + 1, by go_num, by omega, O2.out, hB.out.grown G2.out hB.out.size (fun j hj => by cases hj; exact Nat.le_refl _)⟩
        case measure => simp [intOf]; omega
      · have e1 : f k = d := by rw [HFF.out]; simp only [HDM.out.1, HDM.out.2]; rw [if_neg hkm, Int.add_zero]
        rw [← e1, laidL_step f hlt] at o1
        have O1 := Lib.hid o1
        have G1 := Lib.hid g1
        rw [e1] at O1
        clear o1 g1 e1
        go_wp2_with fail
        go_roundw
        case rel => exact ⟨k + 1, by go_num, by omega, O1.out, hB.out.grown G1.out hB.out.size (fun j hj => by cases hj; exact Nat.le_refl _)⟩
        case measure => simp [intOf]; omega
    · have hk' : k = n := by omega
      subst hk'
      go_wp2_with fail
      go_ret2
      refine ⟨_, _, rfl, ?_, hB.out⟩
      have := hO.out
      rw [laidL_full] at this
      have e : splitL p k = (List.range k).map f := by rw [HFF.out]; rfl
      rw [e]; exact this
end Go.Proofs.Ytgdhlhjflbinmaa
