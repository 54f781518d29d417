/- Networks: slices.Repeat of one number, walked. -/
/- Networks: the distances from a stop, walked: the nearest stop first. -/
import Derived.Test.YtlfbbahihenilaaGreatMg16
import Derived.Laws.CopyOwn
import Derived.Laws.BitsLemmas
import Derived.Test.YtlfbbahihenilaaGreatMg14
import Derived.Test.YtlfbbahihenilaaGreatMhNeL
namespace Go.Proofs.YtlfbbahihenilaaGreat.Ne
open Go.RowKit Go.V Go.Proofs Go.Sort

theorem u64_63 (n : Int) (h₀ : 0 ≤ n) (h₁ : n < 2 ^ 63) : IntKind.u64.wrap n = n := by rw [IntKind.wrap_u64]; omega
theorem low32 (k : Nat) (hk : k ≤ 4096) : bits .and .u64 (k : Int) 4294967295 = (k : Int) := by
  have h := bits_mask .u64 63 (by decide) u64_63 32 (by decide) (k : Int) (by omega) (by omega)
  have e : ((2 : Int) ^ 32 - 1) = 4294967295 := by decide
  have e2 : ((2 : Int) ^ 32) = 4294967296 := by decide
  rw [e, e2] at h
  rw [h]
  omega

set_option maxHeartbeats 1000000 in
theorem mul64_any (k : Nat) (hk : k ≤ 4096) (w : World) : Calls Tryz.prog 148 #[.int .u64 1, .int .u64 k] w fun e w' => e = .returned (.tuple #[.int .u64 0, .int .u64 k]) ∧ w = w' := by
  have b0 : bits .and .u64 0 4294967295 = 0 := by decide
  have b1 : bits .and .u64 1 4294967295 = 1 := by decide
  have bk := low32 k hk
  have d1 : (k : Int) / 4294967296 = 0 := by omega
  go_enter Tryz.func148, Tryz.ntmps148
  go_wp2
  go_ret2
  exact ⟨rfl, rfl⟩

set_option maxHeartbeats 1000000 in
theorem mul_any (k : Nat) (hk : k ≤ 4096) (w : World) : Calls Tryz.prog 143 #[.int .u64 1, .int .u64 k] w fun e w' => e = .returned (.tuple #[.int .u64 0, .int .u64 k]) ∧ w = w' := by
  go_enter Tryz.func143, Tryz.ntmps143
  go_wp2_with (go_at_call 148; refine (mul64_any k hk _).mono ?_; rintro e w1 ⟨rfl, rfl⟩)
  go_ret2
  exact ⟨rfl, rfl⟩

/-- The first n are X, the others 0. -/
def rep (X : Value) (n k : Nat) : List Value := List.replicate n X ++ List.replicate (k - n) (.int .i64 0)
theorem rep_len (X : Value) {n k : Nat} (h : n ≤ k) : (rep X n k).length = k := by simp [rep]; omega
theorem rep_splice (X : Value) (n k c : Nat) : splice (rep X n k) n (List.replicate c X) = rep X (n + c) k := by
  unfold splice rep
  have e1 : (List.replicate n X ++ List.replicate (k - n) (Value.int .i64 0)).take n = List.replicate n X := by
    rw [List.take_append_of_le_length (by simp)]; exact List.take_of_length_le (by simp)
  have e2 : (List.replicate n X ++ List.replicate (k - n) (Value.int .i64 0)).drop (n + (List.replicate c X).length) = List.replicate (k - (n + c)) (.int .i64 0) := by
    rw [List.drop_append]
    simp
    omega
  rw [e1, e2, ← List.append_assoc, List.replicate_append_replicate]
theorem rep_at (X : Value) {n k j : Nat} (h : j < n) : (rep X n k)[j]? = some X := by
  unfold rep
  rw [List.getElem?_append_left (by simpa using h)]
  simp [h]
theorem copy_run {P : Program} (w : World) (T ty elem : TypeId) (g o dLen dCap : Nat) (a : Addr) (sLen sCap : Nat) (cur : List Value) (t : TypeId) (cs : List Value) (c : Nat)
    (hu : P.underlying T = some (.slice elem)) (hs : (P.info? elem).map (·.size) = some 1)
    (hg : w.heap[g]? = some (.cells cur.toArray t (0, 0))) (hc : cs.length = c) (hn : c = Nat.min sLen dLen)
    (hsrc : ∀ j v, cs[j]? = some v → w.cell? (a.add j) = some v) (hfit : o + c ≤ cur.length) (h1 : ∀ v ∈ cs, v.oneCell' = true) {B : Nat} {w0 : World} (hb : Below B w0 w) (hB : B ≤ g) :
    ∃ w', (Builtin.copy_ #[T, T] ty #[.slice (some ⟨g, o, none⟩) dLen dCap, .slice (some a) sLen sCap]).run P w = .ok (.int .i64 c) w' ∧ w'.heap[g]? = some (.cells (splice cur o cs).toArray t (0, 0)) ∧ Below B w0 w' := by
  subst hc
  refine ⟨_, run_copy_row (P := P) w T T ty elem g o dLen dCap a sLen sCap cur.toArray t cs hu hs hg hn hsrc (by simpa using hfit) h1, ?_, below_setRow hb hB _⟩
  simpa [splice] using setRow_heap w g _ _ t _ hg
theorem infoI : (Tryz.prog.info? 3).map (fun i => (i.zero, i.size, i.bytes)) = some (some (.int .i64 0), 1, 8) := by kernel_rfl
theorem sizeI : (Tryz.prog.info? 3).map (·.size) = some 1 := by kernel_rfl
theorem rep_own {w : World} {B o n k : Nat} {x : Int} (h : w.heap[o]? = some (.cells (rep (.int .i64 x) n k).toArray 3 (0, 0))) (hb : B ≤ o) (hn : n = k) (hk : k ≤ 4096) : V.Own 3 icod B w (.slice (some ⟨o, 0, none⟩) k k) (List.replicate k x) := by
  subst hn
  have hf : ∀ m : Nat, (List.replicate m x).flatMap icod.enc = List.replicate m (Value.int .i64 x) := by
    intro m
    induction m with
    | zero => rfl
    | succ m ih => rw [List.replicate_succ, List.flatMap_cons, ih]; rfl
  refine ⟨?_, .inr ⟨o, n, _, ?_, hb, h, ?_, ?_, ?_, ?_⟩⟩
  · rw [hf]; simp [icod]
  · simp
  · simp
  · unfold maxLen; omega
  · simp [rep, icod]
  · rw [hf]; simp [rep, icod]

set_option maxHeartbeats 2000000 in
set_option maxRecDepth 100000 in
theorem repeat_any (w : World) (g k : Nat) (x : Int) (hx : w.cell? ⟨g, 0, none⟩ = some (.int .i64 x)) (h1 : 1 ≤ k) (hk : k ≤ 4096) :
    Calls Tryz.prog 132 #[.slice (some ⟨g, 0, none⟩) 1 1, .int .i64 k] w fun e w' => ∃ o, e = .returned (.slice (some ⟨o, 0, none⟩) k k) ∧ V.Own 3 icod w.heap.size w' (.slice (some ⟨o, 0, none⟩) k k) (List.replicate k x) ∧ Below w.heap.size w w' := by
  have hmk := run_make_row' (P := Tryz.prog) 35 3 (.int .i64 0) 8 Tryz.underlying35 infoI rfl .i64 .i64 k (by omega) (by omega)
  have mixed : Tryz.prog.follows .mixedOrders = true := by kernel_rfl
  have q1 : decide ((k : Int) < 0) = false := by simp
  have q2 : decide ((9223372036854775807 : Int) < (k : Int)) = false := by simp; omega
  have hgw := World.block_lt_of_cell? w _ hx
  have HR0 : Hid ((w.alloc (.cells (madeCells #[.int .i64 0] k) 3)).heap[w.heap.size]? = some (.cells (rep (.int .i64 x) 0 k).toArray 3 (0, 0))) := by
    show _ = _
    rw [heap_alloc_new]
    have : (rep (.int .i64 x) 0 k).toArray = madeCells #[.int .i64 0] k := by unfold rep; rw [List.replicate_zero, List.nil_append, Nat.sub_zero, ← toList_madeCells_one]
    rw [this]
  have HB0 : Hid (Below w.heap.size w (w.alloc (.cells (madeCells #[.int .i64 0] k) 3))) := (Below.refl _ _).alloc (Nat.le_refl _) _
  have HX := Lib.hid hx
  go_enter Tryz.func132, Tryz.ntmps132
  go_upto_region 7 with (go_at_call 143; refine (mul_any k hk _).mono ?_; rintro e w1 ⟨rfl, rfl⟩)
  obtain ⟨o, ho⟩ : ∃ o, w.heap.size = o := ⟨_, rfl⟩
  obtain ⟨W, hW⟩ : ∃ W, w.alloc (.cells (madeCells #[.int .i64 0] k) 3) = W := ⟨_, rfl⟩
  have HX1 : Hid (W.cell? ⟨g, 0, none⟩ = some (.int .i64 x)) := by show _ = _; rw [← hW]; exact (HB0.out.cell (p := ⟨g, 0, none⟩) hgw).trans HX.out
  rw [hW] at HR0 HB0 ⊢
  rw [ho] at HR0 HB0 ⊢
  have HO := Lib.hid ho
  clear hW ho hmk hx q2 HX hgw q1
  obtain ⟨X, hX⟩ : ∃ X : Value, X = .int .i64 x := ⟨_, rfl⟩
  have HXX := Lib.hid hX
  rw [← hX] at HR0 HX1
  have HONE : Hid (X.oneCell' = true) := by show _ = _; rw [hX]; rfl
  clear hX
  obtain ⟨w1, hcp, hg1, hb1⟩ := copy_run (P := Tryz.prog) W 35 3 3 o 0 k k ⟨g, 0, none⟩ 1 1 (rep X 0 k) 3 [X] 1 Tryz.underlying35 sizeI HR0.out rfl (Nat.min_eq_left h1).symm (fun j v hv => (by cases j with | zero => (simp at hv; subst hv; exact HX1.out) | succ j => simp at hv)) (by rw [rep_len X (Nat.zero_le k)]; exact h1) (fun v hv => by simp at hv; subst hv; exact HONE.out) HB0.out (Nat.le_refl _)
  have HB1 := Lib.hid hb1
  have HG1 := Lib.hid hg1
  clear hb1 hg1
  go_wp2_with fail
  clear hcp
  have HR1 : Hid (w1.heap[o]? = some (.cells (rep X 1 k).toArray 3 (0, 0))) := by
    have := HG1.out
    rw [show [X] = List.replicate 1 X from rfl, rep_splice X 0 k 1] at this
    exact this
  clear HG1 HR0 HB0 HX1
  go_loopw [8] (fun i wr => ∃ n : Nat, i = .int .i64 n ∧ 1 ≤ n ∧ n ≤ k ∧ Hid (wr.heap[o]? = some (.cells (rep X n k).toArray 3 (0, 0))) ∧ Hid (Below o w wr)) (fun i _ => k - (intOf i).toNat)
  case atStart => exact ⟨1, by go_num, by omega, h1, HR1.out, HB1.out⟩
  case round =>
    obtain ⟨n, rfl, hn1, hnk, HR, HB⟩ := hrel
    by_cases hlt : n < k
    · obtain ⟨c, hc⟩ : ∃ c, c = Nat.min n (k - n) := ⟨_, rfl⟩
      have HCM := Lib.hid hc
      have hc1 : 1 ≤ c ∧ c ≤ n ∧ n + c ≤ k := by rw [hc]; show 1 ≤ min n (k - n) ∧ min n (k - n) ≤ n ∧ n + min n (k - n) ≤ k; omega
      obtain ⟨hc2, hc3, hc4⟩ := hc1
      clear hc
      have HLC : Hid ((List.replicate c X).length = c) := List.length_replicate
      have b1 : (n : Int) ≤ (k : Int) := by omega
      have b2 : (0 : Int) ≤ (n : Int) := by omega
      have b3 : (n : Int) < (k : Int) := by omega
      obtain ⟨w4, hcp, hg4, hb4⟩ := copy_run (P := Tryz.prog) wr.drew 35 3 3 o n (k - n) (k - n) ⟨o, 0, none⟩ n k (rep X n k) 3 (List.replicate c X) c Tryz.underlying35 sizeI HR.out HLC.out HCM.out (fun j v hv => (by
        have hj : j < c := by have := (List.getElem?_eq_some_iff.1 hv).1; rwa [HLC.out] at this
        have hv2 : v = X := by rw [List.getElem?_replicate, if_pos hj] at hv; exact (Option.some.inj hv).symm
        have hr := HR.out
        rw [add_addr, Nat.zero_add, hv2]
        show wr.cell? ⟨o, j, none⟩ = some X
        simp [World.cell?, hr, rep_at X (show j < n by omega)])) (by rw [rep_len X hnk]; exact hc4) (fun v hv => by rw [List.eq_of_mem_replicate hv]; exact HONE.out) (HB.out.trans (Below.drew (Below.refl _ _))) (Nat.le_refl _)
      rw [rep_splice X n k c] at hg4
      have HG4 := Lib.hid hg4
      have HB4 := Lib.hid hb4
      clear hg4 hb4
      go_upto_region 9 with fail
      go_region
      all_goals
        go_wp2_with fail
        go_roundw
        case rel => exact ⟨n + c, by go_num, by omega, by omega, HG4.out, HB4.out⟩
        case measure => simp [intOf]; omega
    · have hnk2 : n = k := by omega
      go_wp2_with fail
      go_ret
      exact ⟨o, rfl, rep_own (by rw [← HXX.out]; exact HR.out) (Nat.le_of_eq HO.out) hnk2 hk, by rw [HO.out]; exact HB.out⟩
end Go.Proofs.YtlfbbahihenilaaGreat.Ne

namespace Go.Proofs.YtlfbbahihenilaaGreat.Ne
open Go.RowKit Go.V Go.Proofs Go.Sort

set_option maxHeartbeats 400000 in
theorem pis_any (n : Net) (hs hl : Hdr) (s : Int) (w : World) : Calls Tryz.prog 130 #[n.val hs hl, .int .i64 s] w fun e w' => e = .returned (.bool (decide (0 ≤ s ∧ s < hs.n))) ∧ Below w.heap.size w w' := by
  have HX := Lib.hid (box_new w (n.box hs hl))
  obtain ⟨c0, c1, c2, -, -, -⟩ := box3_cells HX.out
  have hB : Below w.heap.size w (w.alloc (n.box hs hl)) := (Below.refl _ _).alloc (Nat.le_refl _) _
  by_cases h1 : 0 ≤ s
  · by_cases h2 : s < hs.n
    · go_enter Tryz.func130, Tryz.ntmps130
      go_wp2
      go_ret
      exact ⟨by simp [h1, h2], hB⟩
    · have h3 : decide (s < (hs.n : Int)) = false := by simpa using h2
      go_enter Tryz.func130, Tryz.ntmps130
      go_wp2
      go_ret
      exact ⟨by simp, hB⟩
  · have h3 : decide (0 ≤ s) = false := by simpa using h1
    go_enter Tryz.func130, Tryz.ntmps130
    go_wp2
    go_ret
    exact ⟨by simp, hB⟩

/-- What path.From tells. -/
def fromE (n : Net) (s : Int) : Int := if checkE n = 0 then (if 0 ≤ s ∧ s < n.stops.length then 0 else 2) else checkE n

set_option maxHeartbeats 8000000 in
set_option maxRecDepth 100000 in
theorem pfrom_any (n : Net) (hs hl : Hdr) (s : Int) (w : World) (hm : hs.n ≤ 1000000 ∧ hl.n ≤ 1000000) (h : NetIn w n hs hl) :
    Calls Tryz.prog 117 #[n.val hs hl, .int .i64 s] w fun e w' => Below w.heap.size w w' ∧ (fromE n s ≠ 0 → e = .returned (.tuple #[.slice none 0 0, .int .i64 (fromE n s)])) ∧
      (fromE n s = 0 → ∃ o cap, e = .returned (.tuple #[.slice (some ⟨o, 0, none⟩) hs.n cap, .int .i64 0]) ∧ V.Own 3 icod w.heap.size w' (.slice (some ⟨o, 0, none⟩) hs.n cap) (bf n.links n.stops.length s)) := by
  have HKN := Lib.hid h.s.hlen
  obtain ⟨sa, k, sc⟩ := hs
  obtain ⟨la, m, lc⟩ := hl
  have HH := Lib.hid h
  have HX := Lib.hid (box_new w (n.box ⟨sa, k, sc⟩ ⟨la, m, lc⟩))
  have HB0 : Hid (Below w.heap.size w (w.alloc (n.box ⟨sa, k, sc⟩ ⟨la, m, lc⟩))) := (Below.refl _ _).alloc (Nat.le_refl _) _
  have HM := Lib.hid hm
  obtain ⟨c0, c1, c2, -, -, -⟩ := box3_cells HX.out
  obtain ⟨ce, hce⟩ : ∃ ce, checkE n = ce := ⟨_, rfl⟩
  have HCE := Lib.hid hce
  have hce2 : ce = 0 ∨ ce = 2 ∨ ce = 3 := by
    rw [← hce]
    rcases check_cases n with ⟨q, -⟩ | ⟨-, ⟨-, q⟩ | ⟨-, q⟩⟩ <;> rw [q] <;> simp
  clear hce hm h
  go_enter Tryz.func117, Tryz.ntmps117
  go_upto_region 2 with (go_at_call 35; refine (check_any n ⟨sa, k, sc⟩ ⟨la, m, lc⟩ _ HM.out (HH.out.below HB0.out)).mono ?_; rintro e w1 ⟨rfl, hb1⟩; rw [HCE.out]; have HB1 := Lib.hid (HB0.out.trans (hb1.mono HB0.out.size)); have HX1 := Lib.hid (box_below HX.out hb1); clear hb1)
  clear c0 c1 c2 HX HB0
  obtain ⟨c0, c1, c2, -, -, -⟩ := box3_cells HX1.out
  by_cases he : ce = 0
  case neg =>
    have e0 : (ce == 0) = false := by simpa using he
    go_wp2_with fail
    go_ret2
    have hf : fromE n s = ce := by unfold fromE; rw [HCE.out, if_neg he]
    rw [hf]
    exact ⟨HB1.out, fun _ => rfl, fun q => absurd q he⟩
  case pos =>
    subst he
    clear hce2
    by_cases hs : 0 ≤ s ∧ s < (k : Int)
    case neg =>
      have HIB : Hid (decide (0 ≤ s ∧ s < (k : Int)) = false) := by show _ = _; exact decide_eq_false hs
      have hf : fromE n s = 2 := by unfold fromE; rw [HCE.out, if_pos rfl, if_neg (by rw [← HKN.out]; exact hs)]
      have HFE := Lib.hid hf
      clear hf hs
      go_wp2_with (go_at_call 130; refine (pis_any n ⟨sa, k, sc⟩ ⟨la, m, lc⟩ s _).mono ?_; rintro e w2 ⟨rfl, hb2⟩; rw [HIB.out]; have HB2 := Lib.hid (HB1.out.trans (hb2.mono HB1.out.size)); clear hb2)
      go_ret2
      rw [HFE.out]
      exact ⟨HB2.out, fun _ => rfl, fun q => absurd q (by decide)⟩
    case pos =>
      have HIB : Hid (decide (0 ≤ s ∧ s < (k : Int)) = true) := by show _ = _; exact decide_eq_true hs
      have hpos : 0 < k := by omega
      obtain ⟨kk1, kk2, -, -, kk5, -⟩ := check_ok HCE.out
      have hk4 : k ≤ 4096 := by have e : k = n.stops.length := HKN.out; omega
      have HLO : Hid (LinksOk n.links k) := by have e : k = n.stops.length := HKN.out; show LinksOk _ _; rw [e]; exact kk5
      have HL4 := Lib.hid kk2
      clear kk1 kk2 kk5
      go_upto_region 7 with (first
        | (go_at_call 130; refine (pis_any n ⟨sa, k, sc⟩ ⟨la, m, lc⟩ s _).mono ?_; rintro e w2 ⟨rfl, hb2⟩; rw [HIB.out]; have HB2 := Lib.hid (HB1.out.trans (hb2.mono HB1.out.size)); have HX2 := Lib.hid (box_below HX1.out hb2); obtain ⟨d0, d1, d2, -, -, -⟩ := box3_cells HX2.out; clear hb2)
        | (go_at_call 131; refine (links_any _ n ⟨sa, k, sc⟩ ⟨la, m, lc⟩ (HH.out.below HB2.out) HCE.out hpos).mono ?_; rintro e W ⟨ab, rfl, had, hb3⟩; have HAD := Lib.hid had; have HBW := Lib.hid (HB2.out.trans (hb3.mono HB2.out.size)); have HXW := Lib.hid (box_below HX2.out hb3); clear hb3 had))
      clear c0 c1 c2 d0 d1 d2 HX1 HB1 HX2 HB2
      obtain ⟨c0, c1, c2, -, -, -⟩ := box3_cells HXW.out
      have hxw := box_lt HXW.out
      go_upto_region 8 with (go_at_call 132; go_loud (refine (repeat_any _ _ k (-1) (by simp) hpos hk4).mono ?_); rintro e w3 ⟨o, rfl, ho, hb3⟩; have HO : Hid (V.Own 3 icod W.heap.size w3 (.slice (some ⟨o, 0, none⟩) k k) (List.replicate k (-1))) := ho.lower (by simp); have HB3 : Hid (Below W.heap.size W w3) := ((Below.refl _ _).alloc (Nat.le_refl _) _).trans (hb3.mono (by simp)); clear ho hb3)
      have HFS0 : Hid (FS W (w3.alloc (.cells #[lessV, .slice none 0 0] 224)) o k w3.heap.size k (.slice none 0 0) (List.replicate k (-1)) []) :=
        ⟨HB3.out.alloc HB3.out.size _, HO.out.alloc _, ⟨box_new _ _, Own.nil, HB3.out.size⟩, fun j _ hj => absurd hj (by simp), fun e => by have := (World.ownsRow.lt HO.out o rfl).2; omega, by simp [Value.ownBlock]⟩
      obtain ⟨g, hg⟩ : ∃ g, w3.heap.size = g := ⟨_, rfl⟩
      rw [hg] at HFS0
      go_upto_region 9 with (go_at_call 133; refine (hnew_any _).mono ?_; rintro e w4 ⟨rfl, rfl⟩)
      obtain ⟨w4, hw4⟩ : ∃ w4, w3.alloc (.cells #[lessV, .slice none 0 0] 224) = w4 := ⟨_, rfl⟩
      rw [hw4] at HFS0 ⊢
      clear hw4 hg c0 c1 c2 HB3 HO
      go_wp2_with (go_at_call 135; refine (hpush_any _ W.heap.size g (.slice none 0 0) [] ⟨s, 0⟩ HFS0.out.heap HFS0.out.ok (by simp)).mono ?_; rintro e w5 ⟨⟨u, rfl⟩, hp⟩; obtain ⟨v5, H5, hfs, hperm, -⟩ := HFS0.out.push hp; have HF5 := Lib.hid hfs; have HP5 := Lib.hid hperm; clear hp hfs hperm)
      have HD5 : Hid (DInv n.links k s (List.replicate k (-1)) H5) := (DInv.begin hs).perm HP5.out
      go_loopg [] (links n.links (List.replicate k (-1)) + 1) (fun kx wr => ∃ v out H, Hid (FS W wr o k g k v out H) ∧ Hid (DInv n.links k s out H) ∧ Hid (H.length + links n.links out ≤ kx) ∧ kx ≤ 200000000)
      case atStart => exact ⟨v5, _, H5, HF5.out, HD5.out, by show _ ≤ _; rw [HP5.out.length_eq]; simp; omega, by
        have e1 := links_le n.links (List.replicate k (-1))
        rw [List.length_replicate] at e1
        have e2 : k * (2 * n.links.length) ≤ 4096 * (2 * 16384) := Nat.mul_le_mul hk4 (Nat.mul_le_mul_left 2 HL4.out)
        omega⟩
      case round =>
        obtain ⟨v, out, H, HF, HD, HMX, hkx⟩ := hrel
        obtain ⟨va, vc, hv, -⟩ := HF.out.heap.own.slice
        obtain ⟨hn, hhn⟩ : ∃ hn, H.length = hn := ⟨_, rfl⟩
        rw [hhn] at hv
        subst hv
        have HHN := Lib.hid hhn
        have hn9 : hn ≤ 1000000000 := by have := HMX.out; omega
        clear hhn
        by_cases h0 : hn = 0
        · --<<
          subst h0
          have hnil : H = [] := List.eq_nil_of_length_eq_zero HHN.out
          have hfin : out = bf n.links k s := by
            have hd := HD.out
            rw [hnil] at hd
            exact hd.final HLO.out hs
          have HFIN := Lib.hid hfin
          clear hnil hfin
          go_wp2_with (go_at_call 136; refine (hlen_any _ W.heap.size g va 0 vc H HF.out.heap).mono ?_; rintro e w6 ⟨rfl, rfl⟩)
          go_ret2
          have hf : fromE n s = 0 := by unfold fromE; rw [HCE.out, if_pos rfl, if_pos (by rw [← HKN.out]; exact hs)]
          refine ⟨HBW.out.trans (HF.out.ge.mono HBW.out.size), fun q => absurd hf q, fun _ => ⟨o, k, rfl, ?_⟩⟩
          have e : k = n.stops.length := HKN.out
          rw [← e, ← HFIN.out]
          exact HF.out.out.lower HBW.out.size
          -->>
        · have h1 : 1 ≤ hn := by omega
          obtain ⟨b, hb⟩ : ∃ b, va = some ⟨b, 0, none⟩ := by
            have hne : H ≠ [] := fun e => h0 (by rw [← HHN.out, e]; rfl)
            obtain ⟨g', cap', cur, e1, -⟩ := own_ne HF.out.heap.own hne
            simp only [Value.slice.injEq] at e1
            exact ⟨g', e1.1⟩
          subst hb
          obtain ⟨x, hx⟩ : ∃ x, at' H 0 = x := ⟨_, rfl⟩
          have hx0 := HD.out.ent x (by rw [← hx]; exact List.mem_of_getElem? (at_some (by rw [HHN.out]; omega)))
          obtain ⟨xs, xd⟩ := x
          obtain ⟨q, hq⟩ : ∃ q : Nat, xs = q := ⟨xs.toNat, by have := hx0.1; simp at this; omega⟩
          subst hq
          have HXH := Lib.hid hx
          have hqk : q < k := by have := hx0.2.1; simp at this; exact this
          have hxd : 0 ≤ xd ∧ xd ≤ 4294967296 := by
            obtain ⟨-, -, z1, -, z2⟩ := hx0
            simp at z1 z2
            omega
          clear hx hx0 h0
          go_upto_region 12 with (first
            | (go_at_call 136; refine (hlen_any _ W.heap.size g _ hn vc H HF.out.heap).mono ?_; rintro e w6 ⟨rfl, rfl⟩)
            | (go_at_call 137; go_loud (refine (hpop_any _ W.heap.size g b hn vc H HF.out.heap HF.out.ok HHN.out.symm h1 hn9).mono ?_); rintro e w6 ⟨rfl, hp⟩; rw [HXH.out] at hp ⊢; obtain ⟨H', hh, hok, hperm, hchg⟩ := hp; have HF6 : Hid (FS W w6 o k g k (.slice (some ⟨b, 0, none⟩) (hn - 1) vc) out H') := HF.out.chg hchg hh hok (.inl rfl); have HP6 := Lib.hid hperm; clear hh hok hperm hchg))
          obtain ⟨y, hy⟩ : ∃ y, w6.heap.size = y := ⟨_, rfl⟩
          have HF7 := Lib.hid (HF6.out.below ((Below.refl _ _).alloc (Nat.le_refl _) (.cells #[.int .i64 q, .int .i64 xd] 209)))
          have HY7 := Lib.hid (box_new w6 (.cells #[.int .i64 q, .int .i64 xd] 209))
          have hby : b ≠ y := by rw [← hy]; exact fun e => by have := (World.ownsRow.lt HF6.out.heap.own b rfl).2; omega
          have hyo : o ≠ y := by rw [← hy]; exact fun e => by have := HF6.out.lt.2; omega
          have hgy : g ≠ y := by rw [← hy]; exact fun e => by have := box_lt HF6.out.heap.box; omega
          obtain ⟨w7, hw7⟩ : ∃ w7, w6.alloc (.cells #[.int .i64 q, .int .i64 xd] 209) = w7 := ⟨_, rfl⟩
          rw [hw7] at HF7 HY7 ⊢
          rw [hy] at HY7 ⊢
          clear hw7 hy HF6
          obtain ⟨z0, z1, -, -⟩ := box2_cells HY7.out
          have hyw := box_lt HY7.out
          obtain ⟨d, hd, e0, e1, e2⟩ := icells HF7.out.out HD.out.len.symm hqk
          have HDQ := Lib.hid hd
          have i1 : (q : Int) < (k : Int) := by omega
          have HLH : Hid (H'.length + 1 = hn) := by
            have := HP6.out.length_eq
            rw [List.length_cons, HHN.out] at this
            exact this
          clear hd
          by_cases hd0 : 0 ≤ d
          · --<<
            go_wp2_with fail
            go_roundg (H'.length + links n.links out)
            case measure => have := HMX.out; have := HLH.out; have := HHN.out; omega
            case rel =>
              refine ⟨_, out, H', HF7.out, HD.out.skip HP6.out ⟨d, ?_, hd0⟩ (by simp), Nat.le_refl _, by have := HMX.out; have := HLH.out; have := HHN.out; omega⟩
              simpa using HDQ.out
            -->>
          · have hd1 : decide (0 ≤ d) = false := decide_eq_false hd0
            have HP8 : Hid (PInv n.links k s (out.set q xd) H' ⟨q, xd⟩ []) := by
              have := HD.out.take HLO.out HP6.out (fun z hz => by
                have := heap_min_mem HF.out.ok hz
                rwa [HXH.out] at this) (e := d) (by simpa using HDQ.out) (by omega)
              show PInv _ _ _ _ _ _ _
              simpa using this
            have HF8 := Lib.hid (HF7.out.put HD.out.len.symm q xd)
            go_upto_region 14 with fail
            obtain ⟨w8, hw8⟩ : ∃ w8, w7.setCell ⟨o, q, none⟩ (.int .i64 xd) = w8 := ⟨_, rfl⟩
            have HY8 : Hid (w8.heap[y]? = some (.cells #[.int .i64 q, .int .i64 xd] 209 (0, 0))) := by
              show _ = _
              rw [← hw8, heap_setCell_other w7 ⟨o, q, none⟩ y _ (fun e => hyo (by simpa using e.symm))]; exact HY7.out
            rw [hw8] at HF8 ⊢
            have HLS : Hid (links n.links (out.set q xd) + (adj n.links (q : Int)).length = links n.links out) := links_set HDQ.out (by omega) hxd.1
            have HOL : Hid (out.length = k) := HD.out.len
            clear hw8 HF7 HY7 z0 z1 hyw e0 e1 e2 hd1
            obtain ⟨z0, z1, -, -⟩ := box2_cells HY8.out
            obtain ⟨ra, rc, hrow0, hsl⟩ := HAD.out.row q hqk
            have hrow := (HF8.out.ge.cell (p := ⟨ab, q, none⟩) HAD.out.lt).trans hrow0
            clear hrow0
            obtain ⟨R, hR⟩ : ∃ R, adj n.links (q : Int) = R := ⟨_, rfl⟩
            obtain ⟨ln, hln⟩ : ∃ ln, R.length = ln := ⟨_, rfl⟩
            rw [hR, hln] at hrow hsl
            rw [hR, hln] at HLS
            have HRR := Lib.hid hR
            have HLN := Lib.hid hln
            have HSL := Lib.hid hsl
            have hln9 : ln ≤ 32768 := by rw [← hln, ← hR]; have := adj_len n.links q; have := HL4.out; omega
            have habl := (HAD.out.below HF8.out.ge).lt
            clear hR hln hsl
            go_wp2_with fail
            go_loopw [61] (fun i wr => ∃ (j : Nat) (v2 : Value) (H2 : List Rch), i = .int .i64 j ∧ j ≤ ln ∧ Hid (FS W wr o k g k v2 (out.set q xd) H2) ∧ Hid (PInv n.links k s (out.set q xd) H2 ⟨q, xd⟩ (R.take j)) ∧ Hid (H2.length ≤ H'.length + j) ∧ Hid (wr.heap[y]? = some (.cells #[.int .i64 q, .int .i64 xd] 209 (0, 0))) ∧ Hid (v2.ownBlock ≠ some y) ) (fun i _ => ln - (intOf i).toNat)
            case atStart => exact ⟨0, _, H', by go_num, by omega, HF8.out, HP8.out, Nat.le_refl _, HY8.out, fun e => hby (Option.some.inj e)⟩
            case round =>
              obtain ⟨j, v2, H2, rfl, hj, HFa, HPa, HLa, HYa, HVa⟩ := hrel
              by_cases hlt : j < ln
              · obtain ⟨bl, off, r, rfl, hbl, hrj, l0, l1, l2⟩ := lnk_at (HSL.out.below HFa.out.ge) hlt
                have hadj : r ∈ adj n.links (q : Int) := by rw [HRR.out]; exact List.mem_of_getElem? hrj
                have hr := HLO.out.edge (adj_mem hadj).2
                obtain ⟨r0, r1, rx⟩ := r
                obtain ⟨t, ht⟩ : ∃ t : Nat, r1 = t := ⟨r1.toNat, by have := hr.2.2.1; simp at this; omega⟩
                subst ht
                have htk : t < k := by have := hr.2.2.2.1; simp at this; exact this
                have hrx : 1 ≤ rx ∧ rx ≤ 1048575 := by have := hr.2.2.2.2.2; simp at this; exact this
                have HAJ := Lib.hid hadj
                have HRJ := Lib.hid hrj
                clear hadj hr hrj
                have hl2 : H2.length ≤ 1000000000 := by have := HLa.out; have := HLH.out; have := HMX.out; have := HHN.out; omega
                have HFb := Lib.hid (HFa.out.below ((Below.refl _ _).alloc (Nat.le_refl _) (.cells #[.int .i64 r0, .int .i64 t, .int .i64 rx] 121)))
                have HYb : Hid ((wr.alloc (.cells #[.int .i64 r0, .int .i64 t, .int .i64 rx] 121)).heap[y]? = some (.cells #[.int .i64 q, .int .i64 xd] 209 (0, 0))) := box_alloc HYa.out
                have HXb := Lib.hid (box_new wr (.cells #[.int .i64 r0, .int .i64 t, .int .i64 rx] 121))
                go_upto_region 17 with fail
                obtain ⟨w9, hw9⟩ : ∃ w9, wr.alloc (.cells #[.int .i64 r0, .int .i64 t, .int .i64 rx] 121) = w9 := ⟨_, rfl⟩
                rw [hw9] at HFb HYb HXb ⊢
                clear hw9 l0 l1 l2 hbl
                obtain ⟨p0, p1, p2, -, -, -⟩ := box3_cells HXb.out
                obtain ⟨y0, y1, -, -⟩ := box2_cells HYb.out
                have HOS : Hid (k = (out.set q xd).length) := by show _ = _; rw [List.length_set]; exact HOL.out.symm
                obtain ⟨d2, hd2, e0, -, e2⟩ := icells HFb.out.out HOS.out htk
                have HD2 := Lib.hid hd2
                have i2 : (t : Int) < (k : Int) := by omega
                have HTK : Hid (R.take (j + 1) = R.take j ++ [⟨r0, t, rx⟩]) := take_at HRJ.out
                clear hd2
                by_cases hd3 : d2 < 0
                · go_wp2_with (go_at_call 135; refine (hpush_any _ W.heap.size g v2 H2 ⟨t, xd + rx⟩ HFb.out.heap HFb.out.ok hl2).mono ?_; rintro e w10 ⟨⟨u, rfl⟩, hp⟩; obtain ⟨v3, H3, hfs, hperm, hbx⟩ := HFb.out.push hp; have HF3 := Lib.hid hfs; have HP3 := Lib.hid hperm; have HB3 := Lib.hid (hbx y _ HYb.out HVa.out (fun e => hgy e.symm)); clear hp hfs hperm hbx)
                  go_roundw
                  case rel =>
                    refine ⟨j + 1, v3, H3, by go_num, by omega, HF3.out, ?_, ?_, HB3.out.1, HB3.out.2⟩
                    · rw [HTK.out]; exact HPa.out.push HLO.out HAJ.out HP3.out
                    · show _ ≤ _
                      rw [HP3.out.length_eq, List.length_cons]; have := HLa.out; omega
                  case measure => simp [intOf]; omega
                · have hd4 : decide (d2 < 0) = false := decide_eq_false hd3
                  go_wp2_with fail
                  go_roundw
                  case rel =>
                    refine ⟨j + 1, v2, H2, by go_num, by omega, HFb.out, ?_, ?_, HYb.out, HVa.out⟩
                    · rw [HTK.out]; exact HPa.out.seen ⟨d2, by simpa using HD2.out, by omega⟩
                    · show _ ≤ _
                      have := HLa.out; omega
                  case measure => simp [intOf]; omega
              · have hjl : j = ln := by omega
                subst hjl
                have HD9 : Hid (DInv n.links k s (out.set q xd) H2) := by
                  have := HPa.out
                  rw [List.take_of_length_le (by rw [HLN.out]; exact Nat.le_refl _), ← HRR.out] at this
                  exact this.done
                go_wp2_with fail
                go_roundg (H2.length + links n.links (out.set q xd))
                case measure => have := HMX.out; have := HLH.out; have := HHN.out; have := HLa.out; have := HLS.out; omega
                case rel => exact ⟨v2, _, H2, HFa.out, HD9.out, Nat.le_refl _, by have := HMX.out; have := HLH.out; have := HHN.out; have := HLa.out; have := HLS.out; omega⟩
end Go.Proofs.YtlfbbahihenilaaGreat.Ne
