/- Networks: the two stops that are furthest from one another: the table's, walked. -/
import Derived.Test.YteihffnmgacfpaaNeV
import Derived.Handy
namespace Go.Proofs.Yteihffnmgacfpaa.Ne
open Go.RowKit Go.V Go.Proofs Go.Sort Go.Maps

/-- Two stops, and how far they are. -/
structure Pk where
  a : Int
  b : Int
  far : Int
def pkStep (i j : Nat) (d : Int) (s : Pk) : Pk := if i ≤ j ∧ s.far < d then ⟨i, j, d⟩ else s
/-- A row: the distances from i, from place j on. -/
def rin (f : Nat → Nat → Int) (i : Nat) : Nat → Nat → Pk → Pk
  | 0, _, s => s
  | c + 1, j, s => rin f i c (j + 1) (pkStep i j (f i j) s)
/-- The rows from i on. -/
def rout (f : Nat → Nat → Int) (k : Nat) : Nat → Nat → Pk → Pk
  | 0, _, s => s
  | c + 1, i, s => rout f k c (i + 1) (rin f i k 0 s)
theorem rin_skip (f : Nat → Nat → Int) (i k : Nat) : ∀ (d j : Nat) (s : Pk), j + d = i → i ≤ k → rin f i (k - j) j s = rin f i (k - i) i s
  | 0, j, s, h, _ => by have : j = i := by omega
                        rw [this]
  | d + 1, j, s, h, hk => by
    have e : k - j = (k - (j + 1)) + 1 := by omega
    rw [e]
    show rin f i (k - (j + 1)) (j + 1) (pkStep i j (f i j) s) = _
    have e2 : pkStep i j (f i j) s = s := by unfold pkStep; rw [if_neg (by omega)]
    rw [e2]
    exact rin_skip f i k d (j + 1) s (by omega) hk
theorem rin_go {f : Nat → Nat → Int} {i k j : Nat} {s r : Pk} (h : rin f i (k - j) j s = r) (hj : j < k) : rin f i (k - (j + 1)) (j + 1) (pkStep i j (f i j) s) = r := by
  have e : k - j = (k - (j + 1)) + 1 := by omega
  rw [e] at h; exact h
theorem rin_end {f : Nat → Nat → Int} {i k : Nat} {s r : Pk} (h : rin f i (k - k) k s = r) : s = r := by
  rw [Nat.sub_self] at h; exact h
theorem rout_go {f : Nat → Nat → Int} {k i : Nat} {s r : Pk} (h : rout f k (k - i) i s = r) (hi : i < k) : rout f k (k - (i + 1)) (i + 1) (rin f i k 0 s) = r := by
  have e : k - i = (k - (i + 1)) + 1 := by omega
  rw [e] at h; exact h
theorem rout_end {f : Nat → Nat → Int} {k : Nat} {s r : Pk} (h : rout f k (k - k) k s = r) : s = r := by
  rw [Nat.sub_self] at h; exact h
theorem TabIn.upto {w : World} {base tg mg N M : Nat} {n : Net} {hs hl : Hdr} (h : TabIn w base tg mg N n hs hl) (hN : N ≤ M) : TabIn w base tg mg M n hs hl := by
  obtain ⟨D, h1, h2⟩ := h.map
  exact ⟨h.box, h.net, h.bt, h.bm, D, h1.mono hN, h2⟩
theorem TabIn.mg_lt {w : World} {base tg mg N : Nat} {n : Net} {hs hl : Hdr} (h : TabIn w base tg mg N n hs hl) : mg < w.heap.size := by
  obtain ⟨D, h1, -⟩ := h.map
  exact h1.lt
/-- What Round tells. -/
def roundE (L : List Lnk) (k : Nat) : Pk := if k = 0 ∨ 512 < k then ⟨0, 0, 0⟩ else rout (fun i j => far L k i j) k k 0 ⟨0, 0, 0⟩
def roundB (k : Nat) : Bool := !decide (k = 0 ∨ 512 < k)

set_option maxHeartbeats 8000000 in
set_option maxRecDepth 100000 in
theorem tround_any (w : World) (base tg mg N : Nat) (n : Net) (hs hl : Hdr) (h : TabIn w base tg mg N n hs hl) (hok : checkE n = 0) (hN : N ≤ 900000) (hne : tg ≠ mg) :
    Calls Try.prog 23 #[.pointer (some ⟨tg, 0, none⟩)] w fun e w' => e = .returned (.tuple #[.int .i64 (roundE n.links hs.n).a, .int .i64 (roundE n.links hs.n).b, .int .i64 (roundE n.links hs.n).far, .bool (roundB hs.n)]) ∧ TabIn w' base tg mg (N + 512) n hs hl ∧ Chg w w' mg none := by
  have HT := Lib.hid h
  have HOK := Lib.hid hok
  have hkn : hs.n = n.stops.length := h.netIn.s.hlen
  obtain ⟨k, hk⟩ : ∃ k, hs.n = k := ⟨_, rfl⟩
  have HLO : Hid (LinksOk n.links k) := by show LinksOk _ _; rw [← hk, hkn]; exact (check_ok hok).2.2.2.2.1
  have HK := Lib.hid hk
  clear h hok hkn hk
  go_enter Try.func23, Try.ntmps23
  go_upto_region 2 with (go_at_call 19; refine (tlen_any _ base tg mg N n hs hl HT.out).mono ?_; rintro e w1 ⟨rfl, rfl⟩)
  rw [HK.out]
  by_cases h0 : k = 0
  · subst h0
    go_wp2_with fail
    go_returns
    refine ⟨?_, HT.out.upto (by omega), Chg.refl _ _ _⟩
    rw [HK.out]; unfold roundE roundB; simp
  · have d0 : ((k : Int) == 0) = false := by simpa using h0
    by_cases h5 : 512 < k
    · go_wp2_with fail
      go_returns
      refine ⟨?_, HT.out.upto (by omega), Chg.refl _ _ _⟩
      rw [HK.out]; unfold roundE roundB; simp [h5]
    · have d5 : decide (512 < (k : Int)) = false := decide_eq_false (by omega)
      obtain ⟨r, hr⟩ : ∃ r, rout (fun i j => far n.links k i j) k (k - 0) 0 ⟨0, 0, 0⟩ = r := ⟨_, rfl⟩
      have HE : Hid (roundE n.links k = r) := by show _ = _; rw [← hr]; unfold roundE; rw [if_neg (by omega)]; rfl
      have HR := Lib.hid hr
      have HB : Hid (roundB k = true) := by show _ = _; unfold roundB; rw [decide_eq_false (by omega)]; rfl
      clear hr
      go_wp2_with fail
      go_loopw [2, 3, 4, 19] (fun va vb vf i wr => ∃ (j : Nat) (s : Pk), i = .int .i64 j ∧ j ≤ k ∧ va = .int .i64 s.a ∧ vb = .int .i64 s.b ∧ vf = .int .i64 s.far ∧ Hid (rout (fun i j => far n.links k i j) k (k - j) j s = r) ∧ Hid (TabIn wr base tg mg (N + j) n hs hl) ∧ Hid (Chg w wr mg none)) (fun _ _ _ i _ => k - (intOf i).toNat)
      case atStart => exact ⟨0, ⟨0, 0, 0⟩, by go_num, by omega, rfl, rfl, rfl, HR.out, HT.out, Chg.refl _ _ _⟩
      case round =>
        obtain ⟨j, s, rfl, hj, rfl, rfl, rfl, HRJ, HTJ, HCJ⟩ := hrel
        by_cases hlt : j < k
        · --<<
          go_upto_region 8 with (go_at_call 60; refine (trow_any _ base tg mg (N + j) n hs hl j HTJ.out HOK.out (by have := HK.out; omega) (by omega) hne).mono ?_; rintro e w2 ⟨o, cap, rfl, hsl, ht2, hc2⟩; have HT2 := Lib.hid ht2; have HC2 := Lib.hid (HCJ.out.trans hc2 (.inl rfl)); rw [HK.out] at hsl; have HSL := Lib.hid hsl; clear hsl ht2 hc2)
          rw [HK.out]
          obtain ⟨q, hq⟩ : ∃ q, rin (fun i j => far n.links k i j) j (k - 0) 0 s = q := ⟨_, rfl⟩
          have HQ := Lib.hid hq
          have HRQ := Lib.hid (rout_go HRJ.out hlt)
          have e0 : rin (fun i j => far n.links k i j) j k 0 s = q := hq
          have HRQ2 : Hid (rout (fun i j => far n.links k i j) k (k - (j + 1)) (j + 1) q = r) := by show _ = _; rw [← e0]; exact HRQ.out
          clear hq HRQ HRJ e0
          go_loop [2, 3, 4, 26] (fun va vb vf i => ∃ (p : Nat) (t : Pk), i = .int .i64 p ∧ p ≤ k ∧ va = .int .i64 t.a ∧ vb = .int .i64 t.b ∧ vf = .int .i64 t.far ∧ Hid (rin (fun i j => far n.links k i j) j (k - p) p t = q)) (fun _ _ _ i => k - (intOf i).toNat)
          case atStart => exact ⟨0, s, by go_num, by omega, rfl, rfl, rfl, HQ.out⟩
          case round =>
            obtain ⟨p, t, rfl, hp, rfl, rfl, rfl, HRP⟩ := hrel
            by_cases hpk : p < k
            · obtain ⟨bb, off, d, e1, hbl, hd, c0⟩ := int_at HSL.out hpk
              cases e1
              rw [Nat.zero_add] at c0
              have hdf : d = far n.links k j p := Option.some.inj (hd.symm.trans (bf_at (L := n.links) (k := k) (a := (j : Int)) HLO.out (by omega) hpk))
              have HDF := Lib.hid hdf
              have HGO := Lib.hid (rin_go HRP.out hpk)
              clear hd hdf
              by_cases hjp : j ≤ p
              · have d1 : decide ((j : Int) ≤ (p : Int)) = true := decide_eq_true (by omega)
                by_cases hf : t.far < d
                · have HP : Hid (pkStep j p (far n.links k j p) t = ⟨j, p, d⟩) := by show _ = _; unfold pkStep; rw [← HDF.out, if_pos ⟨hjp, hf⟩]
                  go_wp2_with fail
                  go_round
                  case rel => exact ⟨p + 1, ⟨j, p, d⟩, by go_num, by omega, rfl, rfl, rfl, by have := HGO.out; rw [HP.out] at this; exact this⟩
                  case measure => simp [intOf]; omega
                · have d2 : decide (t.far < d) = false := decide_eq_false hf
                  have HP : Hid (pkStep j p (far n.links k j p) t = t) := by show _ = _; unfold pkStep; rw [← HDF.out, if_neg (fun q => hf q.2)]
                  go_wp2_with fail
                  go_round
                  case rel => exact ⟨p + 1, t, by go_num, by omega, rfl, rfl, rfl, by have := HGO.out; rw [HP.out] at this; exact this⟩
                  case measure => simp [intOf]; omega
              · have d1 : decide ((j : Int) ≤ (p : Int)) = false := decide_eq_false (by omega)
                have HP : Hid (pkStep j p (far n.links k j p) t = t) := by show _ = _; unfold pkStep; rw [if_neg (fun q => hjp q.1)]
                go_wp2_with fail
                go_round
                case rel => exact ⟨p + 1, t, by go_num, by omega, rfl, rfl, rfl, by have := HGO.out; rw [HP.out] at this; exact this⟩
                case measure => simp [intOf]; omega
            · have hpk2 : p = k := by omega
              subst hpk2
              have HTQ := Lib.hid (rin_end HRP.out)
              go_wp2_with fail
              go_roundw
              case rel => exact ⟨j + 1, t, by go_num, by omega, rfl, rfl, rfl, by rw [HTQ.out]; exact HRQ2.out, HT2.out, HC2.out⟩
              case measure => simp [intOf]; omega
          -->>
        · have hjk : j = k := by omega
          subst hjk
          have HSR := Lib.hid (rout_end HRJ.out)
          go_wp2_with fail
          go_returns
          refine ⟨?_, HTJ.out.upto (by omega), HCJ.out⟩
          rw [HK.out, HE.out, HB.out, ← HSR.out]
end Go.Proofs.Yteihffnmgacfpaa.Ne
