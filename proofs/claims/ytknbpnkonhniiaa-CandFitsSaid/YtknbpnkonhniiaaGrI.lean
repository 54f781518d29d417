/- Grids: the stops that are near enough: walked. -/
import Derived.Test.YtknbpnkonhniiaaGrH
namespace Go.Proofs.Ytknbpnkonhniiaa.Ne
open Go.RowKit Go.V Go.Proofs

structure Fnd where
  stop : Int
  sq : Int
deriving DecidableEq, Inhabited
def Fnd.enc (r : Fnd) : List Value := [.int .i64 r.stop, .int .i64 r.sq]
def Fnd.cod : Cod Fnd := ⟨2, Fnd.enc, fun _ => rfl, by simp [Fnd.enc, Value.oneCell']⟩
abbrev Fnd.val (r : Fnd) : Value := .agg #[.int .i64 r.stop, .int .i64 r.sq]
theorem infoF : (Try.prog.info? 84).map (fun i => (i.zero, i.size, i.bytes)) = some (some (.agg #[.int .i64 0, .int .i64 0]), 2, 16) := by kernel_rfl
theorem eltF : Elt Try.prog 80 84 Fnd.cod 16 := Elt.of Try.underlying80 infoF rfl (by decide)
theorem fnd_at {w : World} {a : Option Addr} {n cap : Nat} {l : List Fnd} (h : Sl Fnd.cod w a n cap l) {i : Nat} (hi : i < n) :
   ∃ b off r, a = some ⟨b, off, none⟩ ∧ b < w.heap.size ∧ l[i]? = some r ∧ w.cell? ⟨b, off + i * 2, none⟩ = some (.int .i64 r.stop) ∧ w.cell? ⟨b, off + i * 2 + 1, none⟩ = some (.int .i64 r.sq) := by
  obtain ⟨b, off, rfl, hb, r, hr, hc⟩ := h.some hi
  exact ⟨b, off, r, rfl, hb, hr, hc 0 _ rfl, hc 1 _ rfl⟩
/-- A stop, and the square of how far it is. -/
def fnd (p : Stp) (S : List Stp) (i : Int) : Fnd := ⟨i, sqE p (S.getD i.toNat default)⟩
/-- Those that are near enough. -/
def amE (p : Stp) (S : List Stp) (m : Int) (l : List Int) : List Fnd := (l.map (fnd p S)).filter fun f => decide (f.sq ≤ m)
theorem amE_snoc (p : Stp) (S : List Stp) (m : Int) (l : List Int) {k : Nat} {i : Int} (h : l[k]? = some i) : amE p S m (l.take (k + 1)) = if (fnd p S i).sq ≤ m then amE p S m (l.take k) ++ [fnd p S i] else amE p S m (l.take k) := by
  unfold amE
  rw [take_at h, List.map_append, List.filter_append]
  by_cases hh : (fnd p S i).sq ≤ m
  · rw [if_pos hh]; simp [hh]
  · rw [if_neg hh]; simp [hh]
theorem amE_len (p : Stp) (S : List Stp) (m : Int) (l : List Int) : (amE p S m l).length ≤ l.length := by
  unfold amE
  have := List.length_filter_le (fun f : Fnd => decide (f.sq ≤ m)) (l.map (fnd p S))
  rwa [List.length_map] at this
theorem grb_next {w w1 w2 : World} {r r' : Option Nat} (h : w.grownBy w1 r) (h' : w1.grownBy w2 r') (hr : r' = r ∨ ∃ k, r' = some k ∧ w.heap.size ≤ k) : w.grownBy w2 r :=
  ⟨h'.os.trans h.os, h'.tape.trans h.tape, h'.output.trans h.output, Nat.le_trans h.size h'.size, fun i hi hne => (h'.block i (Nat.lt_of_lt_of_le hi h.size) (fun e => by
    rcases hr with q | ⟨k, q, q2⟩
    · exact hne (e.trans q)
    · rw [q] at e
      have := Option.some.inj e
      omega)).trans (h.block i hi hne)⟩
theorem grb_box {w w1 : World} {r : Option Nat} (h : w.grownBy w1 r) {g : Nat} {o : Obj} (hg : w.heap[g]? = some o) (hne : some g ≠ r) : w1.heap[g]? = some o := (h.block g (box_lt hg) hne).trans hg

theorem sl_belowB {α : Type} {c : Cod α} {w w' : World} {a : Option Addr} {n cap B : Nat} {xs : List α} (h : Sl c w a n cap xs) (hb : Below B w w') (hB : ∀ d, a = some d → 0 < cap → d.block < B) : Sl c w' a n cap xs :=
  ⟨h.hlen, h.hcap, h.hmax, h.hnil, fun d hd hc => by
    obtain ⟨h1, h2, h3⟩ := h.hat d hd hc
    exact ⟨h1, Nat.lt_of_lt_of_le h2 hb.size, fun j u hu => by rw [hb.cell (p := ⟨d.block, d.off + j, none⟩) (hB d hd hc)]; exact h3 j u hu⟩⟩
theorem below_of_grb {w w' : World} {B : Nat} {r : Option Nat} (h : w.grownBy w' r) (hr : ∀ k, r = some k → B ≤ k) (hB : B ≤ w.heap.size) : Below B w w' :=
  ⟨h.os, h.tape, h.output, h.size, fun k hk => h.block k (by omega) (fun e => by have := hr k e.symm; omega)⟩

set_option maxHeartbeats 4000000 in
theorem gram_any (g : Nat) (hs : Hdr) (z : Int) (b : Nat) (S : List Stp) (p : Stp) (m : Int) (B : Nat) (out : Value) (outl : List Fnd) (a : Option Addr) (n cap : Nat) (l : List Int) (w : World)
    (hB : B ≤ w.heap.size) (hn : n + outl.length ≤ 1000000) (hin : ∀ i ∈ l, ∃ j : Nat, i = (j : Int) ∧ j < S.length)
    (h : GBox w g hs z b) (hgB : g < B) (hS : Sl Stp.cod w hs.a hs.n hs.cap S) (hSB : ∀ d, hs.a = some d → 0 < hs.cap → d.block < B) (ho : V.Own 84 Fnd.cod B w out outl) (hl : Sl icod w a n cap l) (hlB : ∀ d, a = some d → 0 < cap → d.block < B) :
    Calls Try.prog 46 #[gP g, out, .slice a n cap, p.val, .int .i64 m] w fun e w' => ∃ v, e = .returned v ∧ V.Own 84 Fnd.cod B w' v (outl ++ amE p S m l) ∧ w.grownBy w' out.ownBlock ∧ (v.ownBlock = out.ownBlock ∨ ∃ k, v.ownBlock = some k ∧ w.heap.size ≤ k) := by
  have hN := Lib.hid hl.hlen
  have hSN := Lib.hid hS.hlen
  have hrow : Hid (∀ k, out.ownBlock = some k → B ≤ k ∧ k < w.heap.size) := fun k hk => World.ownsRow.lt ho k hk
  have HX0 : Hid ((w.alloc (.cells #[.int .i64 p.x, .int .i64 p.y] 53)).heap[w.heap.size]? = some (.cells #[.int .i64 p.x, .int .i64 p.y] 53 (0, 0))) := box_new _ _
  have HB0 : Hid (Below w.heap.size w (w.alloc (.cells #[.int .i64 p.x, .int .i64 p.y] 53))) := (Below.refl _ _).alloc (Nat.le_refl _) _
  have HG := Lib.hid h
  have HS := Lib.hid hS
  have HL := Lib.hid hl
  have HO0 := Lib.hid (ho.below HB0.out)
  have HIN := Lib.hid hin
  have hm : n ≤ 9223372036854775807 := by omega
  clear h hS hl ho hin
  go_enter Try.func46, Try.ntmps46
  go_wp2
  go_loopw [1, 16] (fun v i wr => ∃ (k : Nat), k ≤ n ∧ i = .int .i64 k ∧ Hid (V.Own 84 Fnd.cod B wr v (outl ++ amE p S m (l.take k))) ∧ Hid ((w.alloc (.cells #[.int .i64 p.x, .int .i64 p.y] 53)).grownBy wr out.ownBlock) ∧ Hid (v.ownBlock = out.ownBlock ∨ ∃ k, v.ownBlock = some k ∧ w.heap.size + 1 ≤ k)) (fun _ i _ => n - (intOf i).toNat)
  case atStart => exact ⟨0, by omega, rfl, by show V.Own _ _ _ _ _ _; simpa [amE] using HO0.out, ⟨rfl, rfl, rfl, Nat.le_refl _, fun _ _ _ => rfl⟩, .inl rfl⟩
  case round =>
    obtain ⟨k, hk, rfl, ho, hgb, hat⟩ := hrel
    have HBB : Hid (Below B w wr) := (HB0.out.mono hB).trans (below_of_grb hgb.out (fun k hk => (hrow.out k hk).1) (by simp; omega))
    by_cases hlt : k < n
    · obtain ⟨bl, offl, i, rfl, hbl, hi, c0⟩ := int_at (sl_belowB HL.out HBB.out hlB) hlt
      obtain ⟨j, rfl, hj⟩ := HIN.out i (List.mem_of_getElem? hi)
      obtain ⟨bs, offs, r, hsa, hbs, hr, d0, d1⟩ := stp_at (sl_belowB HS.out HBB.out hSB) (i := j) (by rw [hSN.out]; exact hj)
      have HG1 : Hid (GBox wr g hs z b) := (HBB.out.block g hgB).trans HG.out
      obtain ⟨h0, h1, h2, h3⟩ := HG1.out.cells
      have HX1 := Lib.hid (grb_box hgb.out HX0.out (fun e => by have := (hrow.out _ e.symm).2; omega))
      obtain ⟨y0, y1, -, -⟩ := box2_cells HX1.out
      rw [hsa] at h1
      have hjn : (j : Int) < (hs.n : Int) := by rw [hSN.out]; omega
      have hltz : (k : Int) < n := by omega
      have HI := Lib.hid hi
      have hf : fnd p S (j : Int) = ⟨j, sqE p r⟩ := by
        unfold fnd
        rw [Int.toNat_natCast, List.getD_eq_getElem?_getD, hr]; rfl
      have HSN := Lib.hid (amE_snoc p S m l hi)
      rw [hf] at HSN
      obtain ⟨q, hq⟩ : ∃ q, sqE p r = q := ⟨_, rfl⟩
      have HQ := Lib.hid hq
      have hqi := sqE_in p r
      rw [hq] at HSN hqi
      clear hi hf hq hr
      have HK : Hid (∀ w', Below wr.heap.size wr w' → w'.cell? ⟨w.heap.size, 0, none⟩ = some (.int .i64 p.x) ∧ w'.cell? ⟨w.heap.size, 1, none⟩ = some (.int .i64 p.y) ∧ w'.cell? ⟨g, 0, none⟩ = some (.slice (some ⟨bs, offs, none⟩) hs.n hs.cap) ∧ w'.cell? ⟨bs, offs + j * 2, none⟩ = some (.int .i64 r.x) ∧ w'.cell? ⟨bs, offs + j * 2 + 1, none⟩ = some (.int .i64 r.y)) := fun w' hb => ⟨(hb.cell (p := ⟨w.heap.size, 0, none⟩) (box_lt HX1.out)).trans y0, (hb.cell (p := ⟨w.heap.size, 1, none⟩) (box_lt HX1.out)).trans y1, (hb.cell (p := ⟨g, 0, none⟩) h0).trans h1, (hb.cell (p := ⟨bs, offs + j * 2, none⟩) hbs).trans d0, (hb.cell (p := ⟨bs, offs + j * 2 + 1, none⟩) hbs).trans d1⟩
      go_upto_region 4 with fail
      go_region_held3 (fun w' => w'.cell? ⟨w.heap.size, 0, none⟩ = some (.int .i64 p.x) ∧ w'.cell? ⟨w.heap.size, 1, none⟩ = some (.int .i64 p.y) ∧ w'.cell? ⟨g, 0, none⟩ = some (.slice (some ⟨bs, offs, none⟩) hs.n hs.cap) ∧ w'.cell? ⟨bs, offs + j * 2, none⟩ = some (.int .i64 r.x) ∧ w'.cell? ⟨bs, offs + j * 2 + 1, none⟩ = some (.int .i64 r.y)) (first | go_keep | exact HK.out _ ((Below.drew (Below.refl _ _)).trans HC1.out)) (first | (go_at_call 42; go_fit (gsq_any p r _); rintro e w1 ⟨rfl, hb1⟩; rw [HQ.out]; have HC1 := Lib.hid hb1; clear hb1))
      all_goals
        have HW1 : Hid (Below wr.heap.size wr w1) := (Below.drew (Below.refl _ _)).trans HC1.out
        have HO1 := Lib.hid (ho.out.below HW1.out)
        have HGB1 : Hid ((w.alloc (.cells #[.int .i64 p.x, .int .i64 p.y] 53)).grownBy w1 out.ownBlock) := grb_below hgb.out HW1.out
        have hw1 : wr.heap.size ≤ w1.heap.size := HW1.out.size
        have hwr : w.heap.size + 1 ≤ wr.heap.size := by have := hgb.out.size; simp at this; omega
        by_cases hqm : q ≤ m
        · have HS2 : Hid (amE p S m (l.take (k + 1)) = amE p S m (l.take k) ++ [⟨j, q⟩]) := by show _ = _; rw [HSN.out, if_pos hqm]
          have HLN : Hid ((outl ++ amE p S m (l.take k)).length ≤ 1000000) := by
            have := amE_len p S m (l.take k)
            rw [List.length_take] at this
            show _ ≤ _
            rw [List.length_append]
            omega
          have HM1 : Hid ((outl ++ amE p S m (l.take k)).length + 1 ≤ maxLen) := by have := HLN.out; show _ ≤ _; unfold maxLen; omega
          have HM2 : Hid (((outl ++ amE p S m (l.take k)).length + 1) * 16 ≤ 140737488355328) := by have := HLN.out; show _ ≤ _; omega
          go_wp2_with (at_builtin; go_loud (refine wpList_app_at eltF rfl (.tmp 32) (.tmp 36) rfl (base := B) _ _ rfl (HO1.out.alloc _) _ 1 1 [⟨j, q⟩] rfl (sl_new (c := Fnd.cod) w1 #[.int .i64 j, .int .i64 q] 84 [⟨j, q⟩] 1 rfl (by unfold maxLen; omega) rfl) HM1.out HM2.out (by simp; omega) ?_); intro v5 w5 ho5 hg5 hat5; have HO5 := Lib.hid ho5; have HG5 := Lib.hid hg5; have HA5 := Lib.hid hat5; clear ho5 hg5 hat5)
          go_roundw
          case rel =>
            refine ⟨k + 1, by omega, by go_num, ?_, ?_, ?_⟩
            · show V.Own _ _ _ _ _ _
              rw [HS2.out, ← List.append_assoc]; exact HO5.out
            · refine grb_next (grb_below HGB1.out ((Below.refl _ _).alloc (Nat.le_refl _) _)) HG5.out ?_
              rcases hat.out with e | ⟨k', e, e2⟩
              · exact .inl e
              · exact .inr ⟨k', e, by simp; omega⟩
            · rcases HA5.out with e | e
              · rw [show (v5.ownBlock = out.ownBlock ∨ ∃ k, v5.ownBlock = some k ∧ w.heap.size + 1 ≤ k) ↔ _ from by rw [e]]
                exact hat.out
              · exact .inr ⟨_, e, by simp; omega⟩
          case measure => simp [intOf]; omega
        · have HS2 : Hid (amE p S m (l.take (k + 1)) = amE p S m (l.take k)) := by show _ = _; rw [HSN.out, if_neg hqm]
          go_wp2_with fail
          go_roundw
          case rel => exact ⟨k + 1, by omega, by go_num, by rw [HS2.out]; exact HO1.out, HGB1.out, hat.out⟩
          case measure => simp [intOf]; omega
    · have hk' : k = n := by omega
      have ht : l.take k = l := by rw [hk', List.take_of_length_le (by rw [← hN.out]; exact Nat.le_refl _)]
      rw [ht] at ho
      clear hk' ht
      go_wp2_with fail
      go_ret
      refine ⟨_, rfl, ho.out, grb_trans (World.grownBy_alloc w _ _) hgb.out, ?_⟩
      rcases hat.out with e | ⟨k', e, e2⟩
      · exact .inl e
      · exact .inr ⟨k', e, by omega⟩
end Go.Proofs.Ytknbpnkonhniiaa.Ne
