/- Grids: grid.New: walked. -/
/- Grids: the stops of a cell: walked. -/
/- Grids: the stops that are near enough: walked. -/
/- Grids: rings of cells: plain, and walked. -/
/- Grids: rings of cells: walked. -/
import Derived.Test.YtlfbbahihenilaaGreatMg06
import Derived.Laws.ComplexArith
import Derived.Laws.MakeOwn
namespace Go.Proofs.YtlfbbahihenilaaGreat.Ne
open Go.RowKit Go.V Go.Proofs

theorem sl_grown {α : Type} {c : Cod α} {w w' : World} {g off n cap : Nat} {xs : List α} {b : Nat} (h : Sl c w (some ⟨g, off, none⟩) n cap xs) (hg : w.grownBy w' (some b)) (hne : g ≠ b) : Sl c w' (some ⟨g, off, none⟩) n cap xs :=
  ⟨h.hlen, h.hcap, h.hmax, (fun hd => nomatch hd), fun d hd hc => by
    obtain ⟨h1, h2, h3⟩ := h.hat d hd hc
    simp at hd; subst hd
    refine ⟨rfl, Nat.lt_of_lt_of_le h2 hg.size, fun j u hu => ?_⟩
    have e := hg.block g h2 (fun e => hne (Option.some.inj e))
    have := h3 j u hu
    simp only [World.cell?, e] at this ⊢
    exact this⟩

set_option maxHeartbeats 4000000 in
theorem grnew_any (a : Option Addr) (n cap : Nat) (S : List Stp) (z : Int) (w : World) (hn : n ≤ 200) (h : Sl Stp.cod w a n cap S) :
    Calls Tryz.prog 51 #[.slice a n cap, .int .i64 z] w fun e w' => Below w.heap.size w w' ∧ ((rightE S z ≠ 0 ∧ e = .returned (.tuple #[.pointer none, .int .i64 (rightE S z)])) ∨ (rightE S z = 0 ∧ ∃ (g : Nat) (hs : Hdr) (b : Nat), e = .returned (.tuple #[gP g, .int .i64 0]) ∧ GBox w' g hs z b ∧ Sl Stp.cod w' hs.a hs.n hs.cap S ∧ GMap w' b (idxs S z))) := by
  have hN := Lib.hid h.hlen
  by_cases h1 : z < 1
  · have HR : Hid (rightE S z = 2) := by show _ = _; rw [rightE, if_pos (.inl h1)]
    go_enter Tryz.func51, Tryz.ntmps51
    go_wp2
    go_ret2
    exact ⟨Below.refl _ _, .inl ⟨by rw [HR.out]; decide, by rw [HR.out]; rfl⟩⟩
  by_cases h2 : 67108864 < z
  · have HR : Hid (rightE S z = 2) := by show _ = _; rw [rightE, if_pos (.inr h2)]
    go_enter Tryz.func51, Tryz.ntmps51
    go_wp2
    go_ret2
    exact ⟨Below.refl _ _, .inl ⟨by rw [HR.out]; decide, by rw [HR.out]; rfl⟩⟩
  have HR : Hid (rightE S z = if S.all stpB = true then 0 else 2) := by show _ = _; rw [rightE, if_neg (fun hh => by omega)]
  have hz1 : 1 ≤ z := by omega
  have hm : n ≤ 9223372036854775807 := by omega
  have HS := Lib.hid h
  clear h
  have hmm := @run_makeMap Tryz.prog
  go_enter Tryz.func51, Tryz.ntmps51
  go_wp2_with (go_at_call 81; refine (sclone_any a n cap S _ (by omega) HS.out).mono ?_; rintro e w1 ⟨v, rfl, ho1, hb1⟩; obtain ⟨ga, gc, rfl, gs, -⟩ := ho1.slice; have HO1 := Lib.hid ho1; have HB1 := Lib.hid hb1; clear ho1 hb1 gs)
  have HG3 : Hid (GBox ((w1.alloc (.map #[] 0)).alloc (.cells #[.slice ga S.length gc, .int .i64 z, .map (some w1.heap.size)] 150)) (w1.heap.size + 1) ⟨ga, S.length, gc⟩ z w1.heap.size) := by
    have := box_new (w1.alloc (.map #[] 0)) (.cells #[.slice ga S.length gc, .int .i64 z, .map (some w1.heap.size)] 150)
    rw [World.size_alloc] at this
    exact this
  have HM3 : Hid (GMapO (w1.heap.size + 2) ((w1.alloc (.map #[] 0)).alloc (.cells #[.slice ga S.length gc, .int .i64 z, .map (some w1.heap.size)] 150)) w1.heap.size 0 (fun _ _ => [])) := (GMapO.made (w1.heap.size + 2) w1).kept ((Below.refl _ _).alloc (Nat.le_refl _) _)
  have HB13 : Hid (Below w1.heap.size w1 ((w1.alloc (.map #[] 0)).alloc (.cells #[.slice ga S.length gc, .int .i64 z, .map (some w1.heap.size)] 150))) := ((Below.refl _ _).alloc (Nat.le_refl _) _).alloc (by simp) _
  have hsz3 : ((w1.alloc (.map #[] 0)).alloc (.cells #[.slice ga S.length gc, .int .i64 z, .map (some w1.heap.size)] 150)).heap.size = w1.heap.size + 2 := by simp
  have HB3 : Hid (Below w.heap.size w ((w1.alloc (.map #[] 0)).alloc (.cells #[.slice ga S.length gc, .int .i64 z, .map (some w1.heap.size)] 150))) := HB1.out.trans (HB13.out.mono HB1.out.size)
  have HO3 := Lib.hid (HO1.out.below HB13.out)
  have hb1l : w.heap.size ≤ w1.heap.size := HB1.out.size
  obtain ⟨es0, ck0, hmb⟩ : ∃ es ck, ((w1.alloc (.map #[] 0)).alloc (.cells #[.slice ga S.length gc, .int .i64 z, .map (some w1.heap.size)] 150)).heap[w1.heap.size]? = some (.map es ck) := ⟨_, _, box_alloc (box_new w1 (.map #[] 0))⟩
  have HMB := Lib.hid hmb
  clear hmb
  generalize hW3 : ((w1.alloc (.map #[] 0)).alloc (.cells #[.slice ga S.length gc, .int .i64 z, .map (some w1.heap.size)] 150)) = W3 at HG3 HM3 HB13 hsz3 HB3 HO3 HMB ⊢
  clear hW3
  go_loopw [27] (fun i wr => ∃ (k : Nat), k ≤ n ∧ i = .int .i64 k ∧ Hid ((S.take k).all stpB = true) ∧ Hid (GMapO (w1.heap.size + 2) wr w1.heap.size k (idxs (S.take k) z)) ∧ Hid (W3.grownBy wr (some w1.heap.size))) (fun i _ => n - (intOf i).toNat)
  case atStart => exact ⟨0, by omega, rfl, rfl, HM3.out, ⟨rfl, rfl, rfl, Nat.le_refl _, fun _ _ _ => rfl⟩⟩
  case round =>
    obtain ⟨k, hk, rfl, he, hmp, hgb⟩ := hrel
    have HB : Hid (Below w.heap.size w wr) := grb_lower HB3.out hgb.out hb1l (by omega)
    have HG : Hid (GBox wr (w1.heap.size + 1) ⟨ga, S.length, gc⟩ z w1.heap.size) := (hgb.out.block _ (by omega) (by simp)).trans HG3.out
    have hwl : W3.heap.size ≤ wr.heap.size := hgb.out.size
    by_cases hlt : k < n
    · obtain ⟨b, off, r, rfl, hbl, hr, c0, c1⟩ := stp_at (HS.out.below HB.out) hlt
      have HRk := Lib.hid hr
      have hltz : (k : Int) < n := by omega
      clear hr
      obtain ⟨bb, hbb⟩ : ∃ bb, mayB r.x r.y = bb := ⟨_, rfl⟩
      have HBB := Lib.hid hbb
      clear hbb
      cases bb with
      | false =>
        go_wp2_with (go_at_call 71; go_fit (may_any r.x r.y _); rintro e w2 ⟨rfl, rfl⟩; rw [HBB.out])
        go_ret2
        refine ⟨HB.out.alloc HB.out.size _, .inl ⟨?_, ?_⟩⟩
        · rw [HR.out, all_not HRk.out HBB.out]; decide
        · rw [HR.out, all_not HRk.out HBB.out]; rfl
      | true =>
        have hsb := of_decide_eq_true HBB.out
        have hrx : 0 ≤ r.x ∧ r.x < 67108864 := ⟨hsb.1, hsb.2.1⟩
        have hry : 0 ≤ r.y ∧ r.y < 67108864 := ⟨hsb.2.2.1, hsb.2.2.2⟩
        obtain ⟨wx, bx⟩ := quo_in hrx hz1
        obtain ⟨wy, bY⟩ := quo_in hry hz1
        have HRX : Hid (0 ≤ r.x ∧ r.x < 67108864) := hrx
        have HRY : Hid (0 ≤ r.y ∧ r.y < 67108864) := hry
        clear hsb hrx hry wx wy
        have HSN : Hid (∀ X Y, idxs (S.take (k + 1)) z X Y = if r.x / z = X ∧ r.y / z = Y then idxs (S.take k) z X Y ++ [(k : Int)] else idxs (S.take k) z X Y) := fun X Y => idxs_snoc S z X Y HRk.out
        obtain ⟨cx, hcx⟩ : ∃ c, r.x / z = c := ⟨_, rfl⟩
        obtain ⟨cy, hcy⟩ : ∃ c, r.y / z = c := ⟨_, rfl⟩
        rw [hcx] at bx HSN
        rw [hcy] at bY HSN
        have HCX := Lib.hid hcx
        have HCY := Lib.hid hcy
        clear hcx hcy
        have hX := Lib.hid (box_new wr (.cells #[.int .i64 r.x, .int .i64 r.y] 70))
        go_upto_region 12 with (first
          | (go_at_call 71; go_fit (may_any r.x r.y _); rintro e w2 ⟨rfl, rfl⟩; rw [HBB.out])
          | (go_at_call 82; go_fit (grat_any (w1.heap.size + 1) ⟨ga, S.length, gc⟩ z w1.heap.size r.x r.y _ (HG.out.below ((Below.refl _ _).alloc (Nat.le_refl _) _)) hz1 HRX.out HRY.out); rintro e w2 ⟨rfl, hb2⟩; rw [HCX.out, HCY.out]; have HB2 := Lib.hid hb2; clear hb2))
        have HZ2 := Lib.hid (box_new w2 (.cells #[.int .i64 cx, .int .i64 cy] 151))
        have HG2 := Lib.hid ((HG.out.below ((Below.refl _ _).alloc (Nat.le_refl _) (.cells #[.int .i64 r.x, .int .i64 r.y] 70))).below HB2.out)
        have g9 := ((HG2.out.below ((Below.refl _ _).alloc (Nat.le_refl _) (.cells #[.int .i64 cx, .int .i64 cy] 151))).cells).2.2.2
        obtain ⟨z0, z1, -, -⟩ := box2_cells HZ2.out
        have hw2 : wr.heap.size < w2.heap.size := by have := HB2.out.size; simp at this; omega
        have hbm : Below wr.heap.size wr (((w2.alloc (.cells #[.int .i64 cx, .int .i64 cy] 151)).alloc (.cells #[.int .i64 k] 3)).drew) :=
          Below.drew ((((((Below.refl wr.heap.size wr).alloc (Nat.le_refl _) (.cells #[.int .i64 r.x, .int .i64 r.y] 70)).trans (HB2.out.mono (by simp))).alloc (by omega) _).alloc (by simp; omega) _))
        have HBM := Lib.hid hbm
        have wfx : Iok cx := gi64_wf (by omega) (by omega)
        have wfy : Iok cy := gi64_wf (by omega) (by omega)
        obtain ⟨v0, st, w4, r1, ho4, hg4, hst⟩ := (hmp.out.kept hbm).entry (by unfold maxLen; omega) wfx wfy
        have HO4 := Lib.hid ho4
        have HG4 := Lib.hid hg4
        have HST := Lib.hid hst
        have HSL : Hid (Sl icod w4 (some ⟨w2.heap.size + 1, 0, none⟩) 1 1 [(k : Int)]) := by
          have q := (sl_new (c := icod) (w2.alloc (.cells #[.int .i64 cx, .int .i64 cy] 151)) #[.int .i64 k] 3 [(k : Int)] 1 rfl (by unfold maxLen; omega) rfl).below (Below.drew (Below.refl _ _))
          rw [World.size_alloc] at q
          exact sl_grown q hg4 (by omega)
        have HLN : Hid ((idxs (S.take k) z cx cy).length ≤ 200) := by
          have := idxs_len (S.take k) z cx cy
          rw [List.length_take] at this
          show _ ≤ _
          omega
        have HM1 : Hid ((idxs (S.take k) z cx cy).length + 1 ≤ maxLen) := by have := HLN.out; show _ ≤ _; unfold maxLen; omega
        have HM2 : Hid (((idxs (S.take k) z cx cy).length + 1) * 8 ≤ 140737488355328) := by have := HLN.out; show _ ≤ _; omega
        have HS4 : Hid (w1.heap.size + 2 ≤ w4.heap.size) := by
          have := hg4.size
          have := hbm.size
          show _ ≤ _
          omega
        clear ho4 hg4 hst hbm wfx wfy
        have hgl : w1.heap.size + 1 < w2.heap.size + 1 := by omega
        go_region_law (go_loud (refine step_app_at Ir.eltI rfl (.tmp 49) (.tmp 51) rfl v0 (idxs (S.take k) z cx cy) (by rfl) HO4.out ⟨w2.heap.size + 1, 0, none⟩ 1 1 [(k : Int)] (by rfl) HSL.out HM1.out HM2.out HS4.out ?_); rintro v5 w5 ho5 hg5 hat5; obtain ⟨w6, r6, hm6, hb6⟩ := HST.out w4 w5 v5 k (Below.refl _ _) ho5 hg5 hat5; have r6' : (Instr.entryStore 148 (.map (some w1.heap.size)) (.int .i64 (st : Int)) v5).run Tryz.prog w5 = .ok () w6 := r6; have HM6 := Lib.hid hm6; have HB6 := Lib.hid hb6; clear ho5 hg5 hat5 hm6 hb6)
        all_goals
          go_wp2_with fail
          go_roundw
          case rel =>
            refine ⟨k + 1, by omega, by go_num, ?_, ?_, HB6.out W3 (by omega) (grb_below hgb.out HBM.out)⟩
            · show _ = _
              rw [take_at HRk.out, List.all_append, he.out]; simp; exact HBB.out
            · have e : idxs (S.take (k + 1)) z = fun x' y' => if x' = cx ∧ y' = cy then idxs (S.take k) z cx cy ++ [(k : Int)] else idxs (S.take k) z x' y' := by
                funext X Y
                rw [HSN.out X Y]
                by_cases q : X = cx ∧ Y = cy
                · obtain ⟨rfl, rfl⟩ := q
                  simp only [and_self, if_true]
                · rw [if_neg q, if_neg (fun e => q ⟨e.1.symm, e.2.symm⟩)]
              show GMapO _ _ _ _ _
              rw [e]; exact HM6.out
          case measure => simp [intOf]; omega
    · have hk' : k = n := by omega
      have HK := Lib.hid hk'; clear hk'
      go_wp2_with fail
      go_ret2
      have e := he.out
      have ht : S.take k = S := by rw [HK.out, List.take_of_length_le (by rw [← hN.out]; exact Nat.le_refl _)]
      rw [ht] at e
      refine ⟨HB.out, .inr ⟨by rw [HR.out, if_pos e], _, ⟨ga, S.length, gc⟩, _, rfl, HG.out, ?_, ?_⟩⟩
      · have o := HO3.out.kept hgb.out (.inr (own_ne_map HO3.out HMB.out))
        obtain ⟨a', c', e', s', -⟩ := o.slice
        cases e'
        exact s'
      · have := hmp.out.close
        rwa [ht] at this
end Go.Proofs.YtlfbbahihenilaaGreat.Ne

namespace Go.Proofs.YtlfbbahihenilaaGreat.Ne
open Go.RowKit Go.V Go.Proofs
open Go.Maps (Keyed)

theorem GMap.looks {w : World} {b : Nat} {f : Int → Int → List Int} (h : GMap w b f) {x y : Int} (hx : Iok x) (hy : Iok y) :
    ∃ q : Hdr, ∀ w', Below w.heap.size w w' → (Instr.lookup 148 (.map (some b)) (Gr.cellV x y) false).run Tryz.prog w' = .ok (.slice q.a q.n q.cap) w' ∧ Sl icod w' q.a q.n q.cap (f x y) := by
  obtain ⟨n, D, U, h1, h2⟩ := h
  refine ⟨U x y, fun w' hb => ?_⟩
  have h1' := h1.kept (w' := w') (row := none) ⟨hb.os, hb.tape, hb.output, hb.size, fun i hi _ => hb.block i hi⟩ (by simp)
  obtain ⟨v, ps, r1, r2⟩ := h1'.lookup (Keyed.of_law Gr.lawCell) Tryz.underlying148 (zero_ints w') (show Gr.heldG noRow = some (.held noRow, []) from rfl) (key_of hx hy)
  obtain ⟨h3, h4⟩ := h2 x y hx hy
  rw [h3] at r2
  unfold Gr.heldG at r2
  cases r2
  exact ⟨r1, h4.below hb⟩

end Go.Proofs.YtlfbbahihenilaaGreat.Ne

namespace Go.Proofs.YtlfbbahihenilaaGreat.Ne
open Go.RowKit Go.V Go.Proofs

structure Fnd where
  stop : Int
  sq : Int
deriving DecidableEq, Inhabited
def Fnd.enc (r : Fnd) : List Value := [.int .i64 r.stop, .int .i64 r.sq]
def Fnd.cod : Cod Fnd := ⟨2, Fnd.enc, fun _ => rfl, by simp [Fnd.enc, Value.oneCell']⟩
abbrev Fnd.val (r : Fnd) : Value := .agg #[.int .i64 r.stop, .int .i64 r.sq]
theorem infoF : (Tryz.prog.info? 173).map (fun i => (i.zero, i.size, i.bytes)) = some (some (.agg #[.int .i64 0, .int .i64 0]), 2, 16) := by kernel_rfl
theorem eltF : Elt Tryz.prog 169 173 Fnd.cod 16 := Elt.of Tryz.underlying169 infoF rfl (by decide)
theorem fnd_at {w : World} {a : Option Addr} {n cap : Nat} {l : List Fnd} (h : Sl Fnd.cod w a n cap l) {i : Nat} (hi : i < n) :
   ∃ b off r, a = some ⟨b, off, none⟩ ∧ b < w.heap.size ∧ l[i]? = some r ∧ w.cell? ⟨b, off + i * 2, none⟩ = some (.int .i64 r.stop) ∧ w.cell? ⟨b, off + i * 2 + 1, none⟩ = some (.int .i64 r.sq) := by
  obtain ⟨b, off, rfl, hb, r, hr, hc⟩ := h.some hi
  exact ⟨b, off, r, rfl, hb, hr, hc 0 _ rfl, hc 1 _ rfl⟩
/-- A stop, and the square of how far it is. -/
def fnd (p : Stp) (S : List Stp) (i : Int) : Fnd := ⟨i, sqG p (S.getD i.toNat default)⟩
/-- Those that are near enough. -/
def amE (p : Stp) (S : List Stp) (m : Int) (l : List Int) : List Fnd := (l.map (fnd p S)).filter fun f => decide (f.sq ≤ m)
theorem amE_snoc (p : Stp) (S : List Stp) (m : Int) (l : List Int) {k : Nat} {i : Int} (h : l[k]? = some i) : amE p S m (l.take (k + 1)) = if (fnd p S i).sq ≤ m then amE p S m (l.take k) ++ [fnd p S i] else amE p S m (l.take k) := by
  unfold amE
  rw [take_at h, List.map_append, List.filter_append]
  by_cases hh : (fnd p S i).sq ≤ m
  · rw [if_pos hh]; simp [hh]
  · rw [if_neg hh]; simp [hh]
theorem amE_len (p : Stp) (S : List Stp) (m : Int) (l : List Int) : (amE p S m l).length ≤ l.length := by
  unfold amE
  have := List.length_filter_le (fun f : Fnd => decide (f.sq ≤ m)) (l.map (fnd p S))
  rwa [List.length_map] at this
theorem grb_next {w w1 w2 : World} {r r' : Option Nat} (h : w.grownBy w1 r) (h' : w1.grownBy w2 r') (hr : r' = r ∨ ∃ k, r' = some k ∧ w.heap.size ≤ k) : w.grownBy w2 r :=
  ⟨h'.os.trans h.os, h'.tape.trans h.tape, h'.output.trans h.output, Nat.le_trans h.size h'.size, fun i hi hne => (h'.block i (Nat.lt_of_lt_of_le hi h.size) (fun e => by
    rcases hr with q | ⟨k, q, q2⟩
    · exact hne (e.trans q)
    · rw [q] at e
      have := Option.some.inj e
      omega)).trans (h.block i hi hne)⟩
theorem grb_box {w w1 : World} {r : Option Nat} (h : w.grownBy w1 r) {g : Nat} {o : Obj} (hg : w.heap[g]? = some o) (hne : some g ≠ r) : w1.heap[g]? = some o := (h.block g (box_lt hg) hne).trans hg

theorem sl_belowB {α : Type} {c : Cod α} {w w' : World} {a : Option Addr} {n cap B : Nat} {xs : List α} (h : Sl c w a n cap xs) (hb : Below B w w') (hB : ∀ d, a = some d → 0 < cap → d.block < B) : Sl c w' a n cap xs :=
  ⟨h.hlen, h.hcap, h.hmax, h.hnil, fun d hd hc => by
    obtain ⟨h1, h2, h3⟩ := h.hat d hd hc
    exact ⟨h1, Nat.lt_of_lt_of_le h2 hb.size, fun j u hu => by rw [hb.cell (p := ⟨d.block, d.off + j, none⟩) (hB d hd hc)]; exact h3 j u hu⟩⟩
theorem below_of_grb {w w' : World} {B : Nat} {r : Option Nat} (h : w.grownBy w' r) (hr : ∀ k, r = some k → B ≤ k) (hB : B ≤ w.heap.size) : Below B w w' :=
  ⟨h.os, h.tape, h.output, h.size, fun k hk => h.block k (by omega) (fun e => by have := hr k e.symm; omega)⟩

set_option maxHeartbeats 4000000 in
theorem gram_any (g : Nat) (hs : Hdr) (z : Int) (b : Nat) (S : List Stp) (p : Stp) (m : Int) (B : Nat) (out : Value) (outl : List Fnd) (a : Option Addr) (n cap : Nat) (l : List Int) (w : World)
    (hB : B ≤ w.heap.size) (hn : n + outl.length ≤ 1000000) (hin : ∀ i ∈ l, ∃ j : Nat, i = (j : Int) ∧ j < S.length)
    (h : GBox w g hs z b) (hgB : g < B) (hS : Sl Stp.cod w hs.a hs.n hs.cap S) (hSB : ∀ d, hs.a = some d → 0 < hs.cap → d.block < B) (ho : V.Own 173 Fnd.cod B w out outl) (hl : Sl icod w a n cap l) (hlB : ∀ d, a = some d → 0 < cap → d.block < B) :
    Calls Tryz.prog 113 #[gP g, out, .slice a n cap, p.val, .int .i64 m] w fun e w' => ∃ v, e = .returned v ∧ V.Own 173 Fnd.cod B w' v (outl ++ amE p S m l) ∧ w.grownBy w' out.ownBlock ∧ (v.ownBlock = out.ownBlock ∨ ∃ k, v.ownBlock = some k ∧ w.heap.size ≤ k) := by
  have hN := Lib.hid hl.hlen
  have hSN := Lib.hid hS.hlen
  have hrow : Hid (∀ k, out.ownBlock = some k → B ≤ k ∧ k < w.heap.size) := fun k hk => World.ownsRow.lt ho k hk
  have HX0 : Hid ((w.alloc (.cells #[.int .i64 p.x, .int .i64 p.y] 70)).heap[w.heap.size]? = some (.cells #[.int .i64 p.x, .int .i64 p.y] 70 (0, 0))) := box_new _ _
  have HB0 : Hid (Below w.heap.size w (w.alloc (.cells #[.int .i64 p.x, .int .i64 p.y] 70))) := (Below.refl _ _).alloc (Nat.le_refl _) _
  have HG := Lib.hid h
  have HS := Lib.hid hS
  have HL := Lib.hid hl
  have HO0 := Lib.hid (ho.below HB0.out)
  have HIN := Lib.hid hin
  have hm : n ≤ 9223372036854775807 := by omega
  clear h hS hl ho hin
  go_enter Tryz.func113, Tryz.ntmps113
  go_wp2
  go_loopw [1, 16] (fun v i wr => ∃ (k : Nat), k ≤ n ∧ i = .int .i64 k ∧ Hid (V.Own 173 Fnd.cod B wr v (outl ++ amE p S m (l.take k))) ∧ Hid ((w.alloc (.cells #[.int .i64 p.x, .int .i64 p.y] 70)).grownBy wr out.ownBlock) ∧ Hid (v.ownBlock = out.ownBlock ∨ ∃ k, v.ownBlock = some k ∧ w.heap.size + 1 ≤ k)) (fun _ i _ => n - (intOf i).toNat)
  case atStart => exact ⟨0, by omega, rfl, by show V.Own _ _ _ _ _ _; simpa [amE] using HO0.out, ⟨rfl, rfl, rfl, Nat.le_refl _, fun _ _ _ => rfl⟩, .inl rfl⟩
  case round =>
    obtain ⟨k, hk, rfl, ho, hgb, hat⟩ := hrel
    have HBB : Hid (Below B w wr) := (HB0.out.mono hB).trans (below_of_grb hgb.out (fun k hk => (hrow.out k hk).1) (by simp; omega))
    by_cases hlt : k < n
    · obtain ⟨bl, offl, i, rfl, hbl, hi, c0⟩ := int_at (sl_belowB HL.out HBB.out hlB) hlt
      obtain ⟨j, rfl, hj⟩ := HIN.out i (List.mem_of_getElem? hi)
      obtain ⟨bs, offs, r, hsa, hbs, hr, d0, d1⟩ := stp_at (sl_belowB HS.out HBB.out hSB) (i := j) (by rw [hSN.out]; exact hj)
      have HG1 : Hid (GBox wr g hs z b) := (HBB.out.block g hgB).trans HG.out
      obtain ⟨h0, h1, h2, h3⟩ := HG1.out.cells
      have HX1 := Lib.hid (grb_box hgb.out HX0.out (fun e => by have := (hrow.out _ e.symm).2; omega))
      obtain ⟨y0, y1, -, -⟩ := box2_cells HX1.out
      rw [hsa] at h1
      have hjn : (j : Int) < (hs.n : Int) := by rw [hSN.out]; omega
      have hltz : (k : Int) < n := by omega
      have HI := Lib.hid hi
      have hf : fnd p S (j : Int) = ⟨j, sqG p r⟩ := by
        unfold fnd
        rw [Int.toNat_natCast, List.getD_eq_getElem?_getD, hr]; rfl
      have HSN := Lib.hid (amE_snoc p S m l hi)
      rw [hf] at HSN
      obtain ⟨q, hq⟩ : ∃ q, sqG p r = q := ⟨_, rfl⟩
      have HQ := Lib.hid hq
      have hqi := sqG_in p r
      rw [hq] at HSN hqi
      clear hi hf hq hr
      have HK : Hid (∀ w', Below wr.heap.size wr w' → w'.cell? ⟨w.heap.size, 0, none⟩ = some (.int .i64 p.x) ∧ w'.cell? ⟨w.heap.size, 1, none⟩ = some (.int .i64 p.y) ∧ w'.cell? ⟨g, 0, none⟩ = some (.slice (some ⟨bs, offs, none⟩) hs.n hs.cap) ∧ w'.cell? ⟨bs, offs + j * 2, none⟩ = some (.int .i64 r.x) ∧ w'.cell? ⟨bs, offs + j * 2 + 1, none⟩ = some (.int .i64 r.y)) := fun w' hb => ⟨(hb.cell (p := ⟨w.heap.size, 0, none⟩) (box_lt HX1.out)).trans y0, (hb.cell (p := ⟨w.heap.size, 1, none⟩) (box_lt HX1.out)).trans y1, (hb.cell (p := ⟨g, 0, none⟩) h0).trans h1, (hb.cell (p := ⟨bs, offs + j * 2, none⟩) hbs).trans d0, (hb.cell (p := ⟨bs, offs + j * 2 + 1, none⟩) hbs).trans d1⟩
      go_upto_region 4 with fail
      go_region_held3 (fun w' => w'.cell? ⟨w.heap.size, 0, none⟩ = some (.int .i64 p.x) ∧ w'.cell? ⟨w.heap.size, 1, none⟩ = some (.int .i64 p.y) ∧ w'.cell? ⟨g, 0, none⟩ = some (.slice (some ⟨bs, offs, none⟩) hs.n hs.cap) ∧ w'.cell? ⟨bs, offs + j * 2, none⟩ = some (.int .i64 r.x) ∧ w'.cell? ⟨bs, offs + j * 2 + 1, none⟩ = some (.int .i64 r.y)) (first | go_keep | exact HK.out _ ((Below.drew (Below.refl _ _)).trans HC1.out)) (first | (go_at_call 103; go_fit (gsq_any p r _); rintro e w1 ⟨rfl, hb1⟩; rw [HQ.out]; have HC1 := Lib.hid hb1; clear hb1))
      all_goals
        have HW1 : Hid (Below wr.heap.size wr w1) := (Below.drew (Below.refl _ _)).trans HC1.out
        have HO1 := Lib.hid (ho.out.below HW1.out)
        have HGB1 : Hid ((w.alloc (.cells #[.int .i64 p.x, .int .i64 p.y] 70)).grownBy w1 out.ownBlock) := grb_below hgb.out HW1.out
        have hw1 : wr.heap.size ≤ w1.heap.size := HW1.out.size
        have hwr : w.heap.size + 1 ≤ wr.heap.size := by have := hgb.out.size; simp at this; omega
        by_cases hqm : q ≤ m
        · have HS2 : Hid (amE p S m (l.take (k + 1)) = amE p S m (l.take k) ++ [⟨j, q⟩]) := by show _ = _; rw [HSN.out, if_pos hqm]
          have HLN : Hid ((outl ++ amE p S m (l.take k)).length ≤ 1000000) := by
            have := amE_len p S m (l.take k)
            rw [List.length_take] at this
            show _ ≤ _
            rw [List.length_append]
            omega
          have HM1 : Hid ((outl ++ amE p S m (l.take k)).length + 1 ≤ maxLen) := by have := HLN.out; show _ ≤ _; unfold maxLen; omega
          have HM2 : Hid (((outl ++ amE p S m (l.take k)).length + 1) * 16 ≤ 140737488355328) := by have := HLN.out; show _ ≤ _; omega
          go_wp2_with (at_builtin; go_loud (refine wpList_app_at eltF rfl (.tmp 32) (.tmp 36) rfl (base := B) _ _ rfl (HO1.out.alloc _) _ 1 1 [⟨j, q⟩] rfl (sl_new (c := Fnd.cod) w1 #[.int .i64 j, .int .i64 q] 173 [⟨j, q⟩] 1 rfl (by unfold maxLen; omega) rfl) HM1.out HM2.out (by simp; omega) ?_); intro v5 w5 ho5 hg5 hat5; have HO5 := Lib.hid ho5; have HG5 := Lib.hid hg5; have HA5 := Lib.hid hat5; clear ho5 hg5 hat5)
          go_roundw
          case rel =>
            refine ⟨k + 1, by omega, by go_num, ?_, ?_, ?_⟩
            · show V.Own _ _ _ _ _ _
              rw [HS2.out, ← List.append_assoc]; exact HO5.out
            · refine grb_next (grb_below HGB1.out ((Below.refl _ _).alloc (Nat.le_refl _) _)) HG5.out ?_
              rcases hat.out with e | ⟨k', e, e2⟩
              · exact .inl e
              · exact .inr ⟨k', e, by simp; omega⟩
            · rcases HA5.out with e | e
              · rw [show (v5.ownBlock = out.ownBlock ∨ ∃ k, v5.ownBlock = some k ∧ w.heap.size + 1 ≤ k) ↔ _ from by rw [e]]
                exact hat.out
              · exact .inr ⟨_, e, by simp; omega⟩
          case measure => simp [intOf]; omega
        · have HS2 : Hid (amE p S m (l.take (k + 1)) = amE p S m (l.take k)) := by show _ = _; rw [HSN.out, if_neg hqm]
          go_wp2_with fail
          go_roundw
          case rel => exact ⟨k + 1, by omega, by go_num, by rw [HS2.out]; exact HO1.out, HGB1.out, hat.out⟩
          case measure => simp [intOf]; omega
    · have hk' : k = n := by omega
      have ht : l.take k = l := by rw [hk', List.take_of_length_le (by rw [← hN.out]; exact Nat.le_refl _)]
      rw [ht] at ho
      clear hk' ht
      go_wp2_with fail
      go_ret
      refine ⟨_, rfl, ho.out, grb_trans (World.grownBy_alloc w _ _) hgb.out, ?_⟩
      rcases hat.out with e | ⟨k', e, e2⟩
      · exact .inl e
      · exact .inr ⟨k', e, by omega⟩
end Go.Proofs.YtlfbbahihenilaaGreat.Ne

namespace Go.Proofs.YtlfbbahihenilaaGreat.Ne
open Go.RowKit Go.V Go.Proofs

def oneF : Nat := 4607182418800017408
def stepF : Nat → Nat × Nat
  | 0 => (0, oneF)
  | i + 1 => (cMulBits (stepF i).1 (stepF i).2 0 oneF).getD (0, 0)
def beginF (r : Nat) : Nat × Nat := (floatOfInt .f64 (r : Int), floatOfInt .f64 (-(r : Int)))
def addF (a s : Nat × Nat) : Nat × Nat := (cSumBits .add .f64 a.1 a.2 s.1 s.2).getD (0, 0)
def posF (a s : Nat × Nat) : Nat → Nat × Nat
  | 0 => a
  | j + 1 => addF (posF a s j) s
def sideF (r : Nat) : Nat → Nat × Nat
  | 0 => beginF r
  | i + 1 => posF (sideF r i) (stepF i) (2 * r)
def cellF (a : Nat × Nat) : Int × Int := ((floatToIntVal .f64 a.1 .i64).getD 0, (floatToIntVal .f64 a.2 .i64).getD 0)
def sideL (r i : Nat) (j : Nat) : List (Int × Int) := (List.range j).map fun j => cellF (posF (sideF r i) (stepF i) (j + 1))
def ringL (r : Nat) : List (Int × Int) := if r = 0 then [(0, 0)] else (List.range 4).flatMap fun i => sideL r i (2 * r)
/-- The same ring, in whole numbers. -/
def tabL (r : Nat) : List (Int × Int) := if r = 0 then [(0, 0)] else
  (List.range (2 * r)).map (fun j : Nat => ((r : Int), -(r : Int) + (j + 1))) ++ (List.range (2 * r)).map (fun j : Nat => ((r : Int) - (j + 1), (r : Int))) ++
  (List.range (2 * r)).map (fun j : Nat => (-(r : Int), (r : Int) - (j + 1))) ++ (List.range (2 * r)).map (fun j : Nat => (-(r : Int) + (j + 1), -(r : Int)))
def squareL (R : Nat) : List (Int × Int) := (List.range (R + 1)).flatMap tabL
/-- All goes well on the way. -/
def goodF (r : Nat) : Bool := (List.range 4).all fun i => (cMulBits (stepF i).1 (stepF i).2 0 oneF).isSome && (List.range (2 * r)).all fun j => (cSumBits .add .f64 (posF (sideF r i) (stepF i) j).1 (posF (sideF r i) (stepF i) j).2 (stepF i).1 (stepF i).2).isSome && (floatToIntVal .f64 (posF (sideF r i) (stepF i) (j + 1)).1 .i64).isSome && (floatToIntVal .f64 (posF (sideF r i) (stepF i) (j + 1)).2 .i64).isSome
def eqB : List (Int × Int) → List (Int × Int) → Bool
  | [], [] => true
  | x :: xs, y :: ys => decide (x.1 = y.1) && decide (x.2 = y.2) && eqB xs ys
  | _, _ => false
theorem goodF_all : ((List.range 7).all fun r => goodF r && eqB (ringL r) (tabL r)) = true := by kernel_rfl
def nodupB : List (Int × Int) → Bool
  | [] => true
  | x :: xs => (xs.all fun y => !(decide (x.1 = y.1) && decide (x.2 = y.2))) && nodupB xs
def gridB (R : Nat) : List (Int × Int) := (List.range (2 * R + 1)).flatMap fun (i : Nat) => (List.range (2 * R + 1)).map fun (j : Nat) => ((i : Int) - R, (j : Int) - R)
def coverB (R : Nat) : Bool := (gridB R).all fun x => (squareL R).any fun y => decide (x.1 = y.1) && decide (x.2 = y.2)
def smallB (R : Nat) : Bool := (squareL R).all fun x => decide (-6 ≤ x.1) && decide (x.1 ≤ 6) && decide (-6 ≤ x.2) && decide (x.2 ≤ 6)
theorem nodupB_all : ((List.range 7).all fun R => nodupB (squareL R)) = true := by kernel_rfl
theorem coverB_all : ((List.range 7).all fun R => coverB R) = true := by kernel_rfl
theorem smallB_all : ((List.range 7).all fun R => smallB R) = true := by kernel_rfl
end Go.Proofs.YtlfbbahihenilaaGreat.Ne

namespace Go.Proofs.YtlfbbahihenilaaGreat.Ne
open Go.RowKit Go.V Go.Proofs

theorem eqB_eq : ∀ a b : List (Int × Int), eqB a b = true → a = b
  | [], [], _ => rfl
  | x :: xs, y :: ys, h => by
    unfold eqB at h
    simp only [Bool.and_eq_true, decide_eq_true_eq] at h
    obtain ⟨⟨h1, h2⟩, h3⟩ := h
    rw [eqB_eq xs ys h3]
    obtain ⟨x1, x2⟩ := x
    obtain ⟨y1, y2⟩ := y
    simp at h1 h2
    rw [h1, h2]
  | [], _ :: _, h => by cases h
  | _ :: _, [], h => by cases h
theorem ring_tab {r : Nat} (hr : r ≤ 6) : ringL r = tabL r := by
  have := List.all_eq_true.1 goodF_all r (List.mem_range.2 (by omega))
  rw [Bool.and_eq_true] at this
  exact eqB_eq _ _ this.2
theorem good_mul {r i : Nat} (hr : r ≤ 6) (hi : i < 4) : cMulBits (stepF i).1 (stepF i).2 0 oneF = some ((stepF (i + 1)).1, (stepF (i + 1)).2) := by
  have := List.all_eq_true.1 goodF_all r (List.mem_range.2 (by omega))
  rw [Bool.and_eq_true] at this
  have := List.all_eq_true.1 this.1 i (List.mem_range.2 hi)
  rw [Bool.and_eq_true] at this
  obtain ⟨v, hv⟩ := Option.isSome_iff_exists.1 this.1
  have e : stepF (i + 1) = v := by show (cMulBits (stepF i).1 (stepF i).2 0 oneF).getD (0, 0) = v; rw [hv]; rfl
  rw [hv, e]
theorem good_add {r i j : Nat} (hr : r ≤ 6) (hi : i < 4) (hj : j < 2 * r) :
    cSumBits .add .f64 (posF (sideF r i) (stepF i) j).1 (posF (sideF r i) (stepF i) j).2 (stepF i).1 (stepF i).2 = some ((posF (sideF r i) (stepF i) (j + 1)).1, (posF (sideF r i) (stepF i) (j + 1)).2) ∧
    floatToIntVal .f64 (posF (sideF r i) (stepF i) (j + 1)).1 .i64 = some (cellF (posF (sideF r i) (stepF i) (j + 1))).1 ∧ floatToIntVal .f64 (posF (sideF r i) (stepF i) (j + 1)).2 .i64 = some (cellF (posF (sideF r i) (stepF i) (j + 1))).2 := by
  have := List.all_eq_true.1 goodF_all r (List.mem_range.2 (by omega))
  rw [Bool.and_eq_true] at this
  have := List.all_eq_true.1 this.1 i (List.mem_range.2 hi)
  rw [Bool.and_eq_true] at this
  have := List.all_eq_true.1 this.2 j (List.mem_range.2 hj)
  rw [Bool.and_eq_true, Bool.and_eq_true] at this
  obtain ⟨⟨h1, h2⟩, h3⟩ := this
  obtain ⟨v, hv⟩ := Option.isSome_iff_exists.1 h1
  obtain ⟨x, hx⟩ := Option.isSome_iff_exists.1 h2
  obtain ⟨y, hy⟩ := Option.isSome_iff_exists.1 h3
  have e : posF (sideF r i) (stepF i) (j + 1) = v := by show (cSumBits .add .f64 (posF (sideF r i) (stepF i) j).1 (posF (sideF r i) (stepF i) j).2 (stepF i).1 (stepF i).2).getD (0, 0) = v; rw [hv]; rfl
  refine ⟨by rw [hv, e], ?_, ?_⟩
  · rw [hx]; unfold cellF; simp only [hx]; rfl
  · rw [hy]; unfold cellF; simp only [hy]; rfl

def ccod : Cod (Int × Int) := ⟨2, fun c => [.int .i64 c.1, .int .i64 c.2], fun _ => rfl, by simp [Value.oneCell']⟩
theorem infoC : (Tryz.prog.info? 151).map (fun i => (i.zero, i.size, i.bytes)) = some (some (.agg #[.int .i64 0, .int .i64 0]), 2, 16) := by kernel_rfl
theorem eltC : Elt Tryz.prog 179 151 ccod 16 := Elt.of Tryz.underlying179 infoC rfl (by decide)
theorem cell_at {w : World} {a : Option Addr} {n cap : Nat} {l : List (Int × Int)} (h : Sl ccod w a n cap l) {i : Nat} (hi : i < n) :
   ∃ b off r, a = some ⟨b, off, none⟩ ∧ b < w.heap.size ∧ l[i]? = some r ∧ w.cell? ⟨b, off + i * 2, none⟩ = some (.int .i64 r.1) ∧ w.cell? ⟨b, off + i * 2 + 1, none⟩ = some (.int .i64 r.2) := by
  obtain ⟨b, off, rfl, hb, r, hr, hc⟩ := h.some hi
  exact ⟨b, off, r, rfl, hb, hr, hc 0 _ rfl, hc 1 _ rfl⟩

set_option maxHeartbeats 1000000 in
theorem gcell_any (a b : Nat) (x y : Int) (w : World) (hx : floatToIntVal .f64 a .i64 = some x) (hy : floatToIntVal .f64 b .i64 = some y) :
    Calls Tryz.prog 119 #[.complex .f64 a b] w fun e w' => e = .returned (.agg #[.int .i64 x, .int .i64 y]) ∧ Below w.heap.size w w' := by
  have c1 : ∀ w, (convert 189 3 (.float .f64 a)).run Tryz.prog w = .ok (.int .i64 x) w := fun w => run_convert_float_int w _ _ _ _ _ _ (by rw [Tryz.underlying189]; rfl) Tryz.underlying3 hx
  have c2 : ∀ w, (convert 189 3 (.float .f64 b)).run Tryz.prog w = .ok (.int .i64 y) w := fun w => run_convert_float_int w _ _ _ _ _ _ (by rw [Tryz.underlying189]; rfl) Tryz.underlying3 hy
  go_enter Tryz.func119, Tryz.ntmps119
  go_wp2_with fail
  refine bodyPost_ret (results_cell_row rfl _ _ w.heap.size _ _ _ _ rfl (box_new w _) Tryz.underlying151 rfl (by kernel_rfl)) rfl ?_
  exact ⟨rfl, (Below.refl _ _).alloc (Nat.le_refl _) _⟩
end Go.Proofs.YtlfbbahihenilaaGreat.Ne
