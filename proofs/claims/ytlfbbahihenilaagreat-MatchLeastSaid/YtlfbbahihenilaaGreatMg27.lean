/- Candidates: ref21.All: walked. -/
/- Candidates: where there are no points: walked. -/
import Derived.Test.YtlfbbahihenilaaGreatMg26
import Derived.Test.YtlfbbahihenilaaGreatMg02
import Derived.Test.YtlfbbahihenilaaGreatMhCnC
namespace Go.Proofs.YtlfbbahihenilaaGreat.Ne
open Go.RowKit Go.V Go.Proofs

theorem infoPts : (Tryz.prog.info? 110).map (fun i => (i.zero, i.size, i.bytes)) = some (some (.slice none 0 0), 1, 24) := by kernel_rfl
theorem eltPts : Elt Tryz.prog 63 110 Hdr.cod 24 := Elt.of Tryz.underlying63 infoPts rfl (by decide)
def rowE (n : Net) (x : Wgh) (s : Smp) : List Fnd := ptsE n.stops s x.reach x.most.toNat
/-- Why there are none. -/
def allErr (n : Net) (x : Wgh) (l : List Smp) : Int := if checkE n = 0 then (if mayW x = true then (if rightS l = true then (if l ≠ [] ∧ ∀ s ∈ l, rowE n x s ≠ [] then 0 else 31) else 2) else 2) else checkE n
def AllR (n : Net) (x : Wgh) (l : List Smp) (w : World) (e : Ending) (w' : World) : Prop :=
  ∃ v hs, e = .returned (.tuple #[v, .int .i64 (allErr n x l)]) ∧ OwnG 141 110 Fnd.cod w.heap.size w' v hs (if allErr n x l = 0 then l.map (rowE n x) else []) ∧ Below w.heap.size w w'
theorem allR_bad {n : Net} {x : Wgh} {l : List Smp} {w w' : World} {E : Int} (hE : allErr n x l = E) (h0 : E ≠ 0) (hb : Below w.heap.size w w') : AllR n x l w (.returned (.tuple #[.slice none 0 0, .int .i64 E])) w' :=
  ⟨_, [], by rw [hE], by rw [if_neg (by rw [hE]; exact h0)]; exact OwnG.nil, hb⟩
theorem allErr_check {n : Net} {x : Wgh} {l : List Smp} (h : checkE n ≠ 0) : allErr n x l = checkE n := by unfold allErr; rw [if_neg h]
theorem allErr_may {n : Net} {x : Wgh} {l : List Smp} (h : checkE n = 0) (hm : mayW x = false) : allErr n x l = 2 := by unfold allErr; rw [if_pos h, if_neg (by rw [hm]; decide)]
theorem allErr_right {n : Net} {x : Wgh} {l : List Smp} (h : checkE n = 0) (hm : mayW x = true) (hr : rightS l = false) : allErr n x l = 2 := by unfold allErr; rw [if_pos h, if_pos hm, if_neg (by rw [hr]; decide)]
theorem allErr_none {n : Net} {x : Wgh} {l : List Smp} (h : checkE n = 0) (hm : mayW x = true) (hr : rightS l = true) (hl : l = [] ∨ ∃ s ∈ l, rowE n x s = []) : allErr n x l = 31 := by
  unfold allErr
  rw [if_pos h, if_pos hm, if_pos hr, if_neg]
  rintro ⟨h1, h2⟩
  rcases hl with e | ⟨s, hs, e⟩
  · exact h1 e
  · exact h2 s hs e
theorem allErr_ok {n : Net} {x : Wgh} {l : List Smp} (h : checkE n = 0) (hm : mayW x = true) (hr : rightS l = true) (h1 : l ≠ []) (h2 : ∀ s ∈ l, rowE n x s ≠ []) : allErr n x l = 0 := by
  unfold allErr
  rw [if_pos h, if_pos hm, if_pos hr, if_pos ⟨h1, h2⟩]
theorem mayW_reach {x : Wgh} (h : mayW x = true) : 0 ≤ x.reach ∧ x.reach ≤ 1048576 ∧ 0 ≤ x.most ∧ x.most ≤ 16 ∧ 1 ≤ x.most := by
  unfold mayW at h
  simp only [Bool.and_eq_true] at h
  have h1 := of_decide_eq_true h.1.1.1
  have h2 := of_decide_eq_true h.1.1.2
  omega
theorem row_hdr {w : World} {B : Nat} {v : Value} {g : List Fnd} (h : V.Own 141 Fnd.cod B w v g) : ∃ q : Hdr, v = q.val ∧ q.n = g.length := by
  obtain ⟨a, c, e, -, -⟩ := h.slice
  exact ⟨⟨a, g.length, c⟩, e, rfl⟩

theorem ownG_lower {α : Type} {e1 e2 : TypeId} {c : Cod α} {base base' : Nat} {w : World} {v : Value} {hs : List Hdr} {gs : List (List α)} (h : OwnG e1 e2 c base w v hs gs) (hb : base' ≤ base) : OwnG e1 e2 c base' w v hs gs :=
  ⟨h.own.lower hb, h.len, fun i hh g h1 h2 => ⟨(h.each i hh g h1 h2).1.lower hb, (h.each i hh g h1 h2).2⟩, h.inc⟩
set_option maxHeartbeats 8000000 in
set_option maxRecDepth 100000 in
theorem r21all_any (n : Net) (hs hl : Hdr) (x : Wgh) (a : Option Addr) (k cap : Nat) (l : List Smp) (w : World) (hm : hs.n ≤ 200 ∧ hl.n ≤ 1000000) (hk : k ≤ 2048) (hnet : NetIn w n hs hl) (hl0 : Sl Smp.cod w a k cap l) :
    Calls Tryz.prog 23 #[n.val hs hl, x.val, .slice a k cap] w (AllR n x l w) := by
  obtain ⟨xr, xm, xf, xc⟩ := x
  have HX0 : Hid (((w.alloc (n.box hs hl)).alloc (Wgh.mk xr xm xf xc).box).heap[w.heap.size]? = some (.cells #[.int .i64 n.ver, .slice hs.a hs.n hs.cap, .slice hl.a hl.n hl.cap] 25 (0, 0))) := box_alloc (box_new w _)
  have HY0 : Hid (((w.alloc (n.box hs hl)).alloc (Wgh.mk xr xm xf xc).box).heap[w.heap.size + 1]? = some (.cells #[.int .i64 xr, .int .i64 xm, .int .i64 xf, .int .i64 xc] 29 (0, 0))) := by
    have := box_new (w.alloc (n.box hs hl)) (Wgh.mk xr xm xf xc).box
    rw [World.size_alloc] at this
    exact this
  have HB0 : Hid (Below w.heap.size w ((w.alloc (n.box hs hl)).alloc (Wgh.mk xr xm xf xc).box)) := ((Below.refl _ _).alloc (Nat.le_refl _) _).alloc (by simp) _
  obtain ⟨m1, m2⟩ := hm
  have HNT := Lib.hid hnet
  have HL := Lib.hid hl0
  have HKL := Lib.hid hl0.hlen
  have HSN : Hid (n.stops.length ≤ 200) := by show _ ≤ _; rw [← hnet.s.hlen]; exact m1
  obtain ⟨ce, hce⟩ : ∃ c, checkE n = c := ⟨_, rfl⟩
  obtain ⟨bm, hbm⟩ : ∃ b, mayW ⟨xr, xm, xf, xc⟩ = b := ⟨_, rfl⟩
  obtain ⟨br, hbr⟩ : ∃ b, rightS l = b := ⟨_, rfl⟩
  have HCE := Lib.hid hce
  have HBM := Lib.hid hbm
  have HBR := Lib.hid hbr
  clear hnet hl0 hce hbm hbr
  have hx0 := (box_cell HX0.out 0).1
  have hx1 := (box_cell HX0.out 1).1
  have hx2 := (box_cell HX0.out 2).1
  by_cases hc0 : ce = 0
  case neg =>
    have hcb : (ce != 0) = true := by simpa using hc0
    have HC := Lib.hid hc0
    clear hc0
    go_enter Tryz.func23, Tryz.ntmps23
    go_wp2_with (go_at_call 21; go_fit (rcheck_any n hs hl _ ⟨by omega, m2⟩ (HNT.out.below HB0.out)); rintro e w2 ⟨rfl, hb2⟩; rw [HCE.out]; have HB2 := Lib.hid (HB0.out.trans (hb2.mono HB0.out.size)); clear hb2)
    go_ret2
    exact allR_bad (by rw [allErr_check (by rw [HCE.out]; exact HC.out), HCE.out]) HC.out HB2.out
  case pos =>
    subst hc0
    cases bm with
    | false =>
      go_enter Tryz.func23, Tryz.ntmps23
      go_wp2_with (first
        | (go_at_call 21; go_fit (rcheck_any n hs hl _ ⟨by omega, m2⟩ (HNT.out.below HB0.out)); rintro e w2 ⟨rfl, hb2⟩; rw [HCE.out]; have HY2 := Lib.hid (box_below HY0.out hb2); obtain ⟨y0, y1, y2, y3⟩ := box4w_cells HY2.out; have HB2 := Lib.hid (HB0.out.trans (hb2.mono HB0.out.size)); clear hb2)
        | (go_at_call 31; go_fit (rcmay_any ⟨xr, xm, xf, xc⟩ _); rintro e w3 ⟨rfl, hb3⟩; rw [HBM.out]; have HB3 := Lib.hid (HB2.out.trans (hb3.mono HB2.out.size)); clear hb3))
      go_ret2
      exact allR_bad (allErr_may HCE.out HBM.out) (by decide) HB3.out
    | true =>
      cases br with
      | false =>
        go_enter Tryz.func23, Tryz.ntmps23
        go_wp2_with (first
          | (go_at_call 21; go_fit (rcheck_any n hs hl _ ⟨by omega, m2⟩ (HNT.out.below HB0.out)); rintro e w2 ⟨rfl, hb2⟩; rw [HCE.out]; have HY2 := Lib.hid (box_below HY0.out hb2); obtain ⟨y0, y1, y2, y3⟩ := box4w_cells HY2.out; have HB2 := Lib.hid (HB0.out.trans (hb2.mono HB0.out.size)); clear hb2)
          | (go_at_call 31; go_fit (rcmay_any ⟨xr, xm, xf, xc⟩ _); rintro e w3 ⟨rfl, hb3⟩; rw [HBM.out]; have HB3 := Lib.hid (HB2.out.trans (hb3.mono HB2.out.size)); clear hb3)
          | (go_at_call 59; go_fit (right06_any a k cap l _ hk (HL.out.below HB3.out)); rintro e w4 ⟨rfl, hb4⟩; rw [HBR.out]; have HB4 := Lib.hid (HB3.out.trans (hb4.mono HB3.out.size)); clear hb4))
        go_ret2
        exact allR_bad (allErr_right HCE.out HBM.out HBR.out) (by decide) HB4.out
      | true =>
        have HMR := Lib.hid (mayW_reach HBM.out)
        go_enter Tryz.func23, Tryz.ntmps23
        go_upto_block 0 with (first
          | (go_at_call 21; go_fit (rcheck_any n hs hl _ ⟨by omega, m2⟩ (HNT.out.below HB0.out)); rintro e w2 ⟨rfl, hb2⟩; rw [HCE.out]; have HX2 := Lib.hid (box_below HX0.out hb2); have HY2 := Lib.hid (box_below HY0.out hb2); obtain ⟨y0, y1, y2, y3⟩ := box4w_cells HY2.out; have HB2 := Lib.hid (HB0.out.trans (hb2.mono HB0.out.size)); clear hb2)
          | (go_at_call 31; go_fit (rcmay_any ⟨xr, xm, xf, xc⟩ _); rintro e w3 ⟨rfl, hb3⟩; rw [HBM.out]; have HX3 := Lib.hid (box_below HX2.out hb3); have HY3 := Lib.hid (box_below HY2.out hb3); have HB3 := Lib.hid (HB2.out.trans (hb3.mono HB2.out.size)); clear hb3)
          | (go_at_call 59; go_fit (right06_any a k cap l _ hk (HL.out.below HB3.out)); rintro e w4 ⟨rfl, hb4⟩; rw [HBR.out]; have HX4 := Lib.hid (box_below HX3.out hb4); have HY4 := Lib.hid (box_below HY3.out hb4); have HB4 := Lib.hid (HB3.out.trans (hb4.mono HB3.out.size)); clear hb4))
        clear hx0 hx1 hx2 y0 y1 y2 y3
        go_wp2_with fail
        have hw4 : w.heap.size + 2 ≤ w4.heap.size := by have := box_lt HY4.out; omega
        go_loopw [9, 10] (fun vo i wr => ∃ (j : Nat) (v : Value) (gh : List Hdr), v = vo ∧ j ≤ k ∧ i = .int .i64 j ∧ Hid (OwnG 141 110 Fnd.cod w4.heap.size wr v gh ((l.take j).map (rowE n ⟨xr, xm, xf, xc⟩))) ∧ Hid (∀ s ∈ l.take j, rowE n ⟨xr, xm, xf, xc⟩ s ≠ []) ∧ Hid (Below w4.heap.size w4 wr)) (fun _ i _ => k - (intOf i).toNat)
        case atStart => exact ⟨0, _, [], rfl, by omega, rfl, OwnG.nil, fun s hs => by simp at hs, Below.refl _ _⟩
        case round =>
          obtain ⟨j, v, gh, rfl, hj, rfl, ho, hne, hb⟩ := hrel
          have hsz : w4.heap.size ≤ wr.heap.size := hb.out.size
          have HBW : Hid (Below w.heap.size w wr) := HB4.out.trans (hb.out.mono HB4.out.size)
          by_cases hlt : j < k
          · have hltz : (j : Int) < (k : Int) := by omega
            obtain ⟨lb, lo, r, rfl, hlb, hrj, c0, c1, c2⟩ := smp_at (HL.out.below HBW.out) hlt
            have HX5 : Hid (wr.heap[w.heap.size]? = _) := (hb.out.block _ (by omega)).trans HX4.out
            have HY5 : Hid (wr.heap[w.heap.size + 1]? = _) := (hb.out.block _ (by omega)).trans HY4.out
            have HRJ := Lib.hid hrj
            have HK : Hid (∀ w', Below wr.heap.size wr w' → w'.cell? ⟨w.heap.size, 0, none⟩ = some (.int .i64 n.ver) ∧ w'.cell? ⟨w.heap.size, 1, none⟩ = some (.slice hs.a hs.n hs.cap) ∧ w'.cell? ⟨w.heap.size, 2, none⟩ = some (.slice hl.a hl.n hl.cap) ∧ w'.cell? ⟨w.heap.size + 1, 0, none⟩ = some (.int .i64 xr) ∧ w'.cell? ⟨w.heap.size + 1, 1, none⟩ = some (.int .i64 xm) ∧ w'.cell? ⟨w.heap.size + 1, 2, none⟩ = some (.int .i64 xf) ∧ w'.cell? ⟨w.heap.size + 1, 3, none⟩ = some (.int .i64 xc) ∧ w'.cell? ⟨lb, lo + j * 3, none⟩ = some (.int .i64 r.t) ∧ w'.cell? ⟨lb, lo + j * 3 + 1, none⟩ = some (.int .i64 r.x) ∧ w'.cell? ⟨lb, lo + j * 3 + 2, none⟩ = some (.int .i64 r.y)) := fun w' hw' => by
              have e1 := box3_cells (box_below HX5.out hw')
              have e2 := box4w_cells (box_below HY5.out hw')
              exact ⟨e1.1, e1.2.1, e1.2.2.1, e2.1, e2.2.1, e2.2.2.1, e2.2.2.2, (hw'.cell (p := ⟨lb, lo + j * 3, none⟩) hlb).trans c0, (hw'.cell (p := ⟨lb, lo + j * 3 + 1, none⟩) hlb).trans c1, (hw'.cell (p := ⟨lb, lo + j * 3 + 2, none⟩) hlb).trans c2⟩
            obtain ⟨f0, f1, f2, f3, f4, f5, f6, f7, f8, f9⟩ := HK.out _ (Below.refl _ _)
            obtain ⟨R, hR⟩ : ∃ R, rowE n ⟨xr, xm, xf, xc⟩ r = R := ⟨_, rfl⟩
            have HR := Lib.hid hR
            have HPT : Hid (∀ W, Below w.heap.size w W → Calls Tryz.prog 61 #[n.val hs hl, (Wgh.mk xr xm xf xc).val, r.val] W fun e w' => ∃ v, e = .returned v ∧ V.Own 141 Fnd.cod W.heap.size w' v R ∧ Below W.heap.size W w') := fun W hW => by
              rw [← hR]
              exact rpoints_any n hs hl ⟨xr, xm, xf, xc⟩ r W HSN.out ⟨HMR.out.1, HMR.out.2.1, HMR.out.2.2.1⟩ (HNT.out.below hW)
            clear hrj c0 c1 c2 hR
            go_upto_region 14 with fail
            go_region_held3 (fun w' => w'.cell? ⟨w.heap.size, 0, none⟩ = some (.int .i64 n.ver) ∧ w'.cell? ⟨w.heap.size, 1, none⟩ = some (.slice hs.a hs.n hs.cap) ∧ w'.cell? ⟨w.heap.size, 2, none⟩ = some (.slice hl.a hl.n hl.cap) ∧ w'.cell? ⟨w.heap.size + 1, 0, none⟩ = some (.int .i64 xr) ∧ w'.cell? ⟨w.heap.size + 1, 1, none⟩ = some (.int .i64 xm) ∧ w'.cell? ⟨w.heap.size + 1, 2, none⟩ = some (.int .i64 xf) ∧ w'.cell? ⟨w.heap.size + 1, 3, none⟩ = some (.int .i64 xc) ∧ w'.cell? ⟨lb, lo + j * 3, none⟩ = some (.int .i64 r.t) ∧ w'.cell? ⟨lb, lo + j * 3 + 1, none⟩ = some (.int .i64 r.x) ∧ w'.cell? ⟨lb, lo + j * 3 + 2, none⟩ = some (.int .i64 r.y)) (first | exact HK.out _ (Below.refl _ _) | exact HK.out _ (Below.drew (Below.refl _ _)) | exact HK.out _ HC5.out) (first
              | (go_at_call 61; go_fit (HPT.out _ (HBW.out.trans (Below.drew (Below.refl _ _) |>.mono HBW.out.size))); rintro e w5 ⟨v5, rfl, ho5, hb5⟩; obtain ⟨q5, rfl, hq5⟩ := row_hdr ho5; obtain ⟨qa, qn, qc⟩ := q5; (have hq5 : qn = R.length := hq5); subst hq5; have HO5 := Lib.hid ho5; have HC5 := Lib.hid ((Below.drew (Below.refl wr.heap.size wr)).trans hb5); clear ho5 hb5))
            all_goals
              have HB5 : Hid (Below w4.heap.size w4 w5) := hb.out.trans (HC5.out.mono hsz)
              have HBW5 : Hid (Below w.heap.size w w5) := HB4.out.trans (HB5.out.mono HB4.out.size)
              have hs5 : wr.heap.size ≤ w5.heap.size := HC5.out.size
              have hrm : r ∈ l := List.mem_of_getElem? HRJ.out
              cases hRn : R with
              | nil =>
                have HRN := Lib.hid hRn
                subst hRn
                go_wp2_with fail
                go_ret2
                exact allR_bad (allErr_none HCE.out HBM.out HBR.out (.inr ⟨r, hrm, HR.out⟩)) (by decide) HBW5.out
              | cons f0' fr =>
                have hR0 : 0 < R.length := by rw [hRn]; simp
                have HRne : Hid (R ≠ []) := by show _ ≠ _; rw [hRn]; simp
                rw [← hRn]
                clear hRn
                obtain ⟨rl, hrl⟩ : ∃ rl, R.length = rl := ⟨_, rfl⟩
                have hrz : ((rl : Int) == 0) = false := by simp; omega
                rw [hrl] at HO5 ⊢
                clear hrl hR0
                have hghl : gh.length ≤ 2048 := by have := ho.out.len; rw [List.length_map, List.length_take] at this; omega
                have HM1 : Hid (gh.length + 1 ≤ maxLen) := by show _ ≤ _; unfold maxLen; omega
                have HM2 : Hid ((gh.length + 1) * 24 ≤ 140737488355328) := by show _ ≤ _; omega
                have HG5 := Lib.hid (ho.out.below HC5.out)
                have HSN2 : Hid ((l.take (j + 1)).map (rowE n ⟨xr, xm, xf, xc⟩) = (l.take j).map (rowE n ⟨xr, xm, xf, xc⟩) ++ [R]) := by show _ = _; rw [take_at HRJ.out, List.map_append, List.map_cons, List.map_nil, HR.out]
                clear hghl
                go_wp2_with (at_builtin; go_loud (refine wpList_app eltPts rfl (.tmp 42) (.tmp 44) rfl (base := w4.heap.size) _ gh rfl (HG5.out.own.alloc _) _ 1 1 [⟨qa, rl, qc⟩] rfl (sl_new (c := Hdr.cod) w5 #[.slice qa rl qc] 110 [⟨qa, rl, qc⟩] 1 rfl (by unfold maxLen; omega) rfl) HM1.out HM2.out (by simp; omega) ?_); intro v6 w6 ho6 hg6; have HO6 := Lib.hid ho6; have HG6 := Lib.hid hg6; clear ho6 hg6)
                go_roundw
                case rel =>
                  refine ⟨j + 1, _, gh ++ [⟨qa, rl, qc⟩], rfl, by omega, by go_num, ?_, ?_, ?_⟩
                  · show OwnG _ _ _ _ _ _ _ _
                    rw [HSN2.out]
                    refine OwnG.push (by decide) (HG5.out.below ((Below.refl _ _).alloc (Nat.le_refl _) _)) ((HO5.out.lower hsz).alloc _) HRne.out (fun y hy => ?_) HO6.out HG6.out
                    have b1 := ho.out.lt y hy
                    have b2 : wr.heap.size ≤ (Hdr.mk qa rl qc).blk := (own_blk HO5.out HRne.out).2.2.1
                    omega
                  · intro s hs
                    rw [take_at HRJ.out, List.mem_append] at hs
                    rcases hs with hs | hs
                    · exact hne.out s hs
                    · rw [List.mem_singleton] at hs; subst hs; rw [HR.out]; exact HRne.out
                  · exact (HB5.out.alloc (by omega) _).trans (Ir.own_below (HG5.out.own.alloc _) HG6.out (by simp; omega))
                case measure => simp [intOf]; omega
          · have hjk : j = k := by omega
            have HT : Hid (l.take j = l) := by show _ = _; rw [hjk, List.take_of_length_le (by rw [HKL.out]; exact Nat.le_refl _)]
            obtain ⟨va, vc, hv, -⟩ := ho.out.sls
            rw [HT.out, List.length_map, ← HKL.out] at hv
            subst hv
            by_cases hk0 : k = 0
            · have hl0 : l = [] := List.eq_nil_of_length_eq_zero (by rw [← HKL.out]; exact hk0)
              have hkz : ((k : Int) == 0) = true := by simp [hk0]
              have HL0 := Lib.hid hl0
              clear hl0 hk0 hjk
              go_wp2_with fail
              go_ret2
              exact allR_bad (allErr_none HCE.out HBM.out HBR.out (.inl HL0.out)) (by decide) HBW.out
            · have hl0 : l ≠ [] := fun e => hk0 (by rw [HKL.out, e]; rfl)
              have hkz : ((k : Int) == 0) = false := by simp; omega
              have h00 := allErr_ok HCE.out HBM.out HBR.out hl0 (by have := hne.out; rwa [HT.out] at this)
              have H00 := Lib.hid h00
              clear hl0 hk0 hjk h00
              go_wp2_with fail
              go_ret2
              refine ⟨.slice va k vc, gh, by rw [H00.out]; rfl, ?_, HBW.out⟩
              rw [if_pos H00.out]
              have := ho.out
              rw [HT.out] at this
              exact ownG_lower this HB4.out.size
end Go.Proofs.YtlfbbahihenilaaGreat.Ne

namespace Go.Proofs.YtlfbbahihenilaaGreat.Ne
open Go.RowKit Go.V Go.Shelf Go.Proofs

set_option maxHeartbeats 8000000 in
set_option maxRecDepth 100000 in
theorem cpoints_bad (gv : Value) (gl : Int) (n : Net) (hs hl : Hdr) (x : Wgh) (s : Smp) (w : World)
    (hlen : ∀ W, Below w.heap.size w W → Calls Tryz.prog 83 #[gv] W fun e w' => e = .returned (.int .i64 gl) ∧ Below W.heap.size W w')
    (hbad : mayW x = false ∨ smpB s = false ∨ gl ≠ hs.n) :
    Calls Tryz.prog 52 #[gv, n.val hs hl, x.val, s.val] w fun e w' => e = .returned (.tuple #[.slice none 0 0, .int .i64 2]) ∧ Below w.heap.size w w' := by
  obtain ⟨xr, xm, xf, xc⟩ := x
  have HX0 : Hid ((((w.alloc (n.box hs hl)).alloc (Wgh.mk xr xm xf xc).box).alloc (.cells #[.int .i64 s.t, .int .i64 s.x, .int .i64 s.y] 73)).heap[w.heap.size]? = some (n.box hs hl)) := box_alloc (box_alloc (box_new w _))
  have HY0 : Hid ((((w.alloc (n.box hs hl)).alloc (Wgh.mk xr xm xf xc).box).alloc (.cells #[.int .i64 s.t, .int .i64 s.x, .int .i64 s.y] 73)).heap[w.heap.size + 1]? = some (Wgh.mk xr xm xf xc).box) := by
    have := box_new (w.alloc (n.box hs hl)) (Wgh.mk xr xm xf xc).box
    rw [World.size_alloc] at this
    exact box_alloc this
  have HZ0 : Hid ((((w.alloc (n.box hs hl)).alloc (Wgh.mk xr xm xf xc).box).alloc (.cells #[.int .i64 s.t, .int .i64 s.x, .int .i64 s.y] 73)).heap[w.heap.size + 2]? = some (.cells #[.int .i64 s.t, .int .i64 s.x, .int .i64 s.y] 73 (0, 0))) := by
    have := box_new ((w.alloc (n.box hs hl)).alloc (Wgh.mk xr xm xf xc).box) (.cells #[.int .i64 s.t, .int .i64 s.x, .int .i64 s.y] 73)
    rw [World.size_alloc, World.size_alloc] at this
    exact this
  have HB0 : Hid (Below w.heap.size w (((w.alloc (n.box hs hl)).alloc (Wgh.mk xr xm xf xc).box).alloc (.cells #[.int .i64 s.t, .int .i64 s.x, .int .i64 s.y] 73))) := (((Below.refl _ _).alloc (Nat.le_refl _) _).alloc (by simp) _).alloc (by simp; omega) _
  have hs0 : (((w.alloc (n.box hs hl)).alloc (Wgh.mk xr xm xf xc).box).alloc (.cells #[.int .i64 s.t, .int .i64 s.x, .int .i64 s.y] 73)).heap.size = w.heap.size + 3 := by simp
  have mixed : Tryz.prog.follows .mixedOrders = true := by kernel_rfl
  obtain ⟨bm, hbm⟩ : ∃ b, mayW ⟨xr, xm, xf, xc⟩ = b := ⟨_, rfl⟩
  obtain ⟨bs, hbs⟩ : ∃ b, smpB s = b := ⟨_, rfl⟩
  have HLEN := Lib.hid hlen
  have HBM := Lib.hid hbm
  have HBS := Lib.hid hbs
  rw [hbm, hbs] at hbad
  have HBAD := Lib.hid hbad
  clear hlen hbm hbs hbad
  refine (callsIn_wide (n := 8)).1 ?_
  refine callsIn_of_wp_marks Tryz.func52 rfl trivial ?_ rfl
  simp only [Tryz.ntmps52, List.size_toArray, List.length_cons, List.length_nil, Nat.reduceAdd, Nat.reduceSub, Array.replicate_succ, Array.replicate_zero, List.push_toArray, List.append_toArray, List.nil_append, List.cons_append]
  rw [wpIn_wide]
  go_upto_region 1 with fail
  obtain ⟨W0, hW0⟩ : ∃ W0, ((w.alloc (n.box hs hl)).alloc (Wgh.mk xr xm xf xc).box).alloc (.cells #[.int .i64 s.t, .int .i64 s.x, .int .i64 s.y] 73) = W0 := ⟨_, rfl⟩
  rw [hW0] at HX0 HY0 HZ0 HB0 hs0 ⊢
  clear hW0
  have x1 : W0.cell? ⟨w.heap.size, 1, none⟩ = some (.slice hs.a hs.n hs.cap) := (box_cell HX0.out 1).1
  have y0 : W0.cell? ⟨w.heap.size + 1, 0, none⟩ = some (.int .i64 xr) := (box_cell HY0.out 0).1
  have y1 : W0.cell? ⟨w.heap.size + 1, 1, none⟩ = some (.int .i64 xm) := (box_cell HY0.out 1).1
  have y2 : W0.cell? ⟨w.heap.size + 1, 2, none⟩ = some (.int .i64 xf) := (box_cell HY0.out 2).1
  have y3 : W0.cell? ⟨w.heap.size + 1, 3, none⟩ = some (.int .i64 xc) := (box_cell HY0.out 3).1
  have z0 : W0.cell? ⟨w.heap.size + 1 + 1, 0, none⟩ = some (.int .i64 s.t) := (box_cell HZ0.out 0).1
  have z1 : W0.cell? ⟨w.heap.size + 1 + 1, 1, none⟩ = some (.int .i64 s.x) := (box_cell HZ0.out 1).1
  have z2 : W0.cell? ⟨w.heap.size + 1 + 1, 2, none⟩ = some (.int .i64 s.y) := (box_cell HZ0.out 2).1
  have X1 := cell_regrown x1
  have Y0 := cell_regrown y0
  have Y1 := cell_regrown y1
  have Y2 := cell_regrown y2
  have Y3 := cell_regrown y3
  have Z0 := cell_regrown z0
  have Z1 := cell_regrown z1
  have Z2 := cell_regrown z2
  have q1 : ∀ nd osq, Calls Tryz.prog 29 #[(Wgh.mk xr xm xf xc).val] (Go.Sort.grow (redrawn W0 nd) osq) fun e w' => e = .returned (.bool bm) ∧ Below (Go.Sort.grow (redrawn W0 nd) osq).heap.size (Go.Sort.grow (redrawn W0 nd) osq) w' := fun nd osq => (cmay_any ⟨xr, xm, xf, xc⟩ _).mono fun e w' ⟨k1, k2⟩ => ⟨by rw [k1, HBM.out], k2⟩
  have q2 : ∀ nd osq, Calls Tryz.prog 50 #[s.val] (Go.Sort.grow (redrawn W0 nd) osq) fun e w' => e = .returned (.bool bs) ∧ Below (Go.Sort.grow (redrawn W0 nd) osq).heap.size (Go.Sort.grow (redrawn W0 nd) osq) w' := fun nd osq => (smay_any s _).mono fun e w' ⟨k1, k2⟩ => ⟨by rw [k1, HBS.out], k2⟩
  have q3 : ∀ nd osq, Calls Tryz.prog 83 #[gv] (Go.Sort.grow (redrawn W0 nd) osq) fun e w' => e = .returned (.int .i64 gl) ∧ Below (Go.Sort.grow (redrawn W0 nd) osq).heap.size (Go.Sort.grow (redrawn W0 nd) osq) w' := fun nd osq => HLEN.out _ (HB0.out.trans ((below_regrown W0 nd osq).mono HB0.out.size))
  clear x1 y0 y1 y2 y3 z0 z1 z2
  have HEND : Hid (∀ nd osq, Below w.heap.size w (Go.Sort.grow (redrawn W0 nd) osq)) := fun nd osq => HB0.out.trans ((below_regrown W0 nd osq).mono HB0.out.size)
  cases bm with
  | false =>
    refine wp_region_quiet_below (by assumption) (by kernel_rfl) ?_
    repeat (go_big_quiet_step (first
      | (go_at_call 29; exact Calls.regrown_of (q1 _ _))
      | (go_at_call 50; exact Calls.regrown_of (q2 _ _))
      | (go_at_call 83; exact Calls.regrown_of (q3 _ _))))
    refine wpQuiet_nil ?_
    intro w9 hw9
    obtain ⟨⟨nd, osq⟩, rfl⟩ := hw9
    have HB9 := Lib.hid (HEND.out nd osq)
    clear X1 Y0 Y1 Y2 Y3 Z0 Z1 Z2 q1 q2 q3
    generalize Go.Sort.grow (redrawn W0 nd) osq = w9 at HB9 ⊢
    go_wp2_with fail
    refine ⟨_, results_tmp2 rfl _ _ _, ?_⟩
    exact ⟨rfl, HB9.out⟩
  | true =>
    cases bs with
    | false =>
      refine wp_region_quiet_below (by assumption) (by kernel_rfl) ?_
      repeat (go_big_quiet_step (first
        | (go_at_call 29; exact Calls.regrown_of (q1 _ _))
        | (go_at_call 50; exact Calls.regrown_of (q2 _ _))
        | (go_at_call 83; exact Calls.regrown_of (q3 _ _))))
      refine wpQuiet_nil ?_
      intro w9 hw9
      obtain ⟨⟨nd, osq⟩, rfl⟩ := hw9
      have HB9 := Lib.hid (HEND.out nd osq)
      clear X1 Y0 Y1 Y2 Y3 Z0 Z1 Z2 q1 q2 q3
      generalize Go.Sort.grow (redrawn W0 nd) osq = w9 at HB9 ⊢
      go_wp2_with fail
      refine ⟨_, results_tmp2 rfl _ _ _, ?_⟩
      exact ⟨rfl, HB9.out⟩
    | true =>
      have hne : gl ≠ hs.n := by
        rcases HBAD.out with e | e | e
        · cases e
        · cases e
        · exact e
      have hneb : (gl != (hs.n : Int)) = true := by simpa using hne
      clear hne
      refine wp_region_quiet_below (by assumption) (by kernel_rfl) ?_
      repeat (go_big_quiet_step (first
        | (go_at_call 29; exact Calls.regrown_of (q1 _ _))
        | (go_at_call 50; exact Calls.regrown_of (q2 _ _))
        | (go_at_call 83; exact Calls.regrown_of (q3 _ _))))
      refine wpQuiet_nil ?_
      intro w9 hw9
      obtain ⟨⟨nd, osq⟩, rfl⟩ := hw9
      have HB9 := Lib.hid (HEND.out nd osq)
      clear X1 Y0 Y1 Y2 Y3 Z0 Z1 Z2 q1 q2 q3
      generalize Go.Sort.grow (redrawn W0 nd) osq = w9 at HB9 ⊢
      go_wp2_with fail
      refine ⟨_, results_tmp2 rfl _ _ _, ?_⟩
      exact ⟨rfl, HB9.out⟩
end Go.Proofs.YtlfbbahihenilaaGreat.Ne
