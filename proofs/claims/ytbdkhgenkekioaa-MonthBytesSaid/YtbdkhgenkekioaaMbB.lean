/- Months as bytes: month.Put, walked. -/
/- Months as bytes: the document's Put, walked (printed by gen_XMpB.py). -/
/- Months: are they one, by the document, walked (for those that are). -/
/- Months: the chapter's example, walked. -/
/- MonthBytes: what is put comes out as the reference puts it, and both take alike: walked. -/
/- How an argument is opened: a slice of things that are always so many cells. -/
/- Months: how arguments that hold them are opened. -/
/- MonthBytes answers true, whatever comes in, and what came in reads as it did; no condition. -/
import Derived.Test.YtbdkhgenkekioaaMbA
import Derived.Test.YtbdkhgenkekioaaMoC
import Derived.Test.YtbdkhgenkekioaaMoD
import Derived.Test.YtbdkhgenkekioaaMoB
import Derived.Deep.DeepFit
import Derived.Test.YtbdkhgenkekioaaMoS
import Derived.Test.YtbdkhgenkekioaaMoL
import Derived.Test.YtbdkhgenkekioaaWiE
import Derived.Test.YtbdkhgenkekioaaBase
import Derived.ProofKit
import Derived.OpenShut
import Derived.ShutString
import Derived.ChangeOld
import Derived.Below
import Derived.Deep.Slices
import Derived.Lib.SmallJoins
import Derived.Test.YtbdkhgenkekioaaMoA
import Derived.Test.YtbdkhgenkekioaaRows
namespace Go.Proofs.Ytbdkhgenkekioaa
open Go.RowKit Go.V Go.Sort Go.Shelf Go.Proofs Go.Maps Go.Proofs.Ytbdkhgenkekioaa.Wi
open Go.Proofs.Ytbdkhgenkekioaa.Ne (box_alloc box_new box_cell box_below box_lt icod int_at)

/-- What month.Put has in memory. -/
structure MW (w1 W : World) (g : Nat) (xs : List Int) : Prop where
  wr : Wr W g (g + 1) xs
  bl : Below g w1 W
  sz : w1.heap.size = g
  gs : g + 1 ≤ W.heap.size
  len : xs.length ≤ 900000000
theorem MW.step {w1 W W' : World} {g : Nat} {xs ys : List Int} (h : MW w1 W g xs) (ht : WrTo g (g + 1) W W') (hw : Wr W' g (g + 1) ys) (hl : ys.length ≤ 900000000) : MW w1 W' g ys := by
  have hb : Below g W W' := ht.below (by have := h.gs; omega) (by omega)
  exact ⟨hw, h.bl.trans hb, h.sz, by have := h.gs; have := hb.size; omega, hl⟩
theorem MW.below {w1 W W' : World} {g : Nat} {xs : List Int} (h : MW w1 W g xs) (hb : Below W.heap.size W W') : MW w1 W' g xs :=
  ⟨h.wr.below hb, h.bl.trans (hb.mono (by have := h.gs; omega)), h.sz, by have := h.gs; have := hb.size; omega, h.len⟩
theorem MW.alloc {w1 W : World} {g : Nat} {xs : List Int} (h : MW w1 W g xs) (ob : Obj) : MW w1 (W.alloc ob) g xs := h.below ((Below.refl _ _).alloc (Nat.le_refl _) _)
theorem MW.mon {w1 W : World} {g : Nat} {xs : List Int} (h : MW w1 W g xs) {a : Option Addr} {n cap : Nat} {hs : List Hdr} {ms : List Mon} (hm : MonIn w1 a n cap hs ms) : MonIn W a n cap hs ms := hm.below (by have := h.bl; rw [← h.sz] at this; exact this)
theorem WrTo.box {g B q : Nat} {w w' : World} {cs : Array Value} {t : TypeId} {fr : Nat × Nat} (ht : WrTo g B w w') (h : w.heap[q]? = some (.cells cs t fr)) (hne : q ≠ g) (hob : t ≠ 5) : w'.heap[q]? = some (.cells cs t fr) :=
  ht.block q _ h hne (.inr (fun cur fr q => by cases q; exact hob rfl))
theorem enN_take {fs : List Int} {j : Nat} {x : Int} (h : fs[j]? = some x) : (fs.take (j + 1)).flatMap enN = (fs.take j).flatMap enN ++ putV x.toNat := flat_take enN h
theorem heM_bound {m : Mon} (h : OneM m) : ∀ x ∈ heM m, 0 ≤ x ∧ x ≤ 4294967296 := by
  obtain ⟨⟨n1, n2, n3, n4⟩, -, hr⟩ := h
  have hl : m.rides.length ≤ 2048 := hr.1
  intro x hx
  unfold heM at hx
  simp at hx
  rcases hx with rfl | rfl | rfl | rfl | rfl <;> omega

set_option maxHeartbeats 8000000 in
set_option maxRecDepth 100000 in
theorem mput_any (a : Option Addr) (n cap : Nat) (hs : List Hdr) (ms : List Mon) (w : World) (hn : n ≤ 1000000) (hl : ∀ m ∈ ms, m.rides.length ≤ 1000000) (hok : ∀ m ∈ ms, ∀ r ∈ m.rides, Ride.ok r) (h0 : MonIn w a n cap hs ms) :
    Calls Try.prog 21 #[.slice a n cap] w fun e w' => Below w.heap.size w w' ∧ (¬ RightM ms → e = .returned (.tuple #[.slice none 0 0, .int .i64 2])) ∧ (RightM ms → ∃ v, e = .returned (.tuple #[v, .int .i64 0]) ∧ V.Own 5 bcod w.heap.size w' v (putMs ms)) := by
  obtain ⟨p, hp⟩ : ∃ p, decide (RightM ms) = p := ⟨_, rfl⟩
  have HP := Lib.hid hp
  have HN := Lib.hid h0.n_eq
  clear hp
  cases p with
  | false =>
    go_enter Try.func21, Try.ntmps21
    go_wp2_with (go_at_call 9; go_fit (mright_any a n cap hs ms _ hn hl hok h0); rintro e w1 ⟨rfl, hb1⟩; rw [HP.out]; have HB1 := Lib.hid hb1; clear hb1)
    go_ret2
    exact ⟨HB1.out, fun _ => rfl, fun q => absurd q (of_decide_eq_false HP.out)⟩
  | true =>
    have HR := Lib.hid (of_decide_eq_true HP.out)
    have hn4 : n ≤ 4096 := by rw [HN.out]; exact HR.out.1
    have hn0 : (0 : Int) ≤ (n : Int) := by omega
    go_enter Try.func21, Try.ntmps21
    go_upto_region 4 with (go_at_call 9; go_fit (mright_any a n cap hs ms _ hn hl hok h0); rintro e w1 ⟨rfl, hb1⟩; rw [HP.out]; have HB1 := Lib.hid hb1; clear hb1)
    have HG : Hid (MW w1 (w1.alloc (.cells #[.slice none 0 0] 91)) w1.heap.size []) := ⟨Wr.new w1, (Below.refl _ _).alloc (Nat.le_refl _) _, rfl, by simp, by simp⟩
    obtain ⟨W, hW⟩ : ∃ W, w1.alloc (.cells #[.slice none 0 0] 91) = W := ⟨_, rfl⟩
    rw [hW] at HG ⊢
    clear hW
    obtain ⟨g, hg⟩ : ∃ g, w1.heap.size = g := ⟨_, rfl⟩
    have hg0 : w.heap.size ≤ g := by rw [← hg]; exact HB1.out.size
    rw [hg] at HG ⊢
    clear hg
    have h1 := h0.below HB1.out
    have HL1 : Hid ((putV n).length ≤ 10) := putV_10 _ (by omega)
    go_upto_region 5 with (go_at_call 55; go_loud (refine (wnum_any g (g + 1) [] (n : Int) W HG.out.wr HG.out.gs hn0 (by omega) HG.out.len).mono ?_); rintro e W2 ⟨⟨u2, rfl⟩, hw, ht⟩; have HG2 : Hid (MW w1 W2 g (putV n)) := HG.out.step ht hw (by have := HL1.out; omega); clear hw ht)
    clear HG
    obtain ⟨P0, hP0⟩ : ∃ P0, putV n = P0 := ⟨_, rfl⟩
    have HP0 := Lib.hid hP0
    rw [hP0] at HG2 HL1
    clear hP0
    go_wp2_with fail
    go_loopw [23] (fun vi wr => ∃ i : Nat, vi = .int .i64 ((i : Nat) : Int) ∧ i ≤ n ∧ Hid ((P0 ++ (ms.take i).flatMap enM).length ≤ 10 + 82000 * i) ∧ Hid (MW w1 wr g (P0 ++ (ms.take i).flatMap enM))) (fun vi _ => n - (intOf vi).toNat)
    case atStart => exact ⟨0, rfl, by omega, by have := HL1.out; show _ ≤ _; simp; omega, by have := HG2.out; show MW _ _ _ _; simpa using this⟩
    case round =>
      obtain ⟨i, rfl, hi, HLI, HGI⟩ := hrel
      by_cases hlt : i < n
      · have hii : (i : Int) < (n : Int) := by omega
        obtain ⟨b, off, at_, ct, m, rfl, hbb, hm, hhi, ⟨c0, c1, c2, c3, c4, c5⟩, hrd⟩ := (HGI.out.mon h1).at hlt
        have HHI := Lib.hid hhi
        have HM := Lib.hid hm
        have hone := (HR.out.2 i m (List.getElem?_eq_some_iff.1 hm).1 hm).1
        have HONE := Lib.hid hone
        have HRD := Lib.hid hrd
        have hml : m.rides.length ≤ 2048 := hone.2.2.1
        clear hm hone hrd hhi
        go_upto_region 8 with fail
        have HGY := Lib.hid (HGI.out.alloc (.cells #[.int .i64 m.a, .int .i64 m.m, .int .i64 m.t, .int .i64 m.c, .slice at_ m.rides.length ct, .bool m.z] 27))
        have HY : Hid ((wr.alloc (.cells #[.int .i64 m.a, .int .i64 m.m, .int .i64 m.t, .int .i64 m.c, .slice at_ m.rides.length ct, .bool m.z] 27)).heap[wr.heap.size]? = some (.cells #[.int .i64 m.a, .int .i64 m.m, .int .i64 m.t, .int .i64 m.c, .slice at_ m.rides.length ct, .bool m.z] 27 (0, 0))) := box_new wr _
        have hgy : g < wr.heap.size := by have := HGI.out.gs; omega
        obtain ⟨Y, hY⟩ : ∃ W, wr.alloc (.cells #[.int .i64 m.a, .int .i64 m.m, .int .i64 m.t, .int .i64 m.c, .slice at_ m.rides.length ct, .bool m.z] 27) = W := ⟨_, rfl⟩
        obtain ⟨y, hy⟩ : ∃ y, wr.heap.size = y := ⟨_, rfl⟩
        rw [hY] at HGY HY ⊢
        rw [hy] at HY hgy ⊢
        clear hY hy c0 c1 c2 c3 c4 c5
        obtain ⟨y0, y1, y2, y3, y4, y5⟩ := box6_cells HY.out
        have hyl := box_lt HY.out
        obtain ⟨P, hP⟩ : ∃ P, P0 ++ (ms.take i).flatMap enM = P := ⟨_, rfl⟩
        have HPP := Lib.hid hP
        rw [hP] at HGY HLI
        clear hP
        have HFS : Hid (Sl icod (Y.alloc (.cells #[.int .i64 m.a, .int .i64 m.m, .int .i64 m.t, .int .i64 m.c, .int .i64 (m.rides.length : Int)] 3)) (some ⟨Y.heap.size, 0, none⟩) 5 5 (heM m)) := sl_new (c := icod) Y #[.int .i64 m.a, .int .i64 m.m, .int .i64 m.t, .int .i64 m.c, .int .i64 (m.rides.length : Int)] 3 (heM m) 5 rfl (by unfold maxLen; omega) rfl
        have HFB : Hid ((Y.alloc (.cells #[.int .i64 m.a, .int .i64 m.m, .int .i64 m.t, .int .i64 m.c, .int .i64 (m.rides.length : Int)] 3)).heap[Y.heap.size]? = some (.cells #[.int .i64 m.a, .int .i64 m.m, .int .i64 m.t, .int .i64 m.c, .int .i64 (m.rides.length : Int)] 3 (0, 0))) := box_new Y _
        have HYA := Lib.hid (box_alloc HY.out (o := .cells #[.int .i64 m.a, .int .i64 m.m, .int .i64 m.t, .int .i64 m.c, .int .i64 (m.rides.length : Int)] 3))
        have HGA := Lib.hid (HGY.out.alloc (.cells #[.int .i64 m.a, .int .i64 m.m, .int .i64 m.t, .int .i64 m.c, .int .i64 (m.rides.length : Int)] 3))
        have hyf : y < Y.heap.size := hyl
        go_upto_block 2 with fail
        obtain ⟨A, hA⟩ : ∃ W, Y.alloc (.cells #[.int .i64 m.a, .int .i64 m.m, .int .i64 m.t, .int .i64 m.c, .int .i64 (m.rides.length : Int)] 3) = W := ⟨_, rfl⟩
        obtain ⟨f, hf⟩ : ∃ y, Y.heap.size = y := ⟨_, rfl⟩
        rw [hA] at HFS HFB HYA HGA ⊢
        rw [hf] at HFS HFB hyf ⊢
        clear hA hf y0 y1 y2 y3 y4 y5 hyl
        have hgf : g < f := by omega
        go_cut [] (fun wx => Hid (MW w1 wx g (P ++ (heM m).flatMap enN)) ∧ Hid ((P ++ (heM m).flatMap enN).length ≤ 10 + 82000 * i + 50) ∧ Hid (wx.heap[y]? = some (.cells #[.int .i64 m.a, .int .i64 m.m, .int .i64 m.t, .int .i64 m.c, .slice at_ m.rides.length ct, .bool m.z] 27 (0, 0))))
        case first =>
          go_wp2_with fail
          go_loopw [40] (fun vj wj => ∃ j : Nat, vj = .int .i64 ((j : Nat) : Int) ∧ j ≤ 5 ∧ Hid ((P ++ ((heM m).take j).flatMap enN).length ≤ 10 + 82000 * i + 10 * j) ∧ Hid (MW w1 wj g (P ++ ((heM m).take j).flatMap enN)) ∧ Hid (wj.heap[y]? = some (.cells #[.int .i64 m.a, .int .i64 m.m, .int .i64 m.t, .int .i64 m.c, .slice at_ m.rides.length ct, .bool m.z] 27 (0, 0))) ∧ Hid (wj.heap[f]? = some (.cells #[.int .i64 m.a, .int .i64 m.m, .int .i64 m.t, .int .i64 m.c, .int .i64 (m.rides.length : Int)] 3 (0, 0)))) (fun vj _ => 5 - (intOf vj).toNat)
          case atStart => exact ⟨0, rfl, by omega, by have := HLI.out; show _ ≤ _; simp; omega, by have := HGA.out; show MW _ _ _ _; simpa using this, HYA.out, HFB.out⟩
          case round =>
            obtain ⟨j, rfl, hj, HLJ, HGJ, HYJ, HFJ⟩ := hrel
            by_cases hlj : j < 5
            · have hjj : (j : Int) < (5 : Int) := by omega
              obtain ⟨k, hk, hkc⟩ : ∃ k, (heM m)[j]? = some k ∧ wr.cell? ⟨f, j, none⟩ = some (.int .i64 k) := by
                have hc := (box_cell HFJ.out j).1
                have hcase : j = 0 ∨ j = 1 ∨ j = 2 ∨ j = 3 ∨ j = 4 := by omega
                rcases hcase with rfl | rfl | rfl | rfl | rfl <;> exact ⟨_, rfl, hc⟩
              have hkb := heM_bound HONE.out k (List.mem_of_getElem? hk)
              have HK := Lib.hid (enN_take hk)
              have HKL : Hid ((putV k.toNat).length ≤ 10) := putV_10 _ (by omega)
              have hfl := box_lt HFJ.out
              clear hk
              go_wp2_with (go_at_call 55; go_loud (refine (wnum_any g (g + 1) _ k wr HGJ.out.wr HGJ.out.gs hkb.1 (by omega) HGJ.out.len).mono ?_); rintro e W3 ⟨⟨u3, rfl⟩, hw, ht⟩; have HG3 : Hid (MW w1 W3 g ((P ++ ((heM m).take j).flatMap enN) ++ putV k.toNat)) := HGJ.out.step ht hw (by have := HLJ.out; have := HKL.out; rw [List.length_append]; omega); have HY3 := Lib.hid (WrTo.box ht HYJ.out (by omega) (by decide)); have HF3 := Lib.hid (WrTo.box ht HFJ.out (by omega) (by decide)); clear hw ht)
              go_roundw
              case rel => exact ⟨j + 1, by go_num, by omega, by have := HLJ.out; have := HKL.out; show _ ≤ _; rw [HK.out, ← List.append_assoc, List.length_append]; omega, by show MW _ _ _ _; rw [HK.out, ← List.append_assoc]; exact HG3.out, HY3.out, HF3.out⟩
              case measure => simp [intOf]; omega
            · have hj5 : j = 5 := by omega
              subst hj5
              go_wp2_with fail
              go_meet
              have e5 : (heM m).take 5 = heM m := rfl
              rw [e5] at HLJ HGJ
              exact ⟨HGJ.out, by have := HLJ.out; show _ ≤ _; omega, HYJ.out⟩
        obtain ⟨HGC, HLC, HYC⟩ := hcut
        obtain ⟨Q, hQ⟩ : ∃ Q, P ++ (heM m).flatMap enN = Q := ⟨_, rfl⟩
        have HQQ := Lib.hid hQ
        rw [hQ] at HGC HLC
        clear hQ HGA HYA HFS HFB
        obtain ⟨y0, y1, y2, y3, y4, y5⟩ := box6_cells HYC.out
        have hyl := box_lt HYC.out
        go_upto_block 4 with fail
        go_cut [] (fun wx => Hid (MW w1 wx g (Q ++ m.rides.flatMap enR)) ∧ Hid ((Q ++ m.rides.flatMap enR).length ≤ 10 + 82000 * i + 50 + 40 * 2048) ∧ Hid (wx.heap[y]? = some (.cells #[.int .i64 m.a, .int .i64 m.m, .int .i64 m.t, .int .i64 m.c, .slice at_ m.rides.length ct, .bool m.z] 27 (0, 0))))
        case first =>
          go_wp2_with fail
          clear y0 y1 y2 y3 y4 y5 hyl
          go_loopw [51] (fun vj wj => ∃ j : Nat, vj = .int .i64 ((j : Nat) : Int) ∧ j ≤ m.rides.length ∧ Hid ((Q ++ (m.rides.take j).flatMap enR).length ≤ 10 + 82000 * i + 50 + 40 * j) ∧ Hid (MW w1 wj g (Q ++ (m.rides.take j).flatMap enR)) ∧ Hid (wj.heap[y]? = some (.cells #[.int .i64 m.a, .int .i64 m.m, .int .i64 m.t, .int .i64 m.c, .slice at_ m.rides.length ct, .bool m.z] 27 (0, 0)))) (fun vj _ => m.rides.length - (intOf vj).toNat)
          case atStart => exact ⟨0, rfl, by omega, by have := HLC.out; show _ ≤ _; simp at *; omega, by have := HGC.out; show MW _ _ _ _; simpa using this, HYC.out⟩
          case round =>
            obtain ⟨j, rfl, hj, HLJ, HGJ, HYJ⟩ := hrel
            by_cases hlj : j < m.rides.length
            · have hjj : (j : Int) < (m.rides.length : Int) := by omega
              have hrj := (HGJ.out.mon h1).each i _ m HHI.out HM.out
              obtain ⟨b7, o7, x, e7, hbl, hx, k0, k1, k2, k3⟩ := ride_at hrj hlj
              have e7 : at_ = some ⟨b7, o7, none⟩ := e7
              subst e7
              have hxo := HONE.out.2.2.2.1 x (List.mem_of_getElem? hx)
              have HXL := Lib.hid (enR_len hxo)
              obtain ⟨g1, g2, g3, g4⟩ := (moneB_iff x).1 hxo
              have HFT := Lib.hid (flat_take enR hx)
              clear hrj hx hxo
              go_upto_region 16 with fail
              have HGZ := Lib.hid (HGJ.out.alloc (.cells #[.int .i64 x.t, .int .i64 x.s, .int .i64 x.e, .int .i64 x.f] 24))
              have HZ : Hid ((wr.alloc (.cells #[.int .i64 x.t, .int .i64 x.s, .int .i64 x.e, .int .i64 x.f] 24)).heap[wr.heap.size]? = some (.cells #[.int .i64 x.t, .int .i64 x.s, .int .i64 x.e, .int .i64 x.f] 24 (0, 0))) := box_new wr _
              have HYZ := Lib.hid (box_alloc HYJ.out (o := .cells #[.int .i64 x.t, .int .i64 x.s, .int .i64 x.e, .int .i64 x.f] 24))
              have hgz : g < wr.heap.size := by have := HGJ.out.gs; omega
              obtain ⟨Z, hZ⟩ : ∃ W, wr.alloc (.cells #[.int .i64 x.t, .int .i64 x.s, .int .i64 x.e, .int .i64 x.f] 24) = W := ⟨_, rfl⟩
              obtain ⟨z, hz⟩ : ∃ y, wr.heap.size = y := ⟨_, rfl⟩
              rw [hZ] at HGZ HZ HYZ ⊢
              rw [hz] at HZ hgz ⊢
              clear hZ hz k0 k1 k2 k3
              obtain ⟨S, hS⟩ : ∃ S, Q ++ (m.rides.take j).flatMap enR = S := ⟨_, rfl⟩
              have HSS := Lib.hid hS
              rw [hS] at HGZ HLJ
              clear hS
              have HT1 : Hid ((putV x.t.toNat).length ≤ 10) := putV_10 _ (by omega)
              have HT2 : Hid ((putV x.s.toNat).length ≤ 10) := putV_10 _ (by omega)
              have HT3 : Hid ((putV x.e.toNat).length ≤ 10) := putV_10 _ (by omega)
              have HT4 : Hid ((putV (turnV x.f)).length ≤ 10) := putV_10 _ (turnV_lt (by omega) (by omega))
              have z0 := (box_cell HZ.out 0).1
              have zl1 := box_lt HZ.out
              go_upto_region 17 with (go_at_call 55; go_loud (refine (wnum_any g (g + 1) _ x.t Z HGZ.out.wr HGZ.out.gs (by omega) (by omega) HGZ.out.len).mono ?_); rintro e V1 ⟨⟨uu1, rfl⟩, hw, ht⟩; have HG1' : Hid (MW w1 V1 g (S ++ putV x.t.toNat)) := HGZ.out.step ht hw (by have := HLJ.out; have := HT1.out; simp only [List.length_append]; omega); have HZ1 := Lib.hid (WrTo.box ht HZ.out (by omega) (by decide)); have HY1 := Lib.hid (WrTo.box ht HYZ.out (by omega) (by decide)); clear hw ht)
              clear z0 zl1
              have z1 := (box_cell HZ1.out 1).1
              have zl2 := box_lt HZ1.out
              go_upto_region 18 with (go_at_call 55; go_loud (refine (wnum_any g (g + 1) _ x.s V1 HG1'.out.wr HG1'.out.gs (by omega) (by omega) HG1'.out.len).mono ?_); rintro e V2 ⟨⟨uu2, rfl⟩, hw, ht⟩; have HG2' : Hid (MW w1 V2 g ((S ++ putV x.t.toNat) ++ putV x.s.toNat)) := HG1'.out.step ht hw (by have := HLJ.out; have := HT1.out; have := HT2.out; simp only [List.length_append]; omega); have HZ2 := Lib.hid (WrTo.box ht HZ1.out (by omega) (by decide)); have HY2 := Lib.hid (WrTo.box ht HY1.out (by omega) (by decide)); clear hw ht)
              clear z1 zl2
              have z2 := (box_cell HZ2.out 2).1
              have zl3 := box_lt HZ2.out
              go_upto_region 19 with (go_at_call 55; go_loud (refine (wnum_any g (g + 1) _ x.e V2 HG2'.out.wr HG2'.out.gs (by omega) (by omega) HG2'.out.len).mono ?_); rintro e V3 ⟨⟨uu3, rfl⟩, hw, ht⟩; have HG3' : Hid (MW w1 V3 g (((S ++ putV x.t.toNat) ++ putV x.s.toNat) ++ putV x.e.toNat)) := HG2'.out.step ht hw (by have := HLJ.out; have := HT1.out; have := HT2.out; have := HT3.out; simp only [List.length_append]; omega); have HZ3 := Lib.hid (WrTo.box ht HZ2.out (by omega) (by decide)); have HY3 := Lib.hid (WrTo.box ht HY2.out (by omega) (by decide)); clear hw ht)
              clear z2 zl3
              have z3 := (box_cell HZ3.out 3).1
              have zl4 := box_lt HZ3.out
              go_wp2_with (go_at_call 56; go_loud (refine (wsgn_any g (g + 1) _ x.f V3 HG3'.out.wr HG3'.out.gs (by omega) (by omega) HG3'.out.len).mono ?_); rintro e V4 ⟨⟨uu4, rfl⟩, hw, ht⟩; have HG4' : Hid (MW w1 V4 g ((((S ++ putV x.t.toNat) ++ putV x.s.toNat) ++ putV x.e.toNat) ++ putV (turnV x.f))) := HG3'.out.step ht hw (by have := HLJ.out; have := HT1.out; have := HT2.out; have := HT3.out; have := HT4.out; simp only [List.length_append]; omega); have HZ4 := Lib.hid (WrTo.box ht HZ3.out (by omega) (by decide)); have HY4 := Lib.hid (WrTo.box ht HY3.out (by omega) (by decide)); clear hw ht)
              go_roundw
              case rel =>
                have e8 : Q ++ (m.rides.take (j + 1)).flatMap enR = (((S ++ putV x.t.toNat) ++ putV x.s.toNat) ++ putV x.e.toNat) ++ putV (turnV x.f) := by
                  rw [HFT.out, ← HSS.out]
                  unfold enR
                  simp only [List.append_assoc]
                exact ⟨j + 1, by go_num, by omega, by have := HLJ.out; have := HT1.out; have := HT2.out; have := HT3.out; have := HT4.out; show _ ≤ _; rw [e8]; simp only [List.length_append]; omega, by show MW _ _ _ _; rw [e8]; exact HG4'.out, HY4.out⟩
              case measure => simp [intOf]; omega
            · have hjl : j = m.rides.length := by omega
              go_wp2_with fail
              go_meet
              have e5 : m.rides.take j = m.rides := List.take_of_length_le (by omega)
              rw [e5] at HLJ HGJ
              exact ⟨HGJ.out, by have := HLJ.out; show _ ≤ _; omega, HYJ.out⟩
        obtain ⟨HGD, HLD, HYD⟩ := hcut
        obtain ⟨T, hT⟩ : ∃ T, Q ++ m.rides.flatMap enR = T := ⟨_, rfl⟩
        have HTT := Lib.hid hT
        rw [hT] at HGD HLD
        clear hT HGC HLC HYC y0 y1 y2 y3 y4 y5 hyl
        obtain ⟨y0, y1, y2, y3, y4, y5⟩ := box6_cells HYD.out
        have hyl := box_lt HYD.out
        have HEND : Hid (P0 ++ (ms.take (i + 1)).flatMap enM = T ++ [zB m.z]) := by
          show _ = _
          rw [flat_take enM HM.out, ← List.append_assoc, HPP.out, ← HTT.out, ← HQQ.out]
          unfold enM
          simp only [List.append_assoc]
        obtain ⟨mz, hmz⟩ : ∃ q, m.z = q := ⟨_, rfl⟩
        rw [hmz] at y5 HEND
        clear hmz y0 y1 y2 y3 y4
        cases mz with
        | false =>
          go_wp2_with (go_at_call 57; go_loud (refine (wbyte_any g (g + 1) T 0 wc HGD.out.wr HGD.out.gs HGD.out.len).mono ?_); rintro e W8 ⟨⟨u8', rfl⟩, hw, ht⟩; have HG8 : Hid (MW w1 W8 g (T ++ [0])) := HGD.out.step ht hw (by have := HLD.out; simp only [List.length_append, List.length_cons, List.length_nil]; omega); clear hw ht)
          go_roundw
          case rel => exact ⟨i + 1, by go_num, by omega, by have := HLD.out; show _ ≤ _; rw [HEND.out]; simp only [List.length_append, List.length_cons, List.length_nil]; omega, by show MW _ _ _ _; rw [HEND.out]; exact HG8.out⟩
          case measure => simp [intOf]; omega
        | true =>
          go_wp2_with (go_at_call 57; go_loud (refine (wbyte_any g (g + 1) T 1 wc HGD.out.wr HGD.out.gs HGD.out.len).mono ?_); rintro e W8 ⟨⟨u8', rfl⟩, hw, ht⟩; have HG8 : Hid (MW w1 W8 g (T ++ [1])) := HGD.out.step ht hw (by have := HLD.out; simp only [List.length_append, List.length_cons, List.length_nil]; omega); clear hw ht)
          go_roundw
          case rel => exact ⟨i + 1, by go_num, by omega, by have := HLD.out; show _ ≤ _; rw [HEND.out]; simp only [List.length_append, List.length_cons, List.length_nil]; omega, by show MW _ _ _ _; rw [HEND.out]; exact HG8.out⟩
          case measure => simp [intOf]; omega
      · have hie : i = n := by omega
        subst hie
        have HALL : Hid (P0 ++ (ms.take i).flatMap enM = putMs ms) := by
          show _ = _
          rw [List.take_of_length_le (by rw [← HN.out]; exact Nat.le_refl _), ← HP0.out, HN.out]
          rfl
        go_wp2_with (go_at_call 58; go_loud (refine (wout_any g (g + 1) _ wr HGI.out.wr (by have := HGI.out.len; omega)).mono ?_); rintro e W9 ⟨v9, rfl, ho, hb⟩; have HO9 := Lib.hid ho; have HB9 := Lib.hid hb; clear ho hb)
        go_ret2
        have hbw : Below w.heap.size w wr := HB1.out.trans (HGI.out.bl.mono hg0)
        refine ⟨hbw.trans (HB9.out.mono hbw.size), fun q => absurd HR.out q, fun _ => ⟨_, rfl, ?_⟩⟩
        have := HO9.out
        rw [HALL.out] at this
        exact this.lower hbw.size
end Go.Proofs.Ytbdkhgenkekioaa

namespace Go.Proofs.Ytbdkhgenkekioaa
open Go.RowKit Go.V Go.Sort Go.Shelf Go.Proofs Go.Maps Go.Proofs.Ytbdkhgenkekioaa.Wi
open Go.Proofs.Ytbdkhgenkekioaa.Ne (box_alloc box_new box_cell box_below box_lt)

/-- What the document's Put has in memory: a row of bytes of its own. -/
structure RW (w W : World) (v : Value) (xs : List Int) : Prop where
  own : V.Own 5 bcod w.heap.size W v xs
  bl : Below w.heap.size w W
  len : xs.length ≤ 900000000
theorem RW.below {w W W' : World} {v : Value} {xs : List Int} (h : RW w W v xs) (hb : Below W.heap.size W W') : RW w W' v xs := ⟨h.own.below hb, h.bl.trans (hb.mono h.bl.size), h.len⟩
theorem RW.step {w W W2 W3 : World} {v v' : Value} {xs ys : List Int} (h : RW w W v xs) (hb : Below W.heap.size W W2) (ho : V.Own 5 bcod w.heap.size W3 v' ys) (hg : W2.grownBy W3 v.ownBlock) (hl : ys.length ≤ 900000000) : RW w W3 v' ys := by
  have h2 := h.below hb
  exact ⟨ho, h2.bl.grown hg h2.bl.size (fun k hk => (World.ownsRow.lt h2.own k hk).1), hl⟩
theorem RW.box {w W W2 W3 : World} {v : Value} {xs : List Int} {q : Nat} {cs : Array Value} {t : TypeId} {fr : Nat × Nat} (h : RW w W v xs) (hb : Below W.heap.size W W2) (hg : W2.grownBy W3 v.ownBlock) (hq : W.heap[q]? = some (.cells cs t fr)) (ht : t ≠ 5) : W3.heap[q]? = some (.cells cs t fr) := by
  have h2 := (h.below hb).own
  have hq2 := (hb.block q (box_lt hq)).trans hq
  exact (hg.block q (box_lt hq2) (own_not h2 hq2 (.inr (fun cur fr e => by cases e; exact ht rfl)))).trans hq2

set_option maxHeartbeats 8000000 in
set_option maxRecDepth 100000 in
theorem rmput_any (a : Option Addr) (n cap : Nat) (hs : List Hdr) (ms : List Mon) (w : World) (hr : RightM ms) (h0 : MonIn w a n cap hs ms) :
    Calls Try.prog 23 #[.slice a n cap] w fun e w' => ∃ v, e = .returned v ∧ V.Own 5 bcod w.heap.size w' v (putMs ms) ∧ Below w.heap.size w w' := by
  have HN := Lib.hid h0.n_eq
  have HR := Lib.hid hr
  have hn4 : n ≤ 4096 := by rw [HN.out]; exact HR.out.1
  have hn0 : (0 : Int) ≤ (n : Int) := by omega
  have HL1 : Hid ((putV n).length ≤ 10) := putV_10 _ (by omega)
  clear hr
  go_enter Try.func23, Try.ntmps23
  go_upto_region 2 with (go_at_call 59; go_loud (refine (r3num_any (n : Int) _ hn0 (by omega)).mono ?_); rintro e W1 ⟨v, rfl, ho, hb⟩; have HG : Hid (RW w W1 v (putV n)) := ⟨ho, hb, by have := HL1.out; omega⟩; clear ho hb)
  obtain ⟨P0, hP0⟩ : ∃ P0, putV n = P0 := ⟨_, rfl⟩
  have HP0 := Lib.hid hP0
  rw [hP0] at HG HL1
  clear hP0
  go_wp2_with fail
  go_loopw [3, 4] (fun vo vi wr => ∃ i : Nat, vi = .int .i64 ((i : Nat) : Int) ∧ i ≤ n ∧ Hid ((P0 ++ (ms.take i).flatMap enM).length ≤ 10 + 82000 * i) ∧ Hid (RW w wr vo (P0 ++ (ms.take i).flatMap enM))) (fun _ vi _ => n - (intOf vi).toNat)
  case atStart => exact ⟨0, rfl, by omega, by have := HL1.out; show _ ≤ _; simp; omega, by have := HG.out; show RW _ _ _ _; simpa using this⟩
  case round =>
    obtain ⟨i, rfl, hi, HLI, HGI⟩ := hrel
    by_cases hlt : i < n
    · have hii : (i : Int) < (n : Int) := by omega
      obtain ⟨b, off, at_, ct, m, rfl, hbb, hm, hhi, ⟨c0, c1, c2, c3, c4, c5⟩, hrd⟩ := (h0.below HGI.out.bl).at hlt
      have HHI := Lib.hid hhi
      have HM := Lib.hid hm
      have hone := (HR.out.2 i m (List.getElem?_eq_some_iff.1 hm).1 hm).1
      have HONE := Lib.hid hone
      have hml : m.rides.length ≤ 2048 := hone.2.2.1
      obtain ⟨⟨n1, n2, n3, n4⟩, -, -⟩ := id hone
      clear hm hone hrd hhi
      go_upto_region 6 with fail
      have HGY := Lib.hid (HGI.out.below ((Below.refl _ _).alloc (Nat.le_refl _) (.cells #[.int .i64 m.a, .int .i64 m.m, .int .i64 m.t, .int .i64 m.c, .slice at_ m.rides.length ct, .bool m.z] 27)))
      have HY : Hid ((wr.alloc (.cells #[.int .i64 m.a, .int .i64 m.m, .int .i64 m.t, .int .i64 m.c, .slice at_ m.rides.length ct, .bool m.z] 27)).heap[wr.heap.size]? = some (.cells #[.int .i64 m.a, .int .i64 m.m, .int .i64 m.t, .int .i64 m.c, .slice at_ m.rides.length ct, .bool m.z] 27 (0, 0))) := box_new wr _
      obtain ⟨Y, hY⟩ : ∃ W, wr.alloc (.cells #[.int .i64 m.a, .int .i64 m.m, .int .i64 m.t, .int .i64 m.c, .slice at_ m.rides.length ct, .bool m.z] 27) = W := ⟨_, rfl⟩
      obtain ⟨y, hy⟩ : ∃ y, wr.heap.size = y := ⟨_, rfl⟩
      rw [hY] at HGY HY ⊢
      rw [hy] at HY ⊢
      clear hY hy c0 c1 c2 c3 c4 c5
      obtain ⟨P, hP⟩ : ∃ P, P0 ++ (ms.take i).flatMap enM = P := ⟨_, rfl⟩
      have HPP := Lib.hid hP
      rw [hP] at HGY HLI
      clear hP
      have HT1 : Hid ((putV m.a.toNat).length ≤ 10) := putV_10 _ (by omega)
      have HT2 : Hid ((putV m.m.toNat).length ≤ 10) := putV_10 _ (by omega)
      have HT3 : Hid ((putV m.t.toNat).length ≤ 10) := putV_10 _ (by omega)
      have HT4 : Hid ((putV m.c.toNat).length ≤ 10) := putV_10 _ (by omega)
      have HT5 : Hid ((putV m.rides.length).length ≤ 10) := putV_10 _ (by omega)
      have hml0 : (0 : Int) ≤ (m.rides.length : Int) := by omega
      have y0 := (box_cell HY.out 0).1
      have yl1 := box_lt HY.out
      go_upto_region 7 with (first
        | (go_at_call 59; go_loud (refine (r3num_any m.a Y (by omega) (by omega)).mono ?_); rintro e X1 ⟨x1, rfl, hox, hbx⟩; obtain ⟨xa1, xc1, rfl, hsx, -⟩ := hox.slice; have HSX1 := Lib.hid hsx; have HBX1 := Lib.hid hbx; clear hox hbx hsx)
        | (at_builtin; go_loud (refine wpList_app eltB rfl (.tmp 20) (.tmp 23) rfl (base := w.heap.size) _ P rfl (HGY.out.below HBX1.out).own _ _ _ (putV m.a.toNat) rfl HSX1.out (by have := HLI.out; have := HT1.out; unfold maxLen; (try simp only [List.length_append]); omega) (by have := HLI.out; have := HT1.out; (try simp only [List.length_append]); omega) (HGY.out.below HBX1.out).bl.size ?_); intro o1 W2 ho hg; obtain ⟨o1a, o1c, eo1, -⟩ := ho.slice; have HG1 : Hid (RW w W2 o1 (P ++ (putV m.a.toNat))) := HGY.out.step HBX1.out ho hg (by have := HLI.out; have := HT1.out; (try simp only [List.length_append]); omega); have HY1 := Lib.hid (RW.box HGY.out HBX1.out hg HY.out (by decide)); clear ho hg eo1))
      clear y0 yl1
      have y1 := (box_cell HY1.out 1).1
      have yl2 := box_lt HY1.out
      go_upto_region 8 with (first
        | (go_at_call 59; go_loud (refine (r3num_any m.m W2 (by omega) (by omega)).mono ?_); rintro e X2 ⟨x2, rfl, hox, hbx⟩; obtain ⟨xa2, xc2, rfl, hsx, -⟩ := hox.slice; have HSX2 := Lib.hid hsx; have HBX2 := Lib.hid hbx; clear hox hbx hsx)
        | (at_builtin; go_loud (refine wpList_app eltB rfl (.tmp 25) (.tmp 28) rfl (base := w.heap.size) _ (P ++ (putV m.a.toNat)) rfl (HG1.out.below HBX2.out).own _ _ _ (putV m.m.toNat) rfl HSX2.out (by have := HLI.out; have := HT2.out; unfold maxLen; have := HT1.out; (try simp only [List.length_append]); omega) (by have := HLI.out; have := HT2.out; have := HT1.out; (try simp only [List.length_append]); omega) (HG1.out.below HBX2.out).bl.size ?_); intro o2 W3 ho hg; obtain ⟨o2a, o2c, eo2, -⟩ := ho.slice; have HG2 : Hid (RW w W3 o2 ((P ++ (putV m.a.toNat)) ++ (putV m.m.toNat))) := HG1.out.step HBX2.out ho hg (by have := HLI.out; have := HT2.out; have := HT1.out; (try simp only [List.length_append]); omega); have HY2 := Lib.hid (RW.box HG1.out HBX2.out hg HY1.out (by decide)); clear ho hg eo2))
      clear y1 yl2
      have y2 := (box_cell HY2.out 2).1
      have yl3 := box_lt HY2.out
      go_upto_region 9 with (first
        | (go_at_call 59; go_loud (refine (r3num_any m.t W3 (by omega) (by omega)).mono ?_); rintro e X3 ⟨x3, rfl, hox, hbx⟩; obtain ⟨xa3, xc3, rfl, hsx, -⟩ := hox.slice; have HSX3 := Lib.hid hsx; have HBX3 := Lib.hid hbx; clear hox hbx hsx)
        | (at_builtin; go_loud (refine wpList_app eltB rfl (.tmp 30) (.tmp 33) rfl (base := w.heap.size) _ ((P ++ (putV m.a.toNat)) ++ (putV m.m.toNat)) rfl (HG2.out.below HBX3.out).own _ _ _ (putV m.t.toNat) rfl HSX3.out (by have := HLI.out; have := HT3.out; unfold maxLen; have := HT1.out; have := HT2.out; (try simp only [List.length_append]); omega) (by have := HLI.out; have := HT3.out; have := HT1.out; have := HT2.out; (try simp only [List.length_append]); omega) (HG2.out.below HBX3.out).bl.size ?_); intro o3 W4 ho hg; obtain ⟨o3a, o3c, eo3, -⟩ := ho.slice; have HG3 : Hid (RW w W4 o3 (((P ++ (putV m.a.toNat)) ++ (putV m.m.toNat)) ++ (putV m.t.toNat))) := HG2.out.step HBX3.out ho hg (by have := HLI.out; have := HT3.out; have := HT1.out; have := HT2.out; (try simp only [List.length_append]); omega); have HY3 := Lib.hid (RW.box HG2.out HBX3.out hg HY2.out (by decide)); clear ho hg eo3))
      clear y2 yl3
      have y3 := (box_cell HY3.out 3).1
      have yl4 := box_lt HY3.out
      go_upto_region 10 with (first
        | (go_at_call 59; go_loud (refine (r3num_any m.c W4 (by omega) (by omega)).mono ?_); rintro e X4 ⟨x4, rfl, hox, hbx⟩; obtain ⟨xa4, xc4, rfl, hsx, -⟩ := hox.slice; have HSX4 := Lib.hid hsx; have HBX4 := Lib.hid hbx; clear hox hbx hsx)
        | (at_builtin; go_loud (refine wpList_app eltB rfl (.tmp 35) (.tmp 38) rfl (base := w.heap.size) _ (((P ++ (putV m.a.toNat)) ++ (putV m.m.toNat)) ++ (putV m.t.toNat)) rfl (HG3.out.below HBX4.out).own _ _ _ (putV m.c.toNat) rfl HSX4.out (by have := HLI.out; have := HT4.out; unfold maxLen; have := HT1.out; have := HT2.out; have := HT3.out; (try simp only [List.length_append]); omega) (by have := HLI.out; have := HT4.out; have := HT1.out; have := HT2.out; have := HT3.out; (try simp only [List.length_append]); omega) (HG3.out.below HBX4.out).bl.size ?_); intro o4 W5 ho hg; obtain ⟨o4a, o4c, eo4, -⟩ := ho.slice; have HG4 : Hid (RW w W5 o4 ((((P ++ (putV m.a.toNat)) ++ (putV m.m.toNat)) ++ (putV m.t.toNat)) ++ (putV m.c.toNat))) := HG3.out.step HBX4.out ho hg (by have := HLI.out; have := HT4.out; have := HT1.out; have := HT2.out; have := HT3.out; (try simp only [List.length_append]); omega); have HY4 := Lib.hid (RW.box HG3.out HBX4.out hg HY3.out (by decide)); clear ho hg eo4))
      clear y3 yl4
      have y4 := (box_cell HY4.out 4).1
      have yl5 := box_lt HY4.out
      go_upto_region 11 with (first
        | (go_at_call 59; go_loud (refine (r3num_any (m.rides.length : Int) W5 (by omega) (by omega)).mono ?_); rintro e X5 ⟨x5, rfl, hox, hbx⟩; obtain ⟨xa5, xc5, rfl, hsx, -⟩ := hox.slice; have HSX5 := Lib.hid hsx; have HBX5 := Lib.hid hbx; clear hox hbx hsx)
        | (at_builtin; go_loud (refine wpList_app eltB rfl (.tmp 40) (.tmp 44) rfl (base := w.heap.size) _ ((((P ++ (putV m.a.toNat)) ++ (putV m.m.toNat)) ++ (putV m.t.toNat)) ++ (putV m.c.toNat)) rfl (HG4.out.below HBX5.out).own _ _ _ (putV m.rides.length) rfl HSX5.out (by have := HLI.out; have := HT5.out; unfold maxLen; have := HT1.out; have := HT2.out; have := HT3.out; have := HT4.out; (try simp only [List.length_append]); omega) (by have := HLI.out; have := HT5.out; have := HT1.out; have := HT2.out; have := HT3.out; have := HT4.out; (try simp only [List.length_append]); omega) (HG4.out.below HBX5.out).bl.size ?_); intro o5 W6 ho hg; obtain ⟨o5a, o5c, eo5, -⟩ := ho.slice; have HG5 : Hid (RW w W6 o5 (((((P ++ (putV m.a.toNat)) ++ (putV m.m.toNat)) ++ (putV m.t.toNat)) ++ (putV m.c.toNat)) ++ (putV m.rides.length))) := HG4.out.step HBX5.out ho hg (by have := HLI.out; have := HT5.out; have := HT1.out; have := HT2.out; have := HT3.out; have := HT4.out; (try simp only [List.length_append]); omega); have HY5 := Lib.hid (RW.box HG4.out HBX5.out hg HY4.out (by decide)); clear ho hg eo5))
      clear y4 yl5
      obtain ⟨Q, hQ⟩ : ∃ Q, (((((P ++ (putV m.a.toNat)) ++ (putV m.m.toNat)) ++ (putV m.t.toNat)) ++ (putV m.c.toNat)) ++ (putV m.rides.length)) = Q := ⟨_, rfl⟩
      have HQQ := Lib.hid hQ
      rw [hQ] at HG5
      have HLQ : Hid (Q.length ≤ 10 + 82000 * i + 50) := by
        have := HLI.out; have := HT1.out; have := HT2.out; have := HT3.out; have := HT4.out; have := HT5.out
        show _ ≤ _
        rw [← hQ]
        simp only [List.length_append]
        omega
      clear hQ
      go_upto_block 2 with fail
      go_cut [3] (fun vo wx => Hid (RW w wx vo (Q ++ m.rides.flatMap enR)) ∧ Hid ((Q ++ m.rides.flatMap enR).length ≤ 10 + 82000 * i + 50 + 40 * 2048) ∧ Hid (wx.heap[y]? = some (.cells #[.int .i64 m.a, .int .i64 m.m, .int .i64 m.t, .int .i64 m.c, .slice at_ m.rides.length ct, .bool m.z] 27 (0, 0))))
      case first =>
        go_wp2_with fail
        go_loopw [3, 6] (fun vo vj wj => ∃ j : Nat, vj = .int .i64 ((j : Nat) : Int) ∧ j ≤ m.rides.length ∧ Hid ((Q ++ (m.rides.take j).flatMap enR).length ≤ 10 + 82000 * i + 50 + 40 * j) ∧ Hid (RW w wj vo (Q ++ (m.rides.take j).flatMap enR)) ∧ Hid (wj.heap[y]? = some (.cells #[.int .i64 m.a, .int .i64 m.m, .int .i64 m.t, .int .i64 m.c, .slice at_ m.rides.length ct, .bool m.z] 27 (0, 0)))) (fun _ vj _ => m.rides.length - (intOf vj).toNat)
        case atStart => exact ⟨0, rfl, by omega, by have := HLQ.out; show _ ≤ _; simp at *; omega, by have := HG5.out; show RW _ _ _ _; simpa using this, HY5.out⟩
        case round =>
          obtain ⟨j, rfl, hj, HLJ, HGJ, HYJ⟩ := hrel
          obtain ⟨y0, y1, y2, y3, y4, y5⟩ := box6_cells HYJ.out
          have hyl := box_lt HYJ.out
          clear y0 y1 y2 y3 y5
          by_cases hlj : j < m.rides.length
          · have hjj : (j : Int) < (m.rides.length : Int) := by omega
            have hrj := (h0.below HGJ.out.bl).each i _ m HHI.out HM.out
            have HRJ := Lib.hid (h0.each i _ m HHI.out HM.out)
            obtain ⟨b7, o7, x, e7, hbl, hx, k0, k1, k2, k3⟩ := ride_at hrj hlj
            have e7 : at_ = some ⟨b7, o7, none⟩ := e7
            subst e7
            have hxo := HONE.out.2.2.2.1 x (List.mem_of_getElem? hx)
            have HXL := Lib.hid (enR_len hxo)
            obtain ⟨g1, g2, g3, g4⟩ := (moneB_iff x).1 hxo
            have HFT := Lib.hid (flat_take enR hx)
            have HX := Lib.hid hx
            clear hrj hx hxo
            obtain ⟨S, hS⟩ : ∃ S, Q ++ (m.rides.take j).flatMap enR = S := ⟨_, rfl⟩
            have HSS := Lib.hid hS
            rw [hS] at HGJ HLJ
            clear hS
            have HU1 : Hid ((putV x.t.toNat).length ≤ 10) := putV_10 _ (by omega)
            have HU2 : Hid ((putV x.s.toNat).length ≤ 10) := putV_10 _ (by omega)
            have HU3 : Hid ((putV x.e.toNat).length ≤ 10) := putV_10 _ (by omega)
            have HU4 : Hid ((putV (turnV x.f)).length ≤ 10) := putV_10 _ (turnV_lt (by omega) (by omega))
            have HRC : Hid (∀ W', Below w.heap.size w W' → W'.cell? ⟨b7, o7 + j * 4, none⟩ = some (.int .i64 x.t) ∧ W'.cell? ⟨b7, o7 + j * 4 + 1, none⟩ = some (.int .i64 x.s) ∧ W'.cell? ⟨b7, o7 + j * 4 + 2, none⟩ = some (.int .i64 x.e) ∧ W'.cell? ⟨b7, o7 + j * 4 + 3, none⟩ = some (.int .i64 x.f) ∧ b7 < W'.heap.size) := fun W' hb' => by
              obtain ⟨b8, o8, x8, e8, hbl8, hx8, q0, q1, q2, q3⟩ := ride_at (HRJ.out.below hb') hlj
              cases e8
              have := hx8.symm.trans HX.out
              cases this
              exact ⟨q0, q1, q2, q3, hbl8⟩
            clear k0 k1 k2 k3 y4 hyl hbl
            have y4_1 := (box_cell HYJ.out 4).1
            have yl6 := box_lt HYJ.out
            obtain ⟨r0, r1, r2, r3, rb1⟩ := HRC.out _ HGJ.out.bl
            go_upto_region 15 with (first
              | (go_at_call 59; go_loud (refine (r3num_any x.t wr (by omega) (by omega)).mono ?_); rintro e X6 ⟨x6, rfl, hox, hbx⟩; obtain ⟨xa6, xc6, rfl, hsx, -⟩ := hox.slice; have HSX6 := Lib.hid hsx; have HBX6 := Lib.hid hbx; clear hox hbx hsx)
              | (at_builtin; go_loud (refine wpList_app eltB rfl (.tmp 53) (.tmp 60) rfl (base := w.heap.size) _ S rfl (HGJ.out.below HBX6.out).own _ _ _ (putV x.t.toNat) rfl HSX6.out (by have := HLJ.out; have := HU1.out; unfold maxLen; (try simp only [List.length_append]); omega) (by have := HLJ.out; have := HU1.out; (try simp only [List.length_append]); omega) (HGJ.out.below HBX6.out).bl.size ?_); intro o6 W7 ho hg; obtain ⟨o6a, o6c, eo6, -⟩ := ho.slice; have HG6 : Hid (RW w W7 o6 (S ++ (putV x.t.toNat))) := HGJ.out.step HBX6.out ho hg (by have := HLJ.out; have := HU1.out; (try simp only [List.length_append]); omega); have HY6 := Lib.hid (RW.box HGJ.out HBX6.out hg HYJ.out (by decide)); clear ho hg eo6))
            clear y4_1 yl6 r0 r1 r2 r3 rb1
            have y4_2 := (box_cell HY6.out 4).1
            have yl7 := box_lt HY6.out
            obtain ⟨r0, r1, r2, r3, rb2⟩ := HRC.out _ HG6.out.bl
            go_upto_region 16 with (first
              | (go_at_call 59; go_loud (refine (r3num_any x.s W7 (by omega) (by omega)).mono ?_); rintro e X7 ⟨x7, rfl, hox, hbx⟩; obtain ⟨xa7, xc7, rfl, hsx, -⟩ := hox.slice; have HSX7 := Lib.hid hsx; have HBX7 := Lib.hid hbx; clear hox hbx hsx)
              | (at_builtin; go_loud (refine wpList_app eltB rfl (.tmp 62) (.tmp 69) rfl (base := w.heap.size) _ (S ++ (putV x.t.toNat)) rfl (HG6.out.below HBX7.out).own _ _ _ (putV x.s.toNat) rfl HSX7.out (by have := HLJ.out; have := HU2.out; unfold maxLen; have := HU1.out; (try simp only [List.length_append]); omega) (by have := HLJ.out; have := HU2.out; have := HU1.out; (try simp only [List.length_append]); omega) (HG6.out.below HBX7.out).bl.size ?_); intro o7 W8 ho hg; obtain ⟨o7a, o7c, eo7, -⟩ := ho.slice; have HG7 : Hid (RW w W8 o7 ((S ++ (putV x.t.toNat)) ++ (putV x.s.toNat))) := HG6.out.step HBX7.out ho hg (by have := HLJ.out; have := HU2.out; have := HU1.out; (try simp only [List.length_append]); omega); have HY7 := Lib.hid (RW.box HG6.out HBX7.out hg HY6.out (by decide)); clear ho hg eo7))
            clear y4_2 yl7 r0 r1 r2 r3 rb2
            have y4_3 := (box_cell HY7.out 4).1
            have yl8 := box_lt HY7.out
            obtain ⟨r0, r1, r2, r3, rb3⟩ := HRC.out _ HG7.out.bl
            go_upto_region 17 with (first
              | (go_at_call 59; go_loud (refine (r3num_any x.e W8 (by omega) (by omega)).mono ?_); rintro e X8 ⟨x8, rfl, hox, hbx⟩; obtain ⟨xa8, xc8, rfl, hsx, -⟩ := hox.slice; have HSX8 := Lib.hid hsx; have HBX8 := Lib.hid hbx; clear hox hbx hsx)
              | (at_builtin; go_loud (refine wpList_app eltB rfl (.tmp 71) (.tmp 78) rfl (base := w.heap.size) _ ((S ++ (putV x.t.toNat)) ++ (putV x.s.toNat)) rfl (HG7.out.below HBX8.out).own _ _ _ (putV x.e.toNat) rfl HSX8.out (by have := HLJ.out; have := HU3.out; unfold maxLen; have := HU1.out; have := HU2.out; (try simp only [List.length_append]); omega) (by have := HLJ.out; have := HU3.out; have := HU1.out; have := HU2.out; (try simp only [List.length_append]); omega) (HG7.out.below HBX8.out).bl.size ?_); intro o8 W9 ho hg; obtain ⟨o8a, o8c, eo8, -⟩ := ho.slice; have HG8 : Hid (RW w W9 o8 (((S ++ (putV x.t.toNat)) ++ (putV x.s.toNat)) ++ (putV x.e.toNat))) := HG7.out.step HBX8.out ho hg (by have := HLJ.out; have := HU3.out; have := HU1.out; have := HU2.out; (try simp only [List.length_append]); omega); have HY8 := Lib.hid (RW.box HG7.out HBX8.out hg HY7.out (by decide)); clear ho hg eo8))
            clear y4_3 yl8 r0 r1 r2 r3 rb3
            have y4_4 := (box_cell HY8.out 4).1
            have yl9 := box_lt HY8.out
            obtain ⟨r0, r1, r2, r3, rb4⟩ := HRC.out _ HG8.out.bl
            go_wp2_with (first
              | (go_at_call 60; go_loud (refine (r3sgn_any x.f W9 (by omega) (by omega)).mono ?_); rintro e X9 ⟨x9, rfl, hox, hbx⟩; obtain ⟨xa9, xc9, rfl, hsx, -⟩ := hox.slice; have HSX9 := Lib.hid hsx; have HBX9 := Lib.hid hbx; clear hox hbx hsx)
              | (at_builtin; go_loud (refine wpList_app eltB rfl (.tmp 80) (.tmp 87) rfl (base := w.heap.size) _ (((S ++ (putV x.t.toNat)) ++ (putV x.s.toNat)) ++ (putV x.e.toNat)) rfl (HG8.out.below HBX9.out).own _ _ _ (putV (turnV x.f)) rfl HSX9.out (by have := HLJ.out; have := HU4.out; unfold maxLen; have := HU1.out; have := HU2.out; have := HU3.out; (try simp only [List.length_append]); omega) (by have := HLJ.out; have := HU4.out; have := HU1.out; have := HU2.out; have := HU3.out; (try simp only [List.length_append]); omega) (HG8.out.below HBX9.out).bl.size ?_); intro o9 W10 ho hg; obtain ⟨o9a, o9c, eo9, -⟩ := ho.slice; have HG9 : Hid (RW w W10 o9 ((((S ++ (putV x.t.toNat)) ++ (putV x.s.toNat)) ++ (putV x.e.toNat)) ++ (putV (turnV x.f)))) := HG8.out.step HBX9.out ho hg (by have := HLJ.out; have := HU4.out; have := HU1.out; have := HU2.out; have := HU3.out; (try simp only [List.length_append]); omega); have HY9 := Lib.hid (RW.box HG8.out HBX9.out hg HY8.out (by decide)); clear ho hg eo9))
            go_roundw
            case rel =>
              have e8 : Q ++ (m.rides.take (j + 1)).flatMap enR = ((((S ++ (putV x.t.toNat)) ++ (putV x.s.toNat)) ++ (putV x.e.toNat)) ++ (putV (turnV x.f))) := by
                rw [HFT.out, ← HSS.out]
                unfold enR
                simp only [List.append_assoc]
              exact ⟨j + 1, by go_num, by omega, by have := HLJ.out; have := HU1.out; have := HU2.out; have := HU3.out; have := HU4.out; show _ ≤ _; rw [e8]; simp only [List.length_append]; omega, by show RW _ _ _ _; rw [e8]; exact HG9.out, HY9.out⟩
            case measure => simp [intOf]; omega
          · have hjl : j = m.rides.length := by omega
            go_wp2_with fail
            go_meet
            have e5 : m.rides.take j = m.rides := List.take_of_length_le (by omega)
            rw [e5] at HLJ HGJ
            exact ⟨HGJ.out, by have := HLJ.out; show _ ≤ _; omega, HYJ.out⟩
      obtain ⟨HGD, HLD, HYD⟩ := hcut
      obtain ⟨T, hT⟩ : ∃ T, Q ++ m.rides.flatMap enR = T := ⟨_, rfl⟩
      have HTT := Lib.hid hT
      rw [hT] at HGD HLD
      clear hT
      obtain ⟨y0, y1, y2, y3, y4, y5⟩ := box6_cells HYD.out
      have hyl := box_lt HYD.out
      have HEND : Hid (P0 ++ (ms.take (i + 1)).flatMap enM = T ++ [zB m.z]) := by
        show _ = _
        rw [flat_take enM HM.out, ← List.append_assoc, HPP.out, ← HTT.out, ← HQQ.out]
        unfold enM heM enN
        simp
      obtain ⟨mz, hmz⟩ : ∃ q, m.z = q := ⟨_, rfl⟩
      rw [hmz] at y5 HEND
      clear hmz y0 y1 y2 y3 y4
      cases mz with
      | false =>
        go_wp2_with (at_builtin; go_loud (refine wpList_app eltB rfl (.tmp 94) (.tmp 95) rfl (base := w.heap.size) _ T rfl (HGD.out.own.alloc _) _ 1 1 [0] rfl (sl_new (c := bcod) wc #[.int .u8 0] 5 [0] 1 rfl (by unfold maxLen; omega) rfl) (by have := HLD.out; unfold maxLen; omega) (by have := HLD.out; omega) (by have := HGD.out.bl.size; simp; omega) ?_); intro v8 W8 ho hg; have HG8 : Hid (RW w W8 v8 (T ++ [0])) := HGD.out.step ((Below.refl _ _).alloc (Nat.le_refl _) _) ho hg (by have := HLD.out; simp only [List.length_append, List.length_cons, List.length_nil]; omega); clear ho hg)
        go_roundw
        case rel => exact ⟨i + 1, by go_num, by omega, by have := HLD.out; show _ ≤ _; rw [HEND.out]; simp only [List.length_append, List.length_cons, List.length_nil]; omega, by show RW _ _ _ _; rw [HEND.out]; exact HG8.out⟩
        case measure => simp [intOf]; omega
      | true =>
        go_wp2_with (at_builtin; go_loud (refine wpList_app eltB rfl (.tmp 91) (.tmp 92) rfl (base := w.heap.size) _ T rfl (HGD.out.own.alloc _) _ 1 1 [1] rfl (sl_new (c := bcod) wc #[.int .u8 1] 5 [1] 1 rfl (by unfold maxLen; omega) rfl) (by have := HLD.out; unfold maxLen; omega) (by have := HLD.out; omega) (by have := HGD.out.bl.size; simp; omega) ?_); intro v8 W8 ho hg; have HG8 : Hid (RW w W8 v8 (T ++ [1])) := HGD.out.step ((Below.refl _ _).alloc (Nat.le_refl _) _) ho hg (by have := HLD.out; simp only [List.length_append, List.length_cons, List.length_nil]; omega); clear ho hg)
        go_roundw
        case rel => exact ⟨i + 1, by go_num, by omega, by have := HLD.out; show _ ≤ _; rw [HEND.out]; simp only [List.length_append, List.length_cons, List.length_nil]; omega, by show RW _ _ _ _; rw [HEND.out]; exact HG8.out⟩
        case measure => simp [intOf]; omega
    · have hie : i = n := by omega
      subst hie
      have HALL : Hid (P0 ++ (ms.take i).flatMap enM = putMs ms) := by
        show _ = _
        rw [List.take_of_length_le (by rw [← HN.out]; exact Nat.le_refl _), ← HP0.out, HN.out]
        rfl
      go_wp2_with fail
      go_ret
      have := HGI.out
      rw [HALL.out] at this
      exact ⟨_, rfl, this.own, this.bl⟩
end Go.Proofs.Ytbdkhgenkekioaa

namespace Go.Proofs.Ytbdkhgenkekioaa
open Go.RowKit Go.V Go.Sort Go.Shelf Go.Proofs Go.Maps
open Go.Proofs.Ytbdkhgenkekioaa.Ne (box_alloc box_new box_cell box_below box_lt box2_cells)

set_option maxHeartbeats 4000000 in
set_option maxRecDepth 100000 in
theorem rmsame_eq (a1 : Option Addr) (n c1 : Nat) (hs1 : List Hdr) (a2 : Option Addr) (c2 : Nat) (hs2 : List Hdr) (ms : List Mon) (w : World) (hn : n ≤ 1000000) (hl : ∀ m ∈ ms, m.rides.length ≤ 1000000) (h1 : MonIn w a1 n c1 hs1 ms) (h2 : MonIn w a2 n c2 hs2 ms) :
    Calls Try.prog 13 #[.slice a1 n c1, .slice a2 n c2] w fun e w' => e = .returned (.bool true) ∧ Below w.heap.size w w' := by
  go_enter Try.func13, Try.ntmps13
  go_wp2_with fail
  go_loopw [5] (fun i wr => ∃ k : Nat, i = .int .i64 k ∧ k ≤ n ∧ Hid (Below w.heap.size w wr)) (fun i _ => n - (intOf i).toNat)
  case atStart => exact ⟨0, rfl, by omega, Below.refl _ _⟩
  case round =>
    obtain ⟨k, rfl, hk, hB⟩ := hrel
    by_cases hlt : k < n
    · obtain ⟨b, off, at_, ct, m, rfl, hbb, hm, -, ⟨c0, c1', c2', c3, c4, c5⟩, hrd⟩ := (h1.below hB.out).at hlt
      obtain ⟨b2, off2, at2, ct2, m2, rfl, hbb2, hm2, -, ⟨d0, d1, d2, d3, d4, d5⟩, hrd2⟩ := (h2.below hB.out).at hlt
      have := hm.symm.trans hm2
      cases this
      have HL := Lib.hid (hl m (List.mem_of_getElem? hm))
      have HRD := Lib.hid hrd
      have HRD2 := Lib.hid hrd2
      have hbs := hB.out.size
      have b1 : (k : Int) < (n : Int) := by omega
      clear hm hm2 hrd hrd2
      go_upto_region 8 with fail
      have X0 : Hid (((wr.alloc (.cells #[.int .i64 m.a, .int .i64 m.m, .int .i64 m.t, .int .i64 m.c, .slice at_ m.rides.length ct, .bool m.z] 27)).alloc (.cells #[.int .i64 m.a, .int .i64 m.m, .int .i64 m.t, .int .i64 m.c, .slice at2 m.rides.length ct2, .bool m.z] 27)).heap[wr.heap.size]? = some (.cells #[.int .i64 m.a, .int .i64 m.m, .int .i64 m.t, .int .i64 m.c, .slice at_ m.rides.length ct, .bool m.z] 27 (0, 0))) := box_alloc (box_new wr _)
      have X2 : Hid (((wr.alloc (.cells #[.int .i64 m.a, .int .i64 m.m, .int .i64 m.t, .int .i64 m.c, .slice at_ m.rides.length ct, .bool m.z] 27)).alloc (.cells #[.int .i64 m.a, .int .i64 m.m, .int .i64 m.t, .int .i64 m.c, .slice at2 m.rides.length ct2, .bool m.z] 27)).heap[wr.heap.size + 1]? = some (.cells #[.int .i64 m.a, .int .i64 m.m, .int .i64 m.t, .int .i64 m.c, .slice at2 m.rides.length ct2, .bool m.z] 27 (0, 0))) := by
        have := box_new (wr.alloc (.cells #[.int .i64 m.a, .int .i64 m.m, .int .i64 m.t, .int .i64 m.c, .slice at_ m.rides.length ct, .bool m.z] 27)) (.cells #[.int .i64 m.a, .int .i64 m.m, .int .i64 m.t, .int .i64 m.c, .slice at2 m.rides.length ct2, .bool m.z] 27)
        rwa [World.size_alloc] at this
      have B0 : Hid (Below wr.heap.size wr ((wr.alloc (.cells #[.int .i64 m.a, .int .i64 m.m, .int .i64 m.t, .int .i64 m.c, .slice at_ m.rides.length ct, .bool m.z] 27)).alloc (.cells #[.int .i64 m.a, .int .i64 m.m, .int .i64 m.t, .int .i64 m.c, .slice at2 m.rides.length ct2, .bool m.z] 27))) := ((Below.refl _ _).alloc (Nat.le_refl _) _).alloc (by simp) _
      obtain ⟨W, hW⟩ : ∃ W, (wr.alloc (.cells #[.int .i64 m.a, .int .i64 m.m, .int .i64 m.t, .int .i64 m.c, .slice at_ m.rides.length ct, .bool m.z] 27)).alloc (.cells #[.int .i64 m.a, .int .i64 m.m, .int .i64 m.t, .int .i64 m.c, .slice at2 m.rides.length ct2, .bool m.z] 27) = W := ⟨_, rfl⟩
      rw [hW] at X0 X2 B0 ⊢
      clear hW c0 c1' c2' c3 c4 c5 d0 d1 d2 d3 d4 d5
      have HBW : Hid (Below w.heap.size w W) := hB.out.trans (B0.out.mono hbs)
      obtain ⟨y0, y1, y2, y3, y4, y5⟩ := box6_cells X0.out
      obtain ⟨z0, z1, z2, z3, z4, z5⟩ := box6_cells X2.out
      have hz1 := box_lt X0.out
      have hz2 := box_lt X2.out
      go_wp2_with (go_at_call 45; refine (same_any at_ m.rides.length ct m.rides at2 m.rides.length ct2 m.rides _ HL.out (HRD.out.below B0.out) (HRD2.out.below B0.out)).mono ?_; rintro e w3 ⟨rfl, hb3⟩; rw [show decide (m.rides = m.rides) = true from decide_eq_true rfl]; have HB3 := Lib.hid (HBW.out.trans (hb3.mono HBW.out.size)); clear hb3)
      go_roundw
      case rel => exact ⟨k + 1, by go_num, by omega, HB3.out⟩
      case measure => simp [intOf]; omega
    · have hk' : k = n := by omega
      subst hk'
      go_wp2_with fail
      go_ret
      exact ⟨rfl, hB.out⟩
end Go.Proofs.Ytbdkhgenkekioaa

namespace Go.Proofs.Ytbdkhgenkekioaa
open Go.RowKit Go.V Go.Sort Go.Shelf Go.Proofs Go.Maps
open Go.Proofs.Ytbdkhgenkekioaa.Ne (box_alloc box_new box_cell box_below box_lt box2_cells)

theorem slr_nil (w : World) : Sl Ride.cod w none 0 0 ([] : List Ride) := ⟨rfl, Nat.le_refl _, by unfold maxLen; omega, fun _ => ⟨rfl, rfl⟩, fun d hd => nomatch hd⟩
def mEx : Mon := ⟨1, 2, 1, 0, [], false⟩
def rEx : Ride := ⟨3, 250, 260, 4⟩
theorem rEx_ok : Ride.ok rEx := by unfold Ride.ok; decide
theorem right_nil : RightM [] := ⟨by decide, fun i m h => by simp at h⟩
theorem oneEx : OneM mEx := by decide
theorem begEx : begRE [] mEx = 0 ∧ begR [] mEx = [mEx] := by
  obtain ⟨h1, h2⟩ := begE_new (ms := []) (m := mEx) right_nil oneEx (by decide) (by decide)
  exact ⟨h1, by rw [h2]; rfl⟩
theorem addEx : turnE 1 [mEx] 1 2 rEx = 0 ∧ turnR 1 [mEx] 1 2 rEx = [{ mEx with rides := [rEx] }] := by
  have hf : findM [mEx] 1 2 = ((0 : Nat) : Int) := by decide
  obtain ⟨h1, h2⟩ := tn_at (k := 1) (ms := [mEx]) (A := 1) (M := 2) (r := rEx) (j := 0) (m := mEx) ⟨(right_one mEx).2 oneEx, .inr (by decide)⟩ hf (by unfold monAt; rw [hf]; rfl) (by decide)
  rw [h1, h2]
  exact ⟨by decide, by unfold rideR; decide⟩
theorem findEx (a : Option Addr) (c : Nat) (hs : List Hdr) (w : World) (h : MonIn w a 1 c hs [{ mEx with rides := [rEx] }]) :
    Calls Try.prog 18 #[.slice a 1 c, .int .i64 1, .int .i64 2] w fun e w' => ∃ q : Hdr, e = .returned (.tuple #[.agg #[.int .i64 1, .int .i64 2, .int .i64 1, .int .i64 0, .slice q.a 1 q.cap, .bool false], .bool true]) ∧ Sl Ride.cod w' q.a 1 q.cap [rEx] ∧ Below w.heap.size w w' := by
  refine (mfind2_any a 1 c hs [{ mEx with rides := [rEx] }] 1 2 w (by omega) (fun m hm => by simp at hm; subst hm; decide) h).mono ?_
  rintro e w' ⟨h1, h2⟩
  have hf : findM [{ mEx with rides := [rEx] }] 1 2 = ((0 : Nat) : Int) := by decide
  rcases h1 with ⟨h1, -⟩ | ⟨k, m, ⟨qa, qn, qc⟩, h1, h3, -, rfl, h4⟩
  · rw [hf] at h1; omega
  · rw [hf] at h1
    have : k = 0 := by omega
    subst this
    simp at h3; subst h3
    obtain rfl : qn = 1 := h4.hlen
    exact ⟨⟨qa, 1, qc⟩, rfl, h4, h2⟩
set_option maxHeartbeats 4000000 in
set_option maxRecDepth 100000 in
theorem awake37 (w : World) : Calls Try.prog 7 #[] w fun e w' => e = .returned (.bool true) ∧ Below w.heap.size w w' := by
  go_enter Try.func7, Try.ntmps7
  go_upto_region 5 with (first
    | (go_at_call 20; refine (mof_any 250 100 _).mono ?_; rintro e w1 ⟨rfl, rfl⟩; rw [show ofV 250 100 = 2 by decide, show ofE 250 100 = 0 by decide])
    | (go_at_call 11; go_loud (go_fit (mbegin_any none 0 0 [] [] mEx ⟨none, 0, 0⟩ _ (by omega) (fun m hm => by simp at hm) (fun m hm => by simp at hm) (by decide) (fun r hr => by simp [mEx] at hr) (MonIn.nil _) (slr_nil _)); rintro e w2 ⟨a2, c2, hs2, rfl, hin2, hb2⟩; rw [begEx.2] at hin2; rw [begEx.1, begEx.2]; have HIN2 : Hid (MonIn w2 a2 1 c2 hs2 [mEx]) := hin2; have HB2 := Lib.hid hb2; clear hin2 hb2))
    | (go_at_call 14; go_loud (go_fit (madd_any a2 1 c2 hs2 [mEx] 1 2 rEx w2 (by omega) (fun m hm => by simp at hm; subst hm; decide) (fun m hm => by simp at hm; subst hm; intro r hr; simp [mEx] at hr) rEx_ok HIN2.out); rintro e w3 ⟨v3, rfl, hq3, hb3⟩; rw [addEx.2] at hq3; rw [addEx.1]; obtain ⟨a3, c3, hs3, rfl, hin3⟩ := hq3; have HIN3 : Hid (MonIn w3 a3 1 c3 hs3 [{ mEx with rides := [rEx] }]) := hin3; have HB3 := Lib.hid (HB2.out.trans (hb3.mono HB2.out.size)); clear hin3 hb3))
    | (go_at_call 18; go_fit (findEx a3 c3 hs3 w3 HIN3.out); rintro e w4 ⟨q4, rfl, hq4, hb4⟩; have HQ4 := Lib.hid hq4; have HB4 := Lib.hid (HB3.out.trans (hb4.mono HB3.out.size)); clear hq4 hb4))
  go_wp2_with fail
  go_ret
  exact ⟨rfl, HB4.out.alloc HB4.out.size _⟩
end Go.Proofs.Ytbdkhgenkekioaa

namespace Go.Proofs.Ytbdkhgenkekioaa
open Go.RowKit Go.V Go.Sort Go.Shelf Go.Proofs Go.Maps Go.Proofs.Ytbdkhgenkekioaa.Wi
open Go.Proofs.Ytbdkhgenkekioaa.Ne (box_alloc box_new box_cell box_below box_lt)

theorem takeL_small (c : List Int) : (takeL c).length ≤ 1000000 ∧ ∀ m ∈ takeL c, m.rides.length ≤ 1000000 := by
  by_cases h : takeE c = 0
  · obtain ⟨K, h1, h2⟩ := rdN_most c 4096 0 0 (by omega)
    have e : takeL c = (rdMons c).1.map Prod.fst := by unfold takeL; rw [if_pos h]
    have h3 : rdN c 4096 0 0 = ((K : Int), (rdN c 4096 0 0).2) := by rw [← h1]
    have h4 := rdMons_of h3
    rw [e, h4]
    refine ⟨by rw [List.length_map, rdMany_len]; omega, fun m hm => ?_⟩
    have := (rdMons_small c K _ m hm).1
    omega
  · have e : takeL c = [] := by unfold takeL; rw [if_neg h]
    rw [e]
    simp

set_option maxHeartbeats 8000000 in
set_option maxRecDepth 100000 in
theorem mbytes_any (a : Option Addr) (n cap : Nat) (hs : List Hdr) (ms : List Mon) (va : Option Addr) (vn vc : Nat) (b : List Int) (w : World) (h0 : MonIn w a n cap hs ms) (hok : ∀ m ∈ ms, ∀ r ∈ m.rides, Ride.ok r) (hsb : Sl bcod w va vn vc b) (hB : ∀ x ∈ b, 0 ≤ x ∧ x < 256) :
    Calls Try.prog 4 #[.slice a n cap, .slice va vn vc] w fun e w' => e = .returned (.bool true) ∧ Below w.heap.size w w' := by
  have mixed : Try.prog.follows .mixedOrders = true := by kernel_rfl
  have HN := Lib.hid h0.n_eq
  have HSB := Lib.hid hsb
  have HBB : Hid (Byt b) := hB
  have hvn : vn ≤ 9223372036854775807 := by have := hsb.hcap; have := hsb.hmax; unfold maxLen at this; omega
  obtain ⟨p1, hp1⟩ : ∃ p, decide (FewM ms) = p := ⟨_, rfl⟩
  have HP := Lib.hid hp1
  clear hp1
  cases p1 with
  | false =>
    go_enter Try.func4, Try.ntmps4
    go_wp2_with (first
      | (go_at_call 7; refine (awake37 _).mono ?_; rintro e w1 ⟨rfl, hb1⟩; have HB1 := Lib.hid hb1; clear hb1)
      | (go_at_call 8; go_fit (few37_any a n cap hs ms _ (h0.below HB1.out)); rintro e w2 ⟨rfl, hb2⟩; rw [HP.out]; have HB2 := Lib.hid (HB1.out.trans (hb2.mono HB1.out.size)); clear hb2))
    go_ret
    exact ⟨rfl, HB2.out⟩
  | true =>
    by_cases hm : 2000 < vn
    · have hm2 : (2000 : Int) < (vn : Int) := by omega
      go_enter Try.func4, Try.ntmps4
      go_wp2_with (first
        | (go_at_call 7; refine (awake37 _).mono ?_; rintro e w1 ⟨rfl, hb1⟩; have HB1 := Lib.hid hb1; clear hb1)
        | (go_at_call 8; go_fit (few37_any a n cap hs ms _ (h0.below HB1.out)); rintro e w2 ⟨rfl, hb2⟩; rw [HP.out]; have HB2 := Lib.hid (HB1.out.trans (hb2.mono HB1.out.size)); clear hb2))
      go_ret
      exact ⟨rfl, HB2.out⟩
    have hm2 : ¬ (2000 : Int) < (vn : Int) := by omega
    have hf1 : FewM ms := of_decide_eq_true HP.out
    have hn : n ≤ 20 := by rw [HN.out]; exact hf1.2
    have hl1 : ∀ m ∈ ms, m.rides.length ≤ 1000000 := fun m hm => by have := hf1.1 m hm; omega
    have hv9 : vn ≤ 1000000000 := by omega
    obtain ⟨T1, T2⟩ := takeL_small b
    obtain ⟨tl, htl⟩ : ∃ x, takeL b = x := ⟨_, rfl⟩
    obtain ⟨te, hte⟩ : ∃ x, takeE b = x := ⟨_, rfl⟩
    rw [htl] at T1 T2
    have HTL := Lib.hid htl
    have HTE := Lib.hid hte
    have HT := Lib.hid (And.intro T1 T2)
    clear hf1 htl hte T1 T2 hm hvn
    obtain ⟨p2, hp2⟩ : ∃ p, decide (RightM ms) = p := ⟨_, rfl⟩
    have HP2 := Lib.hid hp2
    clear hp2
    go_enter Try.func4, Try.ntmps4
    go_upto_region 5 with (first
      | (go_at_call 7; refine (awake37 _).mono ?_; rintro e w1 ⟨rfl, hb1⟩; have HB1 := Lib.hid hb1; clear hb1)
      | (go_at_call 8; go_fit (few37_any a n cap hs ms _ (h0.below HB1.out)); rintro e w2 ⟨rfl, hb2⟩; rw [HP.out]; have HB2 := Lib.hid (HB1.out.trans (hb2.mono HB1.out.size)); clear hb2))
    cases p2 with
    | false =>
      go_wp2_with (first
        | (go_at_call 21; go_fit (mput_any a n cap hs ms w2 (by omega) hl1 hok (h0.below HB2.out)); rintro e w3 ⟨hb3, he, -⟩; have he2 := he (of_decide_eq_false HP2.out); subst he2; have HB3 := Lib.hid (HB2.out.trans (hb3.mono HB2.out.size)); clear hb3 he)
        | (go_at_call 10; go_fit (rmright_any a n cap hs ms w3 (by omega) hl1 (h0.below HB3.out)); rintro e w4 ⟨rfl, hb4⟩; rw [HP2.out]; have HB4 := Lib.hid (HB3.out.trans (hb4.mono HB3.out.size)); clear hb4)
        | (go_at_call 24; go_loud (refine (mtake_any va vn vc b w4 (HSB.out.below HB4.out) HBB.out hv9).mono ?_); rintro e w5 ⟨v5, rfl, ht5, hb5⟩; rw [HTL.out] at ht5; rw [HTE.out]; obtain ⟨a5, c5, hs5, rfl, hi5⟩ := ht5; have HI5 := Lib.hid hi5; have HB5 := Lib.hid (HB4.out.trans (hb5.mono HB4.out.size)); clear hb5 hi5)
        | (go_at_call 25; go_loud (refine (rmtake_any va vn vc b w5 (HSB.out.below HB5.out) HBB.out hv9).mono ?_); rintro e w6 ⟨v6, rfl, ht6, hb6⟩; rw [HTL.out] at ht6; rw [HTE.out]; obtain ⟨a6, c6, hs6, rfl, hi6⟩ := ht6; have HI6 := Lib.hid hi6; have HI56 := Lib.hid (HI5.out.below hb6); have HB6 := Lib.hid (HB5.out.trans (hb6.mono HB5.out.size)); clear hb6 hi6)
        | (go_at_call 13; go_loud (refine (rmsame_eq a5 tl.length c5 hs5 a6 c6 hs6 tl w6 HT.out.1 HT.out.2 HI56.out HI6.out).mono ?_); rintro e w7 ⟨rfl, hb7⟩; have HB7 := Lib.hid (HB6.out.trans (hb7.mono HB6.out.size)); clear hb7))
      go_ret
      exact ⟨by simp, HB7.out⟩
    | true =>
      have HRM := Lib.hid (of_decide_eq_true HP2.out)
      go_wp2_with (first
        | (go_at_call 21; go_fit (mput_any a n cap hs ms w2 (by omega) hl1 hok (h0.below HB2.out)); rintro e w3 ⟨hb3, -, he⟩; obtain ⟨v3, rfl, ho3⟩ := he HRM.out; obtain ⟨a3, c3, rfl, hsl3, -⟩ := ho3.slice; have HS3 := Lib.hid hsl3; have HB3 := Lib.hid (HB2.out.trans (hb3.mono HB2.out.size)); clear hb3 he ho3 hsl3)
        | (go_at_call 10; go_fit (rmright_any a n cap hs ms w3 (by omega) hl1 (h0.below HB3.out)); rintro e w4 ⟨rfl, hb4⟩; rw [HP2.out]; have HS4 := Lib.hid (HS3.out.below hb4); have HB4 := Lib.hid (HB3.out.trans (hb4.mono HB3.out.size)); clear hb4)
        | (go_at_call 23; go_loud (refine (rmput_any a n cap hs ms w4 HRM.out (h0.below HB4.out)).mono ?_); rintro e u4 ⟨v6, rfl, ho6, hb6⟩; obtain ⟨a6, c6, rfl, hsl6, -⟩ := ho6.slice; have HS6 := Lib.hid hsl6; have HU4 := Lib.hid (HB4.out.trans (hb6.mono HB4.out.size)); have HS36 := Lib.hid (HS4.out.below hb6); clear hb6 ho6 hsl6)
        | (go_at_call 22; go_loud (refine (bsame_any a3 _ c3 _ a6 _ c6 _ u4 HS36.out HS6.out).mono ?_); rintro e u5 ⟨rfl, hb6⟩; have HU5 := Lib.hid (HU4.out.trans (hb6.mono HU4.out.size)); clear hb6)
        | (go_at_call 24; go_loud (refine (mtake_any va vn vc b u5 (HSB.out.below HU5.out) HBB.out hv9).mono ?_); rintro e w5 ⟨v5, rfl, ht5, hb5⟩; rw [HTL.out] at ht5; rw [HTE.out]; obtain ⟨a5, c5, hs5, rfl, hi5⟩ := ht5; have HI5 := Lib.hid hi5; have HB5 := Lib.hid (HU5.out.trans (hb5.mono HU5.out.size)); clear hb5 hi5)
        | (go_at_call 25; go_loud (refine (rmtake_any va vn vc b w5 (HSB.out.below HB5.out) HBB.out hv9).mono ?_); rintro e w6 ⟨v6, rfl, ht6, hb6⟩; rw [HTL.out] at ht6; rw [HTE.out]; obtain ⟨a7, c7, hs7, rfl, hi6⟩ := ht6; have HI6 := Lib.hid hi6; have HI56 := Lib.hid (HI5.out.below hb6); have HB6 := Lib.hid (HB5.out.trans (hb6.mono HB5.out.size)); clear hb6 hi6)
        | (go_at_call 13; go_loud (refine (rmsame_eq a5 tl.length c5 hs5 a7 c7 hs7 tl w6 HT.out.1 HT.out.2 HI56.out HI6.out).mono ?_); rintro e w7 ⟨rfl, hb7⟩; have HB7 := Lib.hid (HB6.out.trans (hb7.mono HB6.out.size)); clear hb7))
      go_ret
      exact ⟨by simp, HB7.out⟩
end Go.Proofs.Ytbdkhgenkekioaa

namespace Go.V
open Go.RowKit Go.ChangeShapes Go.WideShapes Go.ChangeAt

theorem add_addr' (b off j : Nat) : (⟨b, off, none⟩ : Addr).add j = ⟨b, off + j, none⟩ := add_addr b off j

/-- A slice argument's address, as it must be. -/
theorem okWide_addr {P : Program} {w : World} {r : Reach} {base : Nat} {t e : TypeId} {d : Addr} {n cap : Nat} (ht : P.underlying t = some (.slice e)) (h : Value.okWide P w r base t (.slice (some d) n cap)) : d.spot = none ∧ d.block < w.heap.size := by
  simp only [Value.okWide, ht, Cell.okWide, Cell.ok, World.has] at h
  obtain ⟨-, -, -, h1, row, cells, h2, -⟩ := h
  refine ⟨h1, ?_⟩
  unfold World.shape? at h2
  split at h2
  · next hh => exact (Array.getElem?_eq_some_iff.1 hh).1
  · cases h2

theorem list_of {α : Type} {p : Nat → α → Prop} : ∀ n, (∀ i, i < n → ∃ x, p i x) → ∃ xs : List α, xs.length = n ∧ ∀ i x, xs[i]? = some x → p i x
  | 0, _ => ⟨[], rfl, fun i x hx => by simp at hx⟩
  | n + 1, h => by
    obtain ⟨xs, h1, h2⟩ := list_of n (fun i hi => h i (by omega))
    obtain ⟨x, hx⟩ := h n (by omega)
    refine ⟨xs ++ [x], by simp [h1], fun i y hy => ?_⟩
    by_cases hi : i < n
    · rw [List.getElem?_append_left (by omega)] at hy; exact h2 i y hy
    · have hl := (List.getElem?_eq_some_iff.1 hy).1
      simp at hl
      have : i = n := by omega
      subst this
      rw [List.getElem?_append_right (by omega)] at hy
      simp [h1] at hy; subst hy; exact hx

theorem open_sl {α : Type} {c : Cod α} {ok : α → Prop} {H : Type} {enc : TypeId × Value → H} {P : Program} {w : World} {b0 base : Nat} {spare : Nat → Bool} {held : Bool} {t e : TypeId} {v : Value} {d : DataW H} {ps : List MemPlace} (ht : P.underlying t = some (.slice e)) (hc : P.cellsOf e = c.k)
    (hel : ∀ n cs y, DataW.trod enc P w b0 spare held n e cs = some y → ∃ x, cs = c.enc x ∧ ok x)
    (hval : Value.okWide P w .any base t v) (h : DataW.Trod enc P w b0 spare held t v d ps) : ∃ a n cap xs, v = .slice a n cap ∧ Sl c w a n cap xs ∧ ∀ x ∈ xs, ok x := by
  obtain ⟨a, n, cap, rfl⟩ := okWide_slice ht hval
  obtain ⟨fuel, hf⟩ := h
  rcases Go.Deep.open_slice ht hf with ⟨hcs, _⟩ | ⟨d, n', cap', m, _, D, Pl, hcs, -, hl, hm, hmm, -, hx⟩
  · simp [Value.cells] at hcs
    obtain ⟨rfl, rfl, rfl⟩ := hcs
    exact ⟨none, 0, 0, [], rfl, ⟨rfl, Nat.le_refl _, by unfold maxLen; omega, fun _ => ⟨rfl, rfl⟩, fun d hd => nomatch hd⟩, fun x hx => by simp at hx⟩
  · simp [Value.cells] at hcs
    obtain ⟨rfl, rfl, rfl⟩ := hcs
    obtain ⟨hs, hb⟩ := okWide_addr ht hval
    obtain ⟨b, off, sp⟩ := d
    change sp = none at hs
    subst hs
    have hle : n ≤ m := by rw [hmm]; split <;> omega
    have hx' : ∀ i, i < n → ∃ x, ok x ∧ ∀ j u, (c.enc x)[j]? = some u → w.cell? ⟨b, off + i * c.k + j, none⟩ = some u := by
      intro i hi
      obtain ⟨cs', h1, h2⟩ := hx i (by omega)
      obtain ⟨x, rfl, hok⟩ := hel _ _ _ h2
      refine ⟨x, hok, fun j u hu => ?_⟩
      have hj : j < c.k := by rw [← c.len x]; exact (List.getElem?_eq_some_iff.1 hu).1
      rw [hc, add_addr] at h1
      obtain ⟨_, _, h4⟩ := World.cells?_some h1
      have h5 := h4 j (by simpa [hc] using hj)
      rw [add_addr] at h5
      rw [h5]; exact hu
    obtain ⟨xs, hl1, hl2⟩ := list_of n hx'
    refine ⟨some ⟨b, off, none⟩, n, cap, xs, rfl, ⟨hl1.symm, hl, hm, (fun hd => nomatch hd), fun d hd _ => ?_⟩, fun x hx => ?_⟩
    · simp at hd; subst hd
      refine ⟨rfl, hb, fun j u hu => ?_⟩
      have hj : j < n * c.k := by have := (List.getElem?_eq_some_iff.1 hu).1; rw [flat_len, hl1] at this; exact this
      have hk : 0 < c.k := by rcases Nat.eq_zero_or_pos c.k with e | e; rw [e] at hj; omega; exact e
      have f1 := flat_get c xs (j / c.k) (j % c.k) (Nat.mod_lt _ hk)
      have f3 : j / c.k * c.k + j % c.k = j := by rw [Nat.mul_comm]; exact Nat.div_add_mod j c.k
      rw [f3, hu] at f1
      obtain ⟨x, g1, g2⟩ := Option.bind_eq_some_iff.1 f1.symm
      have := (hl2 _ _ g1).2 _ _ g2
      show w.cell? ⟨b, off + j, none⟩ = _
      rw [Nat.add_assoc, f3] at this
      exact this
    · obtain ⟨i, hi⟩ := List.mem_iff_getElem?.1 hx
      exact (hl2 i x hi).1
/-- An array of two numbers. -/
theorem open_i2 {H : Type} {enc : TypeId × Value → H} {P : Program} {w : World} {b0 base : Nat} {spare : Nat → Bool} {held : Bool} {t e : TypeId} {v : Value} {d : DataW H} {ps : List MemPlace} (ht : P.underlying t = some (.array 2 e)) (he : P.underlying e = some (.int .i64)) (hc : P.cellsOf t = 2) (hc1 : P.cellsOf e = 1)
    (hval : Value.okWide P w .any base t v) (h : DataW.Trod enc P w b0 spare held t v d ps) : ∃ p q : Int, v = .agg #[.int .i64 p, .int .i64 q] := by
  simp only [Value.okWide, ht] at hval
  obtain ⟨cs, rfl, hs, -⟩ := hval
  obtain ⟨fuel, hf⟩ := h
  obtain ⟨xs, m, -, -, hl, hxl, hx⟩ := DataW.trod_array ht hf
  obtain ⟨l⟩ := cs
  rw [hc] at hs
  match l, hs with
  | [v0, v1], _ =>
    have h0 := hx 0 (by omega)
    have h1 := hx 1 (by omega)
    match xs, hxl with
    | [y0, y1], _ =>
      simp [Value.cells, hc1] at h0 h1
      obtain ⟨n0, e0, -, w0⟩ := DataW.trod_int he h0
      obtain ⟨n1, e1, -, w1⟩ := DataW.trod_int he h1
      simp at e0 e1
      subst e0; subst e1
      exact ⟨n0, n1, rfl⟩
end Go.V

namespace Go.V
open Go.RowKit Go.ChangeShapes Go.WideShapes Go.ChangeAt
/-- A slice within an argument, all of whose room is read. -/
theorem trod_sl {α : Type} {c : Cod α} {ok : α → Prop} {H : Type} {enc : TypeId × Value → H} {P : Program} {w : World} {b0 : Nat} {spare : Nat → Bool} {held : Bool} {t e : TypeId} {n : Nat} {cs : List Value} {y : DataW H × List MemPlace} (hsp : ∀ b, spare b = true) (ht : P.underlying t = some (.slice e)) (hc : P.cellsOf e = c.k) (hk : 0 < c.k)
    (hel : ∀ n cs y, DataW.trod enc P w b0 spare held n e cs = some y → ∃ x, cs = c.enc x ∧ ok x) (h : DataW.trod enc P w b0 spare held n t cs = some y) : ∃ (a : Option Addr) (l r : Nat) (xs : List α), cs = [.slice a l r] ∧ Sl c w a l r xs ∧ ∀ x ∈ xs, ok x := by
  rcases Go.Deep.open_slice ht h with ⟨hcs, _⟩ | ⟨d, n, cap, m, _, D, Pl, hcs, -, hl, hm, hmm, -, hx⟩
  · exact ⟨none, 0, 0, [], hcs, ⟨rfl, Nat.le_refl _, Nat.zero_le _, fun _ => ⟨rfl, rfl⟩, fun d hd => nomatch hd⟩, fun x hx => by simp at hx⟩
  · rw [hsp, if_pos rfl] at hmm
    subst hmm
    by_cases h0 : 0 < m
    · obtain ⟨cs0, h1, h2⟩ := hx 0 h0
      obtain ⟨x0, rfl, -⟩ := hel _ _ _ h2
      obtain ⟨_, hl0, h4⟩ := World.cells?_some h1
      have h5 := h4 0 (by rw [hc]; exact hk)
      obtain ⟨u0, hu0⟩ : ∃ u, (c.enc x0)[0]? = some u := ⟨_, List.getElem?_eq_getElem (by rw [c.len]; exact hk)⟩
      rw [hu0] at h5
      obtain ⟨b, off, sp⟩ := d
      have hs : sp = none := by simpa [Addr.add] using World.cell?_spot h5
      subst hs
      have hb : b < w.heap.size := by have := World.block_lt_of_cell? w _ h5; simpa [Addr.add] using this
      have hx' : ∀ i, i < n → ∃ x, ok x ∧ ∀ j u, (c.enc x)[j]? = some u → w.cell? ⟨b, off + i * c.k + j, none⟩ = some u := by
        intro i hi
        obtain ⟨cs', h1, h2⟩ := hx i (by omega)
        obtain ⟨x, rfl, hok⟩ := hel _ _ _ h2
        refine ⟨x, hok, fun j u hu => ?_⟩
        have hj : j < c.k := by rw [← c.len x]; exact (List.getElem?_eq_some_iff.1 hu).1
        rw [hc, add_addr] at h1
        obtain ⟨_, _, h4⟩ := World.cells?_some h1
        have h5 := h4 j (by simpa [hc] using hj)
        rw [add_addr] at h5
        rw [h5]; exact hu
      obtain ⟨xs, hl1, hl2⟩ := list_of n hx'
      refine ⟨some ⟨b, off, none⟩, n, m, xs, hcs, ⟨hl1.symm, hl, hm, (fun hd => nomatch hd), fun d hd _ => ?_⟩, fun x hx => ?_⟩
      · simp at hd; subst hd
        refine ⟨rfl, hb, fun j u hu => ?_⟩
        have hj : j < n * c.k := by have := (List.getElem?_eq_some_iff.1 hu).1; rw [flat_len, hl1] at this; exact this
        have f1 := flat_get c xs (j / c.k) (j % c.k) (Nat.mod_lt _ hk)
        have f3 : j / c.k * c.k + j % c.k = j := by rw [Nat.mul_comm]; exact Nat.div_add_mod j c.k
        rw [f3, hu] at f1
        obtain ⟨x, g1, g2⟩ := Option.bind_eq_some_iff.1 f1.symm
        have := (hl2 _ _ g1).2 _ _ g2
        show w.cell? ⟨b, off + j, none⟩ = _
        rw [Nat.add_assoc, f3] at this
        exact this
      · obtain ⟨i, hi⟩ := List.mem_iff_getElem?.1 hx
        exact (hl2 i x hi).1
    · have e0 : m = 0 := by omega
      subst e0
      have e1 : n = 0 := by omega
      subst e1
      exact ⟨some d, 0, 0, [], hcs, ⟨rfl, Nat.le_refl _, Nat.zero_le _, (fun hd => nomatch hd), fun d _ hc => absurd hc (Nat.lt_irrefl 0)⟩, fun x hx => by simp at hx⟩
end Go.V
namespace Go.Proofs.Ytbdkhgenkekioaa
open Go.RowKit Go.V Go.Sort Go.Shelf Go.Proofs Go.Maps Go.ChangeShapes Go.WideShapes Go.ChangeAt

set_option maxRecDepth 100000 in
theorem mride_opened {H : Type} {enc : TypeId × Value → H} {w : World} {b0 : Nat} {spare : Nat → Bool} {held : Bool} (n : Nat) (cs : List Value) (y : DataW H × List MemPlace) (h : DataW.trod enc Try.prog w b0 spare held n 24 cs = some y) : ∃ x, cs = Ride.cod.enc x ∧ Ride.ok x := by
  obtain ⟨y0, y1, y2, y3, m, rfl, hl, h0, h1, h2, h3⟩ := Go.Joins.trod_struct4 Try.underlying24 h
  have hl' : cs.length = 4 := by rw [hl]; kernel_rfl
  have hc : Try.prog.cellsOf 3 = 1 := by kernel_rfl
  match cs, hl' with
  | [v0, v1, v2, v3], _ =>
    rw [hc] at h0 h1 h2 h3
    obtain ⟨n0, e0, -, w0⟩ := DataW.trod_int Try.underlying3 h0
    obtain ⟨n1, e1, -, w1⟩ := DataW.trod_int Try.underlying3 h1
    obtain ⟨n2, e2, -, w2⟩ := DataW.trod_int Try.underlying3 h2
    obtain ⟨n3, e3, -, w3⟩ := DataW.trod_int Try.underlying3 h3
    simp at e0 e1 e2 e3
    subst e0; subst e1; subst e2; subst e3
    exact ⟨⟨n0, n1, n2, n3⟩, rfl, w0, w1, w2, w3⟩
/-- A month's cells, and its rides. -/
def MHok (w : World) (x : MH) : Prop := ∃ l : List Ride, Sl Ride.cod w x.h.a x.h.n x.h.cap l ∧ (∀ r ∈ l, Ride.ok r)
theorem list6 {α : Type} {l : List α} (h : l.length = 6) : ∃ a b c d e f, l = [a, b, c, d, e, f] := by
  match l, h with
  | [a, b, c, d, e, f], _ => exact ⟨a, b, c, d, e, f, rfl⟩
set_option maxRecDepth 100000 in
theorem month_opened {H : Type} {enc : TypeId × Value → H} {w : World} {b0 : Nat} {spare : Nat → Bool} {held : Bool} (hsp : ∀ b, spare b = true) (n : Nat) (cs : List Value) (y : DataW H × List MemPlace) (h : DataW.trod enc Try.prog w b0 spare held n 27 cs = some y) : ∃ x, cs = MH.cod.enc x ∧ MHok w x := by
  obtain ⟨xs, m, -, -, hl, hxl, hx⟩ := DataW.trod_struct Try.underlying27 h
  have hl' : cs.length = 6 := by rw [hl]; kernel_rfl
  have hc1 : Try.prog.cellsOf 3 = 1 := by kernel_rfl
  have hcs : Try.prog.cellsOf 25 = 1 := by kernel_rfl
  have hcb : Try.prog.cellsOf 4 = 1 := by kernel_rfl
  obtain ⟨v0, v1, v2, v3, v4, v5, rfl⟩ := list6 hl'
  have hx6 : xs.length = 6 := by rw [hxl]; rfl
  obtain ⟨y0, y1, y2, y3, y4, y5, rfl⟩ := list6 hx6
  have g0 := hx 0 _ rfl
  have g1 := hx 1 _ rfl
  have g2 := hx 2 _ rfl
  have g3 := hx 3 _ rfl
  have g4 := hx 4 _ rfl
  have g5 := hx 5 _ rfl
  simp [hc1, hcs, hcb] at g0 g1 g2 g3 g4 g5
  obtain ⟨n0, e0, -, -⟩ := DataW.trod_int Try.underlying3 g0
  obtain ⟨n1, e1, -, -⟩ := DataW.trod_int Try.underlying3 g1
  obtain ⟨n2, e2, -, -⟩ := DataW.trod_int Try.underlying3 g2
  obtain ⟨n3, e3, -, -⟩ := DataW.trod_int Try.underlying3 g3
  obtain ⟨a, l, r, zs, e4, hsl, hok⟩ := trod_sl (c := Ride.cod) (ok := Ride.ok) hsp Try.underlying25 (by kernel_rfl) (by decide) (fun n cs y hy => mride_opened n cs y hy) g4
  obtain ⟨bz, e5, -⟩ := DataW.trod_bool Try.underlying4 g5
  simp at e0 e1 e2 e3 e4 e5
  subst e0; subst e1; subst e2; subst e3; subst e4; subst e5
  exact ⟨⟨n0, n1, n2, n3, ⟨a, l, r⟩, bz⟩, rfl, zs, hsl, hok⟩
theorem monIn_of {w : World} {a : Option Addr} {n cap : Nat} {X : List MH} (h : Sl MH.cod w a n cap X) (hx : ∀ x ∈ X, MHok w x) : ∃ hs ms, MonIn w a n cap hs ms ∧ ∀ m ∈ ms, ∀ r ∈ m.rides, Ride.ok r := by
  have key : ∀ X : List MH, (∀ x ∈ X, MHok w x) → ∃ ms : List Mon, ms.length = X.length ∧ ∀ (i : Nat) (x : MH) (m : Mon), X[i]? = some x → ms[i]? = some m → m.hd x.h = x ∧ Sl Ride.cod w x.h.a x.h.n x.h.cap m.rides ∧ ∀ r ∈ m.rides, Ride.ok r := by
    intro X
    induction X with
    | nil => intro _; exact ⟨[], rfl, fun i x m h => by simp at h⟩
    | cons x X ih =>
      intro hX
      obtain ⟨ms, h1, h2⟩ := ih (fun y hy => hX y (by simp [hy]))
      obtain ⟨l, h3, h4⟩ := hX x (by simp)
      refine ⟨⟨x.a, x.m, x.t, x.c, l, x.z⟩ :: ms, by simp [h1], fun i y m e1 e2 => ?_⟩
      cases i with
      | zero => simp at e1 e2; subst e1; subst e2; exact ⟨rfl, h3, h4⟩
      | succ i => exact h2 i y m (by simpa using e1) (by simpa using e2)
  obtain ⟨ms, h1, h2⟩ := key X hx
  have e : List.zipWith Mon.hd ms (X.map MH.h) = X := by
    apply List.ext_getElem?
    intro i
    rw [List.getElem?_zipWith, List.getElem?_map]
    cases e1 : X[i]? with
    | none =>
      cases ms[i]? <;> rfl
    | some x =>
      have hi := (List.getElem?_eq_some_iff.1 e1).1
      have e2 : ms[i]? = some ms[i] := List.getElem?_eq_getElem (by omega)
      rw [e2]
      exact congrArg some (h2 i x _ e1 e2).1
  refine ⟨X.map MH.h, ms, ⟨by rw [e]; exact h, by simp [h1], fun i g m e1 e2 => ?_⟩, fun m hm r hr => ?_⟩
  · rw [List.getElem?_map] at e1
    cases e3 : X[i]? with
    | none => rw [e3] at e1; cases e1
    | some x =>
      rw [e3] at e1
      cases e1
      exact (h2 i x m e3 e2).2.1
  · obtain ⟨i, hi⟩ := List.mem_iff_getElem?.1 hm
    have hl := (List.getElem?_eq_some_iff.1 hi).1
    have e3 : X[i]? = some X[i] := List.getElem?_eq_getElem (by omega)
    exact (h2 i _ m e3 hi).2.2 r hr
set_option maxRecDepth 100000 in
theorem open_months {H : Type} {enc : TypeId × Value → H} {w : World} {b0 base : Nat} {spare : Nat → Bool} {held : Bool} {v : Value} {d : DataW H} {ps : List MemPlace} (hsp : ∀ b, spare b = true) (hval : Value.okWide Try.prog w .any base 22 v) (h : DataW.Trod enc Try.prog w b0 spare held 22 v d ps) :
    ∃ a n cap hs ms, v = .slice a n cap ∧ MonIn w a n cap hs ms ∧ ∀ m ∈ ms, ∀ r ∈ m.rides, Ride.ok r := by
  obtain ⟨a, n, cap, X, rfl, hsl, hok⟩ := open_sl (c := MH.cod) (ok := MHok w) Try.underlying22 (by kernel_rfl) (fun n cs y hy => month_opened hsp n cs y hy) hval h
  obtain ⟨hs, ms, h1, h2⟩ := monIn_of hsl hok
  exact ⟨a, n, cap, hs, ms, rfl, h1, h2⟩
end Go.Proofs.Ytbdkhgenkekioaa

namespace Go.Proofs.Ytbdkhgenkekioaa.lawMonthBytes
open Go.ChangeShapes Go.WideShapes Go.ChangeAt Go.RowKit Go.V Go.Proofs.Ytbdkhgenkekioaa.Ne Go.Proofs.Ytbdkhgenkekioaa.Wi

theorem own : ownKnob Try.prog.godebug = none := by kernel_rfl
theorem laidOut : laidOutB Try.prog = true := by kernel_rfl

theorem byte_opened {H : Type} {enc : TypeId × Value → H} {w : World} {b0 : Nat} {spare : Nat → Bool} {held : Bool} (n : Nat) (cs : List Value) (y : DataW H × List MemPlace) (h : DataW.trod enc Try.prog w b0 spare held n 5 cs = some y) : ∃ x, cs = Wi.bcod.enc x ∧ (Lit.int .u8 x).wf = true := by
  obtain ⟨n0, e0, -, w0⟩ := DataW.trod_int Try.underlying5 h
  exact ⟨n0, e0, w0⟩
theorem byte_wf {x : Int} (h : (Lit.int .u8 x).wf = true) : 0 ≤ x ∧ x < 256 := by
  simp [Lit.wf, IntKind.min, IntKind.max, IntKind.signed, IntKind.bits] at h
  omega

set_option maxRecDepth 100000 in
theorem lifted (os : Os) (started : os.Started) (H : Type) (enc : TypeId × Value → H) :
    ReturnsInHanded {} Try.checked os 4 .any (Rows.monthBytesSpec.pre6 enc Try.prog Try.f4 Rows.monthBytesRow.domain false) (Rows.monthBytesSpec.post enc Try.prog Try.f4 false true false false) := by
  refine returnsInHanded_of_change (C := Try.checked) own started (by kernel_rfl) Try.func4
    (ChangeSpec.witness6 (enc := enc) (C := Try.checked) false ⟨#[], #[.slice none 0 0, .slice none 0 0], []⟩ 8 (by kernel_rfl) (by kernel_rfl) (by kernel_rfl) (by kernel_rfl)) ?_
  intro W base args ds gs before hval0 hW hcnd _
  have hval : ∀ (j : Nat) t v, Try.f4.params[j]? = some t → args[j]? = some v → Value.okWide Try.prog W .any base t v := hval0
  have hW' := hW
  obtain ⟨p, q, hA0, hV, rfl, hfz, hnd⟩ := hW
  have hA : DataW.TrodAll enc Try.prog W 0 (fun _ => true) true Try.f4.params.toList args.toList ds p := hA0
  rw [Try.params4] at hA hval
  obtain ⟨v0, vs0, d0, ds0, p0, q0, hargs, rfl, rfl, h0, r0⟩ := trodAll_cons hA
  obtain ⟨v1, vs1, d1, ds1, p1, q1, rfl, rfl, rfl, h1, r1⟩ := trodAll_cons r0
  obtain ⟨rfl, rfl, rfl⟩ := trodAll_nil r1
  obtain rfl : args = #[v0, v1] := by cases args; simp_all
  obtain ⟨rfl, rfl⟩ := trodVars_none hV
  have k0 := h0
  have lt0 : ∀ x ∈ p0, x.block < W.heap.size := by obtain ⟨m, hm⟩ := k0; exact DataW.trod_lt m _ _ _ hm
  have k1 := h1
  have lt1 : ∀ x ∈ p1, x.block < W.heap.size := by obtain ⟨m, hm⟩ := k1; exact DataW.trod_lt m _ _ _ hm
  obtain ⟨ma0, mn0, mc0, mh0, mm0, rfl, hmi0, hmo0⟩ := open_months (fun _ => rfl) (hval 0 22 v0 rfl rfl) h0
  obtain ⟨ya1, yn1, yc1, ys1, rfl, hys1, hyb1⟩ := open_sl (c := Wi.bcod) (ok := fun x => (Lit.int .u8 x).wf = true) Try.underlying47 (by kernel_rfl) (fun n cs y => byte_opened n cs y) (hval 1 47 v1 rfl rfl) h1
  clear hA0 hval0
  refine (mbytes_any ma0 mn0 mc0 mh0 mm0 ya1 yn1 yc1 ys1 W hmi0 hmo0 hys1 (fun x hx => byte_wf (hyb1 x hx))).mono fun e W' ⟨he, bel⟩ => ?_
  subst he
  exact ⟨_, rfl, _, _, _, [], _, [], hW', trodAll_mk1 (shut_bool Try.underlying4 _), (trodAll_cons_mk (Below.trod laidOut (by kernel_rfl) (of_decide_eq_true (by kernel_rfl)) k0 bel lt0) (trodAll_cons_mk (Below.trod laidOut (by kernel_rfl) (of_decide_eq_true (by kernel_rfl)) k1 bel lt1) trodAll_mk0)), rfl, bel.frame _, fun h => by cases h⟩

theorem over : Rows.monthBytesRow.holds Try.pinned (OpenSpec.ofChange Rows.monthBytesSpec) :=
  OpenClaim.holds_of_wide 4 Try.f4 rfl rfl rfl rfl rfl rfl rfl ⟨rfl, rfl, rfl, rfl, rfl⟩ rfl rfl rfl rfl rfl (by kernel_rfl) Try.func4 (by kernel_rfl)
    (of_decide_eq_true (by kernel_rfl)) (by unfold Func.isWrapper; first | (rw [if_pos (by decide +kernel)]; kernel_rfl) | (rw [if_neg (by decide +kernel)]; exact ⟨rfl, rfl⟩))
    (fun os started H enc _ => lifted os started H enc)

theorem proved : Rows.MonthBytesSaid := over
#print axioms proved
end Go.Proofs.Ytbdkhgenkekioaa.lawMonthBytes
