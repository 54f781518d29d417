/- Networks: who stands for a stop, walked. -/
import Derived.Test.YtnjgonplojpcnaaNuP
import Derived.Test.YtnjgonplojpcnaaNsG
namespace Go.Proofs.Ytnjgonplojpcnaa.Ne
open Go.RowKit Go.V Go.Proofs Go.Sort

/-- What was changed: the row alone. -/
theorem grown_drew {w w' : World} {r : Option Nat} (h : w.grownBy w' r) : w.grownBy w'.drew r := ⟨h.os, h.tape, h.output, h.size, h.block⟩
theorem grown_trans {w w' w'' : World} {r : Option Nat} (h : w.grownBy w' r) (h' : w'.grownBy w'' r) : w.grownBy w'' r :=
  ⟨h'.os.trans h.os, h'.tape.trans h.tape, h'.output.trans h.output, Nat.le_trans h.size h'.size, fun k hk hr => (h'.block k (Nat.lt_of_lt_of_le hk h.size) hr).trans (h.block k hk hr)⟩

set_option maxHeartbeats 8000000 in
set_option maxRecDepth 100000 in
theorem root_any (base g o k kc i : Nat) (L : List Lnk) (p R : Nat → Nat) (w : World) (hi : i < k) (hg : w.heap[g]? = some (.cells #[.slice (some ⟨o, 0, none⟩) k kc] 58 (0, 0))) (hgo : g ≠ o)
    (ho : V.Own 3 icod base w (.slice (some ⟨o, 0, none⟩) k kc) (lst p k)) (hu : UF L k p R) :
    Calls Try.prog 59 #[.int .i64 i, .pointer (some ⟨g, 0, none⟩)] w fun e w' => e = .returned (.int .i64 (R i)) ∧ ∃ p', V.Own 3 icod base w' (.slice (some ⟨o, 0, none⟩) k kc) (lst p' k) ∧ UF L k p' R ∧ p' (R i) = R i ∧ (∀ j, Flat p R j → Flat p' R j) ∧ w.grownBy w' (some o) := by
  have mixed : Try.prog.follows .mixedOrders = true := by kernel_rfl
  have HO := Lib.hid ho
  have HU := Lib.hid hu
  have HG := Lib.hid hg
  clear ho hu hg
  go_enter Try.func59, Try.ntmps59
  go_wp2_with fail
  go_loopw [0] (fun v wr => ∃ (x : Nat) (p' : Nat → Nat), v = .int .i64 x ∧ x < k ∧ Hid (R x = R i) ∧ Hid (V.Own 3 icod base wr (.slice (some ⟨o, 0, none⟩) k kc) (lst p' k)) ∧ Hid (UF L k p' R) ∧ Hid (∀ j, Flat p R j → Flat p' R j) ∧ Hid (w.grownBy wr (some o))) (fun v _ => (intOf v).toNat)
  case atStart => exact ⟨i, p, by go_num, hi, rfl, HO.out, HU.out, fun _ h => h, ⟨rfl, rfl, rfl, Nat.le_refl _, fun _ _ _ => rfl⟩⟩
  case round =>
    clear HO HU
    obtain ⟨x, q, rfl, hx, HR, HO, HU, HF, HW⟩ := hrel
    have HGr : Hid (wr.heap[g]? = some (.cells #[.slice (some ⟨o, 0, none⟩) k kc] 58 (0, 0))) := (HW.out.block g (box_lt HG.out) (fun e => hgo (Option.some.inj e))).trans HG.out
    obtain ⟨g0, -⟩ := box_cell HGr.out 0
    have g0 : wr.cell? ⟨g, 0, none⟩ = some (.slice (some ⟨o, 0, none⟩) k kc) := g0
    have HKC : Hid (k = (lst q k).length) := (lst_len q k).symm
    obtain ⟨dx, hdx, p0, pf, p2⟩ := icells HO.out HKC.out hx
    have hdx' := Option.some.inj ((lst_at q hx).symm.trans hdx)
    subst hdx'
    clear hdx
    have hxk : (x : Int) < (k : Int) := by omega
    have hqx : q x ≤ x := HU.out.le x
    by_cases hfx : q x = x
    · have HE := Lib.hid (HU.out.fix x hfx)
      have HP : Hid (q x = x) := hfx
      rw [hfx] at p0
      have hb : ((x : Int) != (x : Int)) = false := by simp
      clear hfx hqx
      go_wp2_with fail
      go_ret
      refine ⟨by rw [← HR.out, HE.out]; rfl, q, HO.out, HU.out, by rw [← HR.out, HE.out]; exact HP.out, HF.out, HW.out⟩
    · have hyk : q x < k := by omega
      obtain ⟨dy, hdy, y0, -, -⟩ := icells HO.out HKC.out hyk
      have hdy' := Option.some.inj ((lst_at q hyk).symm.trans hdy)
      subst hdy'
      have HUN := Lib.hid (HU.out.halve hfx)
      have HFN : Hid (∀ j, Flat p R j → Flat (upd q x (q (q x))) R j) := fun j h => (HF.out j h).halve HU.out
      have hRy : R (q (q x)) = R i := by rw [HU.out.rp, HU.out.rp, HR.out]
      have HRN := Lib.hid hRy
      have hyy : q (q x) ≤ q x := HU.out.le _
      obtain ⟨o1, g1⟩ := iset HO.out HKC.out x ((q (q x) : Nat) : Int)
      rw [lst_set] at o1
      have HO1 := Lib.hid o1
      have HW1 := Lib.hid (grown_trans HW.out g1)
      have HG1 : Hid ((wr.setCell ⟨o, x, none⟩ (.int .i64 ((q (q x) : Nat) : Int))).heap[g]? = some (.cells #[.slice (some ⟨o, 0, none⟩) k kc] 58 (0, 0))) := (g1.block g (box_lt HGr.out) (fun e => hgo (Option.some.inj e))).trans HGr.out
      obtain ⟨z, hz⟩ : ∃ z, q (q x) = z := ⟨_, rfl⟩
      obtain ⟨y, hy⟩ : ∃ y, q x = y := ⟨_, rfl⟩
      have HY := Lib.hid hy
      rw [hz] at HUN HFN HRN HO1 HW1 HG1 y0
      rw [hz, hy] at hyy
      rw [hy] at p0 hfx hqx y0 hyk
      have hneq : ((y : Int) != (x : Int)) = true := by simp; omega
      have hyki : (y : Int) < (k : Int) := by omega
      have hzx : z < x := by omega
      clear hdy o1 g1 hRy hz hy hfx
      go_wp2_with fail
      go_region
      obtain ⟨X, hX⟩ : ∃ X, (wr.setCell ⟨o, x, none⟩ (.int .i64 ((z : Nat) : Int))).drew = X := ⟨_, rfl⟩
      have HO2 : Hid (V.Own 3 icod base X (.slice (some ⟨o, 0, none⟩) k kc) (lst (upd q x z) k)) := by show V.Own _ _ _ _ _ _; rw [← hX]; exact HO1.out.below (Below.drew (Below.refl _ _))
      have HW2 : Hid (w.grownBy X (some o)) := by show World.grownBy _ _ _; rw [← hX]; exact grown_drew HW1.out
      have HG2 : Hid (X.heap[g]? = some (.cells #[.slice (some ⟨o, 0, none⟩) k kc] 58 (0, 0))) := by show _ = _; rw [← hX]; exact HG1.out
      have HKC2 : Hid (k = (lst (upd q x z) k).length) := (lst_len _ k).symm
      rw [hX]
      clear hX HO1 HW1 HG1 p0 pf p2 y0 g0
      have g0 : X.cell? ⟨g, 0, none⟩ = some (.slice (some ⟨o, 0, none⟩) k kc) := (box_cell HG2.out 0).1
      obtain ⟨dx, hdx, p0, pf, p2⟩ := icells HO2.out HKC2.out hx
      have hdx' := Option.some.inj ((lst_at _ hx).symm.trans hdx)
      rw [upd_same] at hdx'
      subst hdx'
      clear hdx
      go_wp2_with fail
      go_roundw
      case rel => exact ⟨z, _, by go_num, by omega, HRN.out, HO2.out, HUN.out, HFN.out, HW2.out⟩
      case measure => simp [intOf]; omega
end Go.Proofs.Ytnjgonplojpcnaa.Ne
