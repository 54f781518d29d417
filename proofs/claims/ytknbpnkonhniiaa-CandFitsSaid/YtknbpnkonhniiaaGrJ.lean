/- Grids: which one comes first; sorted: walked. -/
import Derived.Test.YtknbpnkonhniiaaGrI
import Derived.Test.YtknbpnkonhniiaaSwk
import Derived.Test.YtknbpnkonhniiaaGrLay
import Derived.Shelf.SlSortCmp.NoneTotal
namespace Go.Proofs.Ytknbpnkonhniiaa.Ne
open Go.RowKit Go.V Go.Proofs Go.Sort Go.Shelf

def cmpF (x y : Fnd) : Int := if cmpI x.sq y.sq = 0 then cmpI x.stop y.stop else cmpI x.sq y.sq
def ltF (x y : Fnd) : Prop := x.sq < y.sq ∨ (x.sq = y.sq ∧ x.stop < y.stop)
set_option maxHeartbeats 1000000 in
set_option maxRecDepth 100000 in
theorem order_any (x y : Fnd) (w : World) :
    Calls Try.prog 40 #[x.val, y.val] w fun e w' => e = .returned (.int .i64 (cmpF x y)) ∧ ∃ q os, w' = grow (w.drewN q) os := by
  obtain ⟨c1, hc1⟩ : ∃ c, cmpI x.sq y.sq = c := ⟨_, rfl⟩
  obtain ⟨c2, hc2⟩ : ∃ c, cmpI x.stop y.stop = c := ⟨_, rfl⟩
  obtain ⟨r, hr⟩ : ∃ r, (if c1 = 0 then c2 else c1) = r := ⟨_, rfl⟩
  have HA : Hid (r = cmpF x y) := by
    show _ = _
    rw [← hr, ← hc1, ← hc2]; rfl
  have HC : Hid (cmpI x.sq y.sq = c1 ∧ cmpI x.stop y.stop = c2 ∧ (if c1 = 0 then c2 else c1) = r) := ⟨hc1, hc2, hr⟩
  clear hc1 hc2 hr
  have mixed : Try.prog.follows .mixedOrders = true := by kernel_rfl
  go_enter Try.func40, Try.ntmps40
  go_wp2_with fail
  have HX0 := Lib.hid (box_alloc (o := .cells #[.int .i64 y.stop, .int .i64 y.sq] 84) (box_new w (.cells #[.int .i64 x.stop, .int .i64 x.sq] 84)))
  have HY0 := Lib.hid (box_new (w.alloc (.cells #[.int .i64 x.stop, .int .i64 x.sq] 84)) (.cells #[.int .i64 y.stop, .int .i64 y.sq] 84))
  have hz : w.heap.size + 1 < ((w.alloc (.cells #[.int .i64 x.stop, .int .i64 x.sq] 84)).alloc (.cells #[.int .i64 y.stop, .int .i64 y.sq] 84)).heap.size := by simp
  obtain ⟨W, hW⟩ : ∃ W, (w.alloc (.cells #[.int .i64 x.stop, .int .i64 x.sq] 84)).alloc (.cells #[.int .i64 y.stop, .int .i64 y.sq] 84) = W := ⟨_, rfl⟩
  rw [World.size_alloc] at HY0
  rw [hW] at HX0 HY0 hz ⊢
  have HW : Hid (∀ o, (W.drew).alloc o = grow (w.drewN 1) #[.cells #[.int .i64 x.stop, .int .i64 x.sq] 84, .cells #[.int .i64 y.stop, .int .i64 y.sq] 84, o]) := by
    intro o
    rw [← hW, alloc_eq_grow, alloc_eq_grow, alloc_eq_grow, grow_grow]
    show grow (grow (w.drewN 1) _) _ = _
    rw [grow_grow]; rfl
  clear hW
  obtain ⟨u0, u1, -, -⟩ := box2_cells HX0.out
  obtain ⟨v0, v1, -, -⟩ := box2_cells HY0.out
  have hd : ∀ a, W.drew.cell? a = W.cell? a := fun a => rfl
  go_still_tail 10, (by kernel_rfl)
  still_call ((cmpI_any _ _ _).mono fun _ _ hh => ⟨hh.1, hh.2.symm⟩)
  repeat still_step
  still_call ((cmpI_any _ _ _).mono fun _ _ hh => ⟨hh.1, hh.2.symm⟩)
  repeat still_step
  refine wpStill_nil ?_
  change wpList _ _ _ _ _ W.drew
  rw [HC.out.1, HC.out.2.1]
  clear hd u0 u1 v0 v1
  generalize W.drew = w2 at HW ⊢
  go_wp2_with (go_at_call 44; refine (or_any c1 c2 _ _ (by simp [go_sem]) (by simp [go_sem])).mono ?_; rintro e w1 ⟨rfl, rfl⟩; rw [HC.out.2.2])
  go_ret
  exact ⟨ret_int HA.out, 1, _, HW.out _⟩

theorem cmpF_lt (x y : Fnd) : ltOf cmpF x y = true ↔ ltF x y := by
  unfold ltOf cmpF cmpI ltF
  rw [decide_eq_true_iff]
  (repeat' split) <;> omega
theorem swoF : SWO (ltOf cmpF) where
  irrefl x := by
    cases h : ltOf cmpF x x with
    | false => rfl
    | true => have := (cmpF_lt x x).1 h; unfold ltF at this; omega
  trans x y z h1 h2 := by
    have a := (cmpF_lt x y).1 h1
    have b := (cmpF_lt y z).1 h2
    refine (cmpF_lt x z).2 ?_
    unfold ltF at *; omega
  ntrans x y z h1 h2 := by
    cases h : ltOf cmpF x z with
    | false => rfl
    | true =>
      have a := (cmpF_lt x z).1 h
      have b : ¬ ltF x y := fun q => by rw [(cmpF_lt x y).2 q] at h1; cases h1
      have c : ¬ ltF y z := fun q => by rw [(cmpF_lt y z).2 q] at h2; cases h2
      unfold ltF at *; omega

theorem fsort_some (base g n cap : Nat) (xs : List Fnd) (w : World) (h : V.Own 84 Fnd.cod base w (.slice (some ⟨g, 0, none⟩) n cap) xs) (hn : n = xs.length) (hm : n ≤ 1000000) :
    Calls Try.prog 39 #[.slice (some ⟨g, 0, none⟩) n cap, .func (.func 40) #[] #[]] w fun e w' => e = .returned (.tuple #[]) ∧
      ∃ S : List Fnd, S.Perm xs ∧ (∀ (i j : Nat) (p q : Fnd), S[i]? = some p → S[j]? = some q → i < j → ¬ ltF q p) ∧ V.Own 84 Fnd.cod base w' (.slice (some ⟨g, 0, none⟩) n cap) S ∧ Below g w w' := by
  subst hn
  obtain ⟨a', cap', he, hsl, hd⟩ := h.slice
  cases he
  obtain ⟨g', cur, hg1, hg2, hg3⟩ := hd _ rfl
  cases hg1
  have hgs := (Array.getElem?_eq_some_iff.1 hg3).1
  have hfz : ∀ j, w.frozen? ⟨g, j, none⟩ = false := fun j => by simp [World.frozen?, hg3]
  have hH : HoldsK Fnd.cod.enc Fnd.cod.k w g 0 xs.toArray := holdsK_of_cells Fnd.cod (fun j u hu => by have := hsl.src j u hu; rwa [Go.V.add_addr] at this) hfz
  have hc := AnyQ.slices_SortFunc Gr.sortL 2 (fun _ => by kernel_rfl) (fun _ => by kernel_rfl) Fnd.cod.enc Fnd.cod.len Fnd.cod.one cmpF swoF 40 #[] g 0 cap xs.toArray w (enters_of Try.func40 (by kernel_rfl) rfl) (fun m os dk _ x y => order_any x y _) hH hgs (by simp; omega)
  refine hc.mono ?_
  rintro e w' ⟨rfl, d', m, os, hp, hs, rfl⟩
  have hsz : d'.size = xs.length := by rw [hp.1]; simp
  have hS : SWK Fnd.cod.enc Fnd.cod.k w g 0 d' (sortWorldK Fnd.cod.enc Fnd.cod.k w g 0 m d' os) := ⟨m, os, rfl⟩
  have hperm : d'.toList.Perm xs := by
    have := hp.2.2
    simp only [List.size_toArray] at this
    rw [show d'.extract 0 xs.length = d' by rw [← hsz]; exact Array.extract_size] at this
    simpa using this
  have hlen : d'.toList.length = xs.length := hperm.length_eq
  refine ⟨rfl, d'.toList, hperm, fun i j p q hi hj hij hlt => ?_, ?_, swk_below hS (Nat.le_refl _) (by omega)⟩
  · have h1 := (List.getElem?_eq_some_iff.1 hi).1
    have h2 := (List.getElem?_eq_some_iff.1 hj).1
    have hs' := hs i j (Nat.zero_le _) hij (by simp; omega)
    have e1 : d'[i]! = p := by
      rw [getElem!_pos d' i (by simpa using h1)]
      have := (List.getElem?_eq_some_iff.1 hi).2
      simpa using this
    have e2 : d'[j]! = q := by
      rw [getElem!_pos d' j (by simpa using h2)]
      have := (List.getElem?_eq_some_iff.1 hj).2
      simpa using this
    rw [e1, e2, (cmpF_lt q p).2 hlt] at hs'
    cases hs'
  · have := swk_own Fnd.cod (e := 84) h hS hsz
    unfold V.Own
    rw [hlen]
    exact this
theorem fsort_any (base : Nat) (a : Option Addr) (n cap : Nat) (xs : List Fnd) (w : World) (h : V.Own 84 Fnd.cod base w (.slice a n cap) xs) (hn : n = xs.length) (hm : n ≤ 1000000) (hb : base ≤ w.heap.size) :
    Calls Try.prog 39 #[.slice a n cap, .func (.func 40) #[] #[]] w fun e w' => e = .returned (.tuple #[]) ∧
      ∃ S : List Fnd, S.Perm xs ∧ (∀ (i j : Nat) (p q : Fnd), S[i]? = some p → S[j]? = some q → i < j → ¬ ltF q p) ∧ V.Own 84 Fnd.cod base w' (.slice a n cap) S ∧ Below base w w' := by
  cases a with
  | none =>
    obtain ⟨a', c', e, hs, -⟩ := h.slice
    cases e
    obtain ⟨h0, rfl⟩ := hs.hnil rfl
    have hx : xs = [] := List.eq_nil_of_length_eq_zero h0
    subst hx
    refine (AnyF.slices_SortFunc_none Gr.sortL none 0 _ w).mono ?_
    rintro e w' ⟨rfl, rfl⟩
    exact ⟨rfl, [], List.Perm.refl _, fun i j p q hi => by simp at hi, h, Below.refl _ _⟩
  | some d =>
    obtain ⟨a', c', e, hs, hd⟩ := h.slice
    cases e
    obtain ⟨g, cur, rfl, hg, -⟩ := hd d rfl
    exact (fsort_some base g _ cap xs w h rfl hm).mono fun e w' ⟨h1, S, h2, h3, h4, h5⟩ => ⟨h1, S, h2, h3, h4, h5.mono hg⟩
end Go.Proofs.Ytknbpnkonhniiaa.Ne
