/- Shares: parties, sorted by the shelf's slices.SortFunc. -/
import Derived.Test.YtjejpaladjfegaaApC
import Derived.Test.YtjejpaladjfegaaApLay
namespace Go.Proofs.Ytjejpaladjfegaa.Ap
open Go.RowKit Go.V Go.Proofs Go.Sort Go.Shelf
open Go.Proofs.Ytjejpaladjfegaa.Ne (cmpI icod int_at box_new box_cell)

theorem cmpP_lt (x y : Pty) : ltOf cmpP x y = true ↔ ltP x y := by
  unfold ltOf cmpP cmpI ltP
  rw [decide_eq_true_iff]
  (repeat' split) <;> omega
theorem swoP : SWO (ltOf cmpP) where
  irrefl x := by
    cases h : ltOf cmpP x x with
    | false => rfl
    | true => have := (cmpP_lt x x).1 h; unfold ltP at this; omega
  trans x y z h1 h2 := by
    have a := (cmpP_lt x y).1 h1
    have b := (cmpP_lt y z).1 h2
    refine (cmpP_lt x z).2 ?_
    unfold ltP at *; omega
  ntrans x y z h1 h2 := by
    cases h : ltOf cmpP x z with
    | false => rfl
    | true =>
      have a := (cmpP_lt x z).1 h
      have b : ¬ ltP x y := fun q => by rw [(cmpP_lt x y).2 q] at h1; cases h1
      have c : ¬ ltP y z := fun q => by rw [(cmpP_lt y z).2 q] at h2; cases h2
      unfold ltP at *; omega

theorem psort_any (base g n cap : Nat) (xs : List Pty) (w : World) (h : V.Own 202 pcod base w (.slice (some ⟨g, 0, none⟩) n cap) xs) (hn : n = xs.length) (hm : n ≤ 1000000) :
    Calls Try.prog 127 #[.slice (some ⟨g, 0, none⟩) n cap, .func (.func 124) #[] #[]] w fun e w' => e = .returned (.tuple #[]) ∧
      ∃ S : List Pty, S.Perm xs ∧ (∀ (i j : Nat) (p q : Pty), S[i]? = some p → S[j]? = some q → i < j → ¬ ltP q p) ∧ V.Own 202 pcod base w' (.slice (some ⟨g, 0, none⟩) n cap) S ∧ Below g w w' := by
  subst hn
  obtain ⟨a', cap', he, hsl, hd⟩ := h.slice
  cases he
  obtain ⟨g', cur, hg1, hg2, hg3⟩ := hd _ rfl
  cases hg1
  have hgs := (Array.getElem?_eq_some_iff.1 hg3).1
  have hfz : ∀ j, w.frozen? ⟨g, j, none⟩ = false := fun j => by simp [World.frozen?, hg3]
  have hH : HoldsK pcod.enc pcod.k w g 0 xs.toArray := holdsK_of_cells pcod (hsl.hat _ rfl).2.2 hfz
  have hc := AnyQ.slices_SortFunc sortL 3 (fun _ => by kernel_rfl) (fun _ => by kernel_rfl) pcod.enc pcod.len pcod.one cmpP swoP 124 #[] g 0 cap xs.toArray w (enters_of Try.func124 (by kernel_rfl) rfl) (fun m os dk _ x y => first_any x y _) hH hgs (by simp; omega)
  refine hc.mono ?_
  rintro e w' ⟨rfl, d', m, os, hp, hs, rfl⟩
  have hsz : d'.size = xs.length := by rw [hp.1]; simp
  have hS : SWK pcod.enc pcod.k w g 0 d' (sortWorldK pcod.enc pcod.k w g 0 m d' os) := ⟨m, os, rfl⟩
  have hperm : d'.toList.Perm xs := by
    have := hp.2.2
    simp only [List.size_toArray] at this
    rw [show d'.extract 0 xs.length = d' by rw [← hsz]; exact Array.extract_size] at this
    simpa using this
  have hlen : d'.toList.length = xs.length := hperm.length_eq
  refine ⟨rfl, d'.toList, hperm, fun i j p q hi hj hij hlt => ?_, ?_, swk_below hS (Nat.le_refl _) (by omega)⟩
  · have h1 := (List.getElem?_eq_some_iff.1 hi).1
    have h2 := (List.getElem?_eq_some_iff.1 hj).1
    have hs' := hs i j (Nat.zero_le _) hij (by simp; omega)
    have e1 : d'[i]! = p := by
      rw [getElem!_pos d' i (by simpa using h1)]
      have := (List.getElem?_eq_some_iff.1 hi).2
      simpa using this
    have e2 : d'[j]! = q := by
      rw [getElem!_pos d' j (by simpa using h2)]
      have := (List.getElem?_eq_some_iff.1 hj).2
      simpa using this
    rw [e1, e2, (cmpP_lt q p).2 hlt] at hs'
    cases hs'
  · have := swk_own pcod (e := 202) h hS hsz
    unfold V.Own
    rw [hlen]
    exact this
end Go.Proofs.Ytjejpaladjfegaa.Ap
