/- Networks: the weight of two stops' link, and a stop's links by it; plain. -/
import Derived.Test.YteihffnmgacfpaaNsP
namespace Go.Proofs.Yteihffnmgacfpaa.Ne
open Go.RowKit Go.V Go.Proofs Go.Sort

def twoB (a b : Int) (l : Lnk) : Bool := decide (l.a = a ∧ l.b = b ∨ l.a = b ∧ l.b = a)
/-- Of the link of two stops; 0: none. -/
def wtE (L : List Lnk) (a b : Int) : Int := match L.find? (twoB a b) with | some l => l.w | none => 0
theorem pair_of {α : Type} {R : α → α → Prop} {L : List α} (h : L.Pairwise R) {x y : α} (hx : x ∈ L) (hy : y ∈ L) : x = y ∨ R x y ∨ R y x := by
  induction h with
  | nil => simp at hx
  | cons h1 _ ih =>
    rcases List.mem_cons.1 hx with e | hx'
    · rcases List.mem_cons.1 hy with e' | hy'
      · exact .inl (e.trans e'.symm)
      · rw [e]; exact .inr (.inl (h1 _ hy'))
    · rcases List.mem_cons.1 hy with e' | hy'
      · rw [e']; exact .inr (.inr (h1 _ hx'))
      · exact ih hx' hy'
section
variable {L : List Lnk} {k : Nat}
theorem edge_uniq (hL : LinksOk L k) (hp : L.Pairwise fun a b => aftB a b = true) {a b w w' : Int} (h : V.Edge L a b w) (h' : V.Edge L a b w') : w = w' := by
  obtain ⟨l, h1, h2, h3⟩ := h
  obtain ⟨l', g1, g2, g3⟩ := h'
  have hl := hL l h1
  have hl' := hL l' g1
  rcases pair_of hp h1 g1 with e | e | e
  · rw [← h3, ← g3, e]
  · simp only [aftB, decide_eq_true_eq] at e; omega
  · simp only [aftB, decide_eq_true_eq] at e; omega
theorem wt_edge {a b : Int} (h : wtE L a b ≠ 0) : V.Edge L a b (wtE L a b) := by
  unfold wtE at h ⊢
  cases e : L.find? (twoB a b) with
  | none => rw [e] at h; exact absurd rfl h
  | some l =>
    have h1 := List.mem_of_find?_eq_some e
    have h2 : twoB a b l = true := List.find?_some e
    have h2 := of_decide_eq_true h2
    exact ⟨l, h1, h2, rfl⟩
theorem edge_wt (hL : LinksOk L k) (hp : L.Pairwise fun a b => aftB a b = true) {a b w : Int} (h : V.Edge L a b w) : wtE L a b = w ∧ wtE L a b ≠ 0 := by
  have hw := (hL.edge h).2.2.2.2.2.1
  have hne : wtE L a b ≠ 0 := by
    unfold wtE
    cases e : L.find? (twoB a b) with
    | none =>
      obtain ⟨l, h1, h2, -⟩ := h
      have := List.find?_eq_none.1 e l h1
      exact absurd (decide_eq_true h2) this
    | some l =>
      have h1 := List.mem_of_find?_eq_some e
      have := hL l h1
      show l.w ≠ 0
      omega
  exact ⟨edge_uniq hL hp (wt_edge hne) h, hne⟩
theorem wt_lim (hL : LinksOk L k) (a b : Int) : 0 ≤ wtE L a b ∧ wtE L a b ≤ 1048575 := by
  by_cases h : wtE L a b = 0
  · omega
  · have := hL.edge (wt_edge h); omega
/-- A stop's links by the weights. -/
def nearW (L : List Lnk) (s : Int) (k : Nat) : List Lnk := (List.range k).filterMap fun i : Nat => if wtE L s i = 0 then none else some ⟨s, i, wtE L s i⟩
theorem srt_eq : ∀ {A B : List Lnk}, A.Pairwise (fun x y => x.b < y.b) → B.Pairwise (fun x y => x.b < y.b) → (∀ x, x ∈ A ↔ x ∈ B) → A = B
  | [], [], _, _, _ => rfl
  | [], y :: B, _, _, h => by have := (h y).2 List.mem_cons_self; simp at this
  | x :: A, [], _, _, h => by have := (h x).1 List.mem_cons_self; simp at this
  | x :: A, y :: B, hA, hB, h => by
    obtain ⟨a1, a2⟩ := List.pairwise_cons.1 hA
    obtain ⟨b1, b2⟩ := List.pairwise_cons.1 hB
    have e : x = y := by
      rcases List.mem_cons.1 ((h x).1 List.mem_cons_self) with e | hx
      · exact e
      · rcases List.mem_cons.1 ((h y).2 List.mem_cons_self) with e | hy
        · exact e.symm
        · have := a1 y hy; have := b1 x hx; omega
    subst e
    congr 1
    refine srt_eq a2 b2 fun z => ⟨fun hz => ?_, fun hz => ?_⟩
    · rcases List.mem_cons.1 ((h z).1 (List.mem_cons_of_mem _ hz)) with e | hz'
      · subst e; have := a1 z hz; omega
      · exact hz'
    · rcases List.mem_cons.1 ((h z).2 (List.mem_cons_of_mem _ hz)) with e | hz'
      · subst e; have := b1 z hz; omega
      · exact hz'
theorem fromL_ne (hL : LinksOk L k) (hp : L.Pairwise fun a b => aftB a b = true) (s : Int) : (fromL L s).Pairwise (fun x y => x.b ≠ y.b) := by
  unfold fromL
  rw [List.pairwise_filter, List.pairwise_map]
  refine List.Pairwise.imp_of_mem (R := fun a b => aftB a b = true) (fun {x y} hx hy hr hx1 hy1 => ?_) hp
  have h1 := hL x hx
  have h2 := hL y hy
  have hx1 := of_decide_eq_true hx1
  have hy1 := of_decide_eq_true hy1
  simp only [aftB, decide_eq_true_eq] at hr
  unfold turnL at hx1 hy1 ⊢
  split at hx1 <;> split at hy1 <;> simp_all <;> omega
theorem nearL_srt (hL : LinksOk L k) (hp : L.Pairwise fun a b => aftB a b = true) (s : Int) : (nearL L s).Pairwise (fun x y => x.b < y.b) := by
  have h1 : (nearL L s).Pairwise (fun x y => ltB y x = false) := isort_srt ordB (fromL L s)
  have h2 : (nearL L s).Pairwise (fun x y => x.b ≠ y.b) := ((isort_perm (fromL L s)).pairwise_iff (fun {_ _} h e => h e.symm)).2 (fromL_ne hL hp s)
  refine (h1.and h2).imp fun {x y} h => ?_
  obtain ⟨g1, g2⟩ := h
  have : ¬ y.b < x.b := fun e => by rw [(ltB_iff _ _).2 e] at g1; cases g1
  omega
theorem nearW_srt (s : Int) : (nearW L s k).Pairwise (fun x y => x.b < y.b) := by
  unfold nearW
  rw [List.pairwise_filterMap]
  refine (List.pairwise_lt_range (n := k)).imp fun {i j} h x hx y hy => ?_
  split at hx
  · cases hx
  · cases hx
    split at hy
    · cases hy
    · cases hy
      show (i : Int) < j
      omega
theorem near_eq (hL : LinksOk L k) (hp : L.Pairwise fun a b => aftB a b = true) (s : Int) : nearL L s = nearW L s k := by
  refine srt_eq (nearL_srt hL hp s) (nearW_srt s) fun x => ⟨fun h => ?_, fun h => ?_⟩
  · obtain ⟨h1, h2⟩ := mem_nearL h
    have he := hL.edge h2
    obtain ⟨e1, e2⟩ := edge_wt hL hp h2
    unfold nearW
    rw [List.mem_filterMap]
    refine ⟨x.b.toNat, by simp; omega, ?_⟩
    rw [Int.toNat_of_nonneg (by omega), if_neg e2, e1]
    cases x
    simp only at h1
    subst h1
    rfl
  · unfold nearW at h
    rw [List.mem_filterMap] at h
    obtain ⟨i, hi, hx⟩ := h
    split at hx
    · cases hx
    · next hne =>
      cases hx
      have he := wt_edge hne
      exact nearL_mem he (hL.edge he).2.2.2.2.1
end

/-! ### The stop ahead, by the weights -/
/-- May one step back go to a stop? -/
def hopB (L : List Lnk) (f : Int → Int) (v : Int) (i : Nat) : Bool := decide (0 < wtE L v i ∧ 0 ≤ f i ∧ f i + wtE L v i = f v)
theorem prev_eq {L : List Lnk} {k : Nat} (hL : LinksOk L k) (hp : L.Pairwise fun a b => aftB a b = true) (f : Int → Int) (v : Int) :
    prevE L f v = match (List.range k).find? (hopB L f v) with | some i => (i : Int) | none => v := by
  unfold prevE
  rw [near_eq hL hp v]
  unfold nearW
  rw [List.find?_filterMap]
  have e : (fun i : Nat => ((if wtE L v i = 0 then none else some ⟨v, i, wtE L v i⟩ : Option Lnk)).any (backB f v)) = hopB L f v := by
    funext i
    have := wt_lim hL v i
    unfold hopB
    split
    · next h => rw [h]; simp
    · next h =>
      show backB f v _ = _
      unfold backB
      show decide (0 ≤ f i ∧ f i + wtE L v i = f v) = _
      rw [decide_eq_decide]
      constructor
      · intro q; exact ⟨by omega, q.1, q.2⟩
      · intro q; exact ⟨q.2.1, q.2.2⟩
  rw [e]
  cases hf : (List.range k).find? (hopB L f v) with
  | none => rfl
  | some i =>
    have h : hopB L f v i = true := List.find?_some hf
    have h := of_decide_eq_true h
    show (match (if wtE L v i = 0 then none else some (⟨v, i, wtE L v i⟩ : Lnk)) with | some l => l.b | none => v) = _
    rw [if_neg (by omega)]
end Go.Proofs.Yteihffnmgacfpaa.Ne
