/- Fares: whichever order, and bounds: the plain laws of a month's bill; what is to be paid at most. -/
import Derived.Test.YtgdhlhjflbinmaaFaQ
namespace Go.Proofs.Ytgdhlhjflbinmaa
open Go.RowKit Go.V Go.Sort Go.Shelf Go.Proofs

/-! ### What is to be paid: bounds -/
def spanOk : Pair → List Pair → Prop
  | fr, [] => fr.a ≤ 281474976710656 ∧ 0 ≤ fr.b ∧ fr.b ≤ 1000
  | fr, r :: l => fr.a ≤ r.a ∧ (0 ≤ fr.b ∧ fr.b ≤ 1000) ∧ spanOk r l
theorem rungGo_span : ∀ (l : List Pair) (fr : Pair), rungGo fr l = true → fr.a ≤ 281474976710656 → 0 ≤ fr.b → fr.b ≤ 1000 → spanOk fr l
  | [], fr, _, h1, h2, h3 => ⟨h1, h2, h3⟩
  | r :: l, fr, h, h1, h2, h3 => by
    unfold rungGo at h
    rw [Bool.and_eq_true] at h
    have g := of_decide_eq_true h.1
    exact ⟨by omega, ⟨h2, h3⟩, rungGo_span l r h.2 g.2.1 g.2.2.2 (by omega)⟩
theorem rungs_span {l : List Pair} (h : rungsOk l = true) : spanOk ⟨0, 1000⟩ l := by
  unfold rungsOk at h
  simp only [Bool.and_eq_true] at h
  obtain ⟨⟨-, h2⟩, -⟩ := h
  cases l with
  | nil => exact ⟨by decide, by decide, by decide⟩
  | cons r l' =>
    unfold rungGo at h2
    rw [Bool.and_eq_true] at h2
    have g := of_decide_eq_true h2.1
    simp only at g
    exact ⟨by simp only; omega, by simp, rungGo_span l' r h2.2 g.2.1 g.2.2.2 (by omega)⟩
theorem span_part {x s : Int} (hx : 0 ≤ x) (hs : 0 ≤ s ∧ s ≤ 1000) : 0 ≤ x * s / 1000 ∧ x * s / 1000 ≤ x := by
  have h1 : 0 ≤ x * s := Int.mul_nonneg hx hs.1
  have h2 : x * s ≤ x * 1000 := Int.mul_le_mul_of_nonneg_left hs.2 hx
  omega
theorem span_mono {x y s : Int} (h : x ≤ y) (hs : 0 ≤ s) : x * s / 1000 ≤ y * s / 1000 := by
  have := Int.mul_le_mul_of_nonneg_right h hs
  omega
theorem payGo_ge (sum : Int) : ∀ (l : List Pair) (fr : Pair) (all : Int), spanOk fr l → all ≤ payGo sum fr l all
  | [], fr, all, h => by
    unfold payGo
    obtain ⟨h1, h2⟩ := h
    split
    · exact Int.le_refl _
    · have := (span_part (x := min sum 281474976710656 - fr.a) (by omega) h2).1
      omega
  | r :: l, fr, all, h => by
    unfold payGo
    obtain ⟨h1, h2, h3⟩ := h
    split
    · exact Int.le_refl _
    · have := (span_part (x := min sum r.a - fr.a) (by omega) h2).1
      have := payGo_ge sum l r (all + (min sum r.a - fr.a) * fr.b / 1000) h3
      omega
theorem payGo_mono {s1 s2 : Int} (hs : s1 ≤ s2) : ∀ (l : List Pair) (fr : Pair) (a1 a2 : Int), spanOk fr l → a1 ≤ a2 → payGo s1 fr l a1 ≤ payGo s2 fr l a2
  | [], fr, a1, a2, h, ha => by
    by_cases c : s1 ≤ fr.a
    · have := payGo_ge s2 [] fr a2 h
      have e : payGo s1 fr [] a1 = a1 := by unfold payGo; rw [if_pos c]
      omega
    · unfold payGo
      rw [if_neg c, if_neg (by omega)]
      have := span_mono (x := min s1 281474976710656 - fr.a) (y := min s2 281474976710656 - fr.a) (by omega) h.2.1
      omega
  | r :: l, fr, a1, a2, h, ha => by
    by_cases c : s1 ≤ fr.a
    · have := payGo_ge s2 (r :: l) fr a2 h
      have e : payGo s1 fr (r :: l) a1 = a1 := by unfold payGo; rw [if_pos c]
      omega
    · unfold payGo
      rw [if_neg c, if_neg (by omega)]
      have := span_mono (x := min s1 r.a - fr.a) (y := min s2 r.a - fr.a) (by omega) h.2.1.1
      exact payGo_mono hs l r _ _ h.2.2 (by omega)
theorem payGo_le (sum : Int) : ∀ (l : List Pair) (fr : Pair) (all : Int), spanOk fr l → payGo sum fr l all ≤ all + max 0 (sum - fr.a)
  | [], fr, all, h => by
    unfold payGo
    obtain ⟨h1, h2⟩ := h
    split
    · omega
    · have := (span_part (x := min sum 281474976710656 - fr.a) (by omega) h2).2
      omega
  | r :: l, fr, all, h => by
    unfold payGo
    obtain ⟨h1, h2, h3⟩ := h
    split
    · omega
    · have := (span_part (x := min sum r.a - fr.a) (by omega) h2).2
      have := payGo_le sum l r (all + (min sum r.a - fr.a) * fr.b / 1000) h3
      omega
theorem payOf_all {l : List Pair} (h : rungsOk l = true) : (∀ s, 0 ≤ s → 0 ≤ payOf l s ∧ payOf l s ≤ s) ∧ ∀ s1 s2, s1 ≤ s2 → payOf l s1 ≤ payOf l s2 := by
  have h1 := rungs_span h
  refine ⟨fun s hs => ⟨payGo_ge s l _ 0 h1, ?_⟩, fun s1 s2 hs => payGo_mono hs l _ 0 0 h1 (Int.le_refl _)⟩
  have := payGo_le s l ⟨0, 1000⟩ 0 h1
  unfold payOf
  simp only at this
  omega

/-! ### Costs -/
theorem costOf_mono {t : Tar} (h : tarOk t = true) {s1 s2 : Int} (hs : s1 ≤ s2) (far : Int) : costOf t s1 far ≤ costOf t s2 far := by
  have h1 := (baseOf_in h far).1
  have h2 := (tarOk_all h).2.2.2.1
  have h3 : baseOf t far * s1 / 1000 ≤ baseOf t far * s2 / 1000 := by
    have := Int.mul_le_mul_of_nonneg_left hs h1
    omega
  unfold costOf
  exact Int.mul_le_mul_of_nonneg_right (Int.ediv_le_ediv (by omega) h3) (by omega)
theorem sumG_mono (t : Tar) (h : tarOk t = true) {s1 s2 : Int} (hs : s1 ≤ s2) : ∀ gs : List (List Ride), sumG (gs.map (grpOf t s1)) ≤ sumG (gs.map (grpOf t s2))
  | [] => by simp [sumG]
  | g :: gs => by
    have h1 := sumG_mono t h hs gs
    have h2 := costOf_mono h hs (farT g 0)
    simp only [List.map_cons, sumG, grpOf]
    exact Int.add_le_add h2 h1
theorem sumG_take : ∀ (gs : List Grp) (k : Nat) (g : Grp), gs[k]? = some g → sumG (gs.take (k + 1)) = sumG (gs.take k) + g.price := fun gs k g h => by
  obtain ⟨q1, q2⟩ := List.getElem?_eq_some_iff.1 h
  rw [List.take_succ_eq_append_getElem q1, q2, sumG_snoc]

/-! ### Whichever order -/
theorem bill_perm (t : Tar) (c : Int) {a b : List Ride} (h : a.Perm b) : monthE t c a = monthE t c b ∧ billG t c a = billG t c b ∧ billS t c a = billS t c b ∧ billP t c a = billP t c b := by
  obtain ⟨h1, h2⟩ := groups_perm h t.window t.chain
  have e1 : groupsE a t.window t.chain = groupsE b t.window t.chain := by
    unfold groupsE
    rw [h.length_eq]
    by_cases hp : GroupsP a t.window t.chain
    · rw [if_pos hp, if_pos (h2.1 hp)]
    · rw [if_neg hp, if_neg (fun q => hp (h2.2 q))]
  have e2 : monthE t c a = monthE t c b := by unfold monthE; rw [e1]
  have e3 : grpsOf t c a = grpsOf t c b := by unfold grpsOf; rw [h1]
  have e4 : billG t c a = billG t c b := by unfold billG; rw [e2, e3]
  have e5 : billS t c a = billS t c b := by unfold billS; rw [e4]
  exact ⟨e2, e4, e5, by unfold billP; rw [e2, e5]⟩

/-- What the law asks of a month's bill. -/
theorem bill_all {t : Tar} {a : Nat} {l : List Ride} (hl : l.length ≤ 2048) (h : monthE t a l = 0) : tarOk t = true ∧ a < t.shares.length ∧ (∀ g ∈ billG t a l, g.price % t.unit = 0 ∧ 0 ≤ g.price ∧ g.price ≤ 16777216) ∧ billS t a l = sumG (billG t a l) ∧ (billG t a l).length ≤ l.length ∧ 0 ≤ billP t a l ∧ billP t a l ≤ billS t a l ∧ billP t a l ≤ payOf t.rungs 281474976710656 := by
  have hp : MonthP t a := by
    by_cases hp : MonthP t a
    · exact hp
    · unfold monthE at h; rw [if_neg hp] at h; cases h
  obtain ⟨h1, h2, h3⟩ := hp
  have h3' : a < t.shares.length := by omega
  have hs : ∀ s ∈ t.shares, 0 ≤ s ∧ s ≤ 1000 := ((sharesOk_iff _).1 (tarOk_all h1).2.2.1).2.2.2
  have hsa : 0 ≤ t.shares.getD (a : Int).toNat 0 ∧ t.shares.getD (a : Int).toNat 0 ≤ 1000 := by
    simp only [Int.toNat_natCast]
    rw [List.getD_eq_getElem?_getD, List.getElem?_eq_getElem h3']
    exact hs _ (List.getElem_mem h3')
  have hg : ∀ g ∈ billG t a l, g.price % t.unit = 0 ∧ 0 ≤ g.price ∧ g.price ≤ 16777216 := by
    unfold billG
    rw [if_pos h]
    intro g hg
    unfold grpsOf at hg
    obtain ⟨x, hx, rfl⟩ := List.mem_map.1 hg
    have := costOf_in h1 hsa (farT x 0)
    refine ⟨?_, this⟩
    show costOf t _ _ % t.unit = 0
    unfold costOf
    exact Int.mul_emod_left _ _
  have hlen := (billG_len t a l).1
  have hs0 := sumG_in (billG t a l) (fun g h => (hg g h).2)
  have hr := (tarOk_all h1).2.2.2.2.2.2
  obtain ⟨p1, p2⟩ := payOf_all hr
  have hS : billS t a l = sumG (billG t a l) := rfl
  have hP : billP t a l = payOf t.rungs (billS t a l) := by unfold billP; rw [if_pos h]
  refine ⟨h1, h3', hg, rfl, hlen, ?_⟩
  rw [hP]
  have q := p1 (billS t a l) (by rw [hS]; exact hs0.1)
  exact ⟨q.1, q.2, p2 _ _ (by rw [hS]; omega)⟩
theorem bill_less {t : Tar} {a b : Nat} {l : List Ride} (h : monthE t a l = 0) (hb : b < t.shares.length) : monthE t b l = 0 ∧ ((t.shares.getD a 0 ≤ t.shares.getD b 0) → billS t a l ≤ billS t b l ∧ billP t a l ≤ billP t b l) := by
  have hp : MonthP t a := by
    by_cases hp : MonthP t a
    · exact hp
    · unfold monthE at h; rw [if_neg hp] at h; cases h
  have hq : MonthP t b := ⟨hp.1, by omega, by omega⟩
  have e : monthE t b l = 0 := by
    unfold monthE at h ⊢
    rw [if_pos hp] at h
    rw [if_pos hq]; exact h
  refine ⟨e, fun hs => ?_⟩
  have hS : billS t a l ≤ billS t b l := by
    unfold billS billG
    rw [if_pos h, if_pos e]
    exact sumG_mono t hp.1 (by simpa using hs) _
  have hr := (tarOk_all hp.1).2.2.2.2.2.2
  refine ⟨hS, ?_⟩
  unfold billP
  rw [if_pos h, if_pos e]
  exact (payOf_all hr).2 _ _ hS

/-! ### The rides, turned -/
def rotl (m : Nat) (xs : List Ride) : List Ride := xs.drop m ++ xs.take m
theorem rotl_perm (m : Nat) (xs : List Ride) : (rotl m xs).Perm xs := by
  unfold rotl
  have := List.perm_append_comm (l₁ := xs.drop m) (l₂ := xs.take m)
  rwa [List.take_append_drop] at this
theorem rotl_at {q k : Nat} {xs : List Ride} {r : Ride} (hk : k < xs.length) (hr : xs[(k + q) % xs.length]? = some r) : (rotl (q % xs.length) xs)[k]? = some r := by
  unfold rotl
  have hm : q % xs.length < xs.length := Nat.mod_lt _ (by omega)
  have e0 : (k + q) % xs.length = (k + q % xs.length) % xs.length := by rw [Nat.add_mod_mod]
  rw [e0] at hr
  generalize q % xs.length = m at hm hr
  by_cases h : k + m < xs.length
  · rw [Nat.mod_eq_of_lt h] at hr
    rw [List.getElem?_append_left (by simp; omega), List.getElem?_drop, Nat.add_comm]; exact hr
  · have e1 : (k + m) % xs.length = k + m - xs.length := by
      rw [Nat.mod_eq_sub_mod (by omega), Nat.mod_eq_of_lt (by omega)]
    rw [e1] at hr
    rw [List.getElem?_append_right (by simp; omega), List.getElem?_take_of_lt (by simp; omega), List.length_drop]
    rw [show k - (xs.length - m) = k + m - xs.length by omega]; exact hr
/-- The law's other order: from the end, turned by q. -/
def turned (q : Nat) (xs : List Ride) : List Ride := rotl (q % xs.length) xs.reverse
theorem turned_perm (q : Nat) (xs : List Ride) : (turned q xs).Perm xs := (rotl_perm _ _).trans (List.reverse_perm xs)
theorem turned_len (q : Nat) (xs : List Ride) : (turned q xs).length = xs.length := (turned_perm q xs).length_eq
theorem turned_at {q k j : Nat} {xs : List Ride} {r : Ride} (hk : k < xs.length) (hj : xs.length - 1 - (k + q) % xs.length = j) (hr : xs[j]? = some r) : (turned q xs)[k]? = some r := by
  unfold turned
  have hl : xs.reverse.length = xs.length := List.length_reverse
  have hm : (k + q) % xs.length < xs.length := Nat.mod_lt _ (by omega)
  have h1 : xs.reverse[(k + q) % xs.length]? = some r := by
    rw [List.getElem?_reverse hm, hj]; exact hr
  have := rotl_at (q := q) (k := k) (xs := xs.reverse) (r := r) (by rw [hl]; exact hk) (by rw [hl]; exact h1)
  rw [hl] at this; exact this

/-! ### At most -/
end Go.Proofs.Ytgdhlhjflbinmaa
