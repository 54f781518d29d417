/- The library's stable sort in plain words, and that it is the stable sort of lists. -/
import Derived.Sort.Defs
import Derived.Sort.Lot0
import Derived.Sort.LotA
namespace Go.V
open Go.Sort

section
variable {α : Type}
/-! ### Lists -/
section
variable (lt : α → α → Bool)
def insF (x : α) : List α → List α
  | [] => [x]
  | y :: l => if lt y x then y :: insF x l else x :: y :: l
def mrg (a b : List α) : List α := a.foldr (insF lt) b
def isort (l : List α) : List α := mrg lt l []
def Srt (l : List α) : Prop := l.Pairwise fun x y => lt y x = false
end

/-- What is asked of an order. -/
structure Ord (lt : α → α → Bool) : Prop where
  asymm : ∀ x y, lt x y = true → lt y x = false
  trans : ∀ x y z, lt x y = true → lt y z = true → lt x z = true
  neg : ∀ x y z, lt x y = false → lt y z = false → lt x z = false

section
variable {lt : α → α → Bool} (h : Ord lt)
include h

theorem insF_comm {x y : α} (hyx : lt y x = true) (l : List α) : insF lt y (insF lt x l) = insF lt x (insF lt y l) := by
  induction l with
  | nil => simp [insF, hyx, h.asymm _ _ hyx]
  | cons z l ih =>
    by_cases hzx : lt z x = true
    · by_cases hzy : lt z y = true
      · simp [insF, hzx, hzy, ih]
      · simp [insF, hzx, hzy, hyx]
    · by_cases hzy : lt z y = true
      · exact absurd (h.trans _ _ _ hzy hyx) hzx
      · simp [insF, hzx, hzy, hyx, h.asymm _ _ hyx]

theorem mrg_insF (b : List α) (x : α) (a : List α) : mrg lt (insF lt x a) b = insF lt x (mrg lt a b) := by
  induction a with
  | nil => rfl
  | cons y a ih =>
    by_cases hyx : lt y x = true
    · have e1 : insF lt x (y :: a) = y :: insF lt x a := by simp [insF, hyx]
      rw [e1]
      show insF lt y (mrg lt (insF lt x a) b) = insF lt x (insF lt y (mrg lt a b))
      rw [ih, insF_comm h hyx]
    · have e1 : insF lt x (y :: a) = x :: y :: a := by simp [insF, hyx]
      rw [e1]; rfl

theorem mrg_isort (b a : List α) : mrg lt (isort lt a) b = mrg lt a b := by
  induction a with
  | nil => rfl
  | cons x a ih =>
    show mrg lt (insF lt x (isort lt a)) b = insF lt x (mrg lt a b)
    rw [mrg_insF h, ih]

theorem isort_append (a b : List α) : isort lt (a ++ b) = mrg lt (isort lt a) (isort lt b) := by
  rw [mrg_isort h]
  show List.foldr _ _ (a ++ b) = _
  rw [List.foldr_append]; rfl

omit h in
theorem insF_mem {x z : α} {l : List α} : z ∈ insF lt x l ↔ z = x ∨ z ∈ l := by
  induction l with
  | nil => simp [insF]
  | cons y l ih => simp only [insF]; split <;> simp [ih] <;> constructor <;> rintro (h | h | h) <;> simp [h]

theorem insF_srt {x : α} {l : List α} (hl : Srt lt l) : Srt lt (insF lt x l) := by
  induction l with
  | nil => simp [insF, Srt]
  | cons y l ih =>
    obtain ⟨h1, h2⟩ := List.pairwise_cons.1 hl
    simp only [insF]
    split
    · rename_i hyx
      refine List.pairwise_cons.2 ⟨fun z hz => ?_, ih h2⟩
      rcases insF_mem.1 hz with rfl | hz
      · exact h.asymm _ _ hyx
      · exact h1 z hz
    · rename_i hyx
      have hyx : lt y x = false := by simpa using hyx
      refine List.pairwise_cons.2 ⟨fun z hz => ?_, hl⟩
      rcases List.mem_cons.1 hz with rfl | hz
      · exact hyx
      · exact h.neg _ _ _ (h1 z hz) hyx

theorem mrg_srt (a : List α) {b : List α} (hb : Srt lt b) : Srt lt (mrg lt a b) := by
  induction a with
  | nil => exact hb
  | cons x a ih => exact insF_srt h ih

theorem isort_srt (a : List α) : Srt lt (isort lt a) := mrg_srt h a List.Pairwise.nil

omit h in
theorem insF_perm (x : α) (l : List α) : (insF lt x l).Perm (x :: l) := by
  induction l with
  | nil => exact .refl _
  | cons y l ih =>
    simp only [insF]; split
    · exact ((List.Perm.cons y ih).trans (List.Perm.swap x y l))
    · exact .refl _

omit h in
theorem mrg_perm (a b : List α) : (mrg lt a b).Perm (a ++ b) := by
  induction a with
  | nil => exact .refl _
  | cons x a ih => exact (insF_perm x _).trans (ih.cons x)

omit h in
theorem isort_perm (a : List α) : (isort lt a).Perm a := by have := mrg_perm (lt := lt) a []; rwa [List.append_nil] at this

omit h in
theorem insF_past {x : α} {b : List α} (c : List α) (hb : ∀ y ∈ b, lt y x = true) : insF lt x (b ++ c) = b ++ insF lt x c := by
  induction b with
  | nil => rfl
  | cons y b ih => simp [insF, hb y (by simp), ih (fun z hz => hb z (by simp [hz]))]

omit h in
theorem insF_ahead {x : α} {b c : List α} (hc : ∀ y ∈ c, lt y x = false) : insF lt x (b ++ c) = insF lt x b ++ c := by
  induction b with
  | nil => cases c with
    | nil => rfl
    | cons y c => simp [insF, hc y (by simp)]
  | cons y b ih => simp only [List.cons_append, insF]; split <;> simp [ih]

omit h in
theorem mrg_split {a1 a2 b1 b2 : List α} (h1 : ∀ x ∈ a2, ∀ y ∈ b1, lt y x = true) (h2 : ∀ x ∈ a1, ∀ y ∈ b2, lt y x = false) (h3 : ∀ x ∈ a1, ∀ y ∈ a2, lt y x = false) :
    mrg lt (a1 ++ a2) (b1 ++ b2) = mrg lt a1 b1 ++ mrg lt a2 b2 := by
  have e1 : mrg lt a2 (b1 ++ b2) = b1 ++ mrg lt a2 b2 := by
    clear h2 h3
    induction a2 with
    | nil => rfl
    | cons x a ih =>
      show insF lt x (mrg lt a (b1 ++ b2)) = b1 ++ insF lt x (mrg lt a b2)
      rw [ih (fun z hz => h1 z (by simp [hz])), insF_past _ (h1 x (by simp))]
  show List.foldr _ _ (a1 ++ a2) = _
  rw [List.foldr_append]
  show mrg lt a1 (mrg lt a2 (b1 ++ b2)) = _
  rw [e1]
  clear e1 h1
  induction a1 with
  | nil => rfl
  | cons x a ih =>
    show insF lt x (mrg lt a (b1 ++ mrg lt a2 b2)) = insF lt x (mrg lt a b1) ++ mrg lt a2 b2
    rw [ih (fun z hz => h2 z (by simp [hz])) (fun z hz => h3 z (by simp [hz]))]
    refine insF_ahead fun y hy => ?_
    rcases List.mem_append.1 ((mrg_perm a2 b2).mem_iff.1 hy) with hy | hy
    · exact h3 x (by simp) y hy
    · exact h2 x (by simp) y hy

omit h in
theorem mrg_nil_of_srt {a : List α} (ha : Srt lt a) : mrg lt a [] = a := by
  induction a with
  | nil => rfl
  | cons x a ih =>
    obtain ⟨h1, h2⟩ := List.pairwise_cons.1 ha
    show insF lt x (mrg lt a []) = _
    rw [ih h2]
    cases a with
    | nil => rfl
    | cons y a => simp [insF, h1 y (by simp)]

end
end

section
variable {α : Type} [Inhabited α]

/-! ### Pieces of a row -/
def seg (d : Array α) (a b : Nat) : List α := (List.range' a (b - a)).map fun i => d[i]!

theorem seg_length (d : Array α) (a b : Nat) : (seg d a b).length = b - a := by simp [seg]
theorem seg_nil (d : Array α) {a b : Nat} (h : b ≤ a) : seg d a b = [] := by simp [seg, Nat.sub_eq_zero_of_le h]
theorem seg_append (d : Array α) {a m b : Nat} (h1 : a ≤ m) (h2 : m ≤ b) : seg d a b = seg d a m ++ seg d m b := by
  unfold seg
  rw [← List.map_append]
  congr 1
  have := List.range'_append_1 (s := a) (m := m - a) (n := b - m)
  rw [show a + (m - a) = m by omega, show m - a + (b - m) = b - a by omega] at this
  exact this.symm
theorem seg_one (d : Array α) (a : Nat) : seg d a (a + 1) = [d[a]!] := by simp [seg, show a + 1 - a = 1 by omega]
theorem seg_snoc (d : Array α) {a b : Nat} (h : a ≤ b) : seg d a (b + 1) = seg d a b ++ [d[b]!] := by
  rw [seg_append d h (by omega), seg_one]
theorem seg_cons (d : Array α) {a b : Nat} (h : a < b) : seg d a b = d[a]! :: seg d (a + 1) b := by
  rw [seg_append d (show a ≤ a + 1 by omega) h, seg_one]; rfl
theorem seg_move (d d' : Array α) {a b a' : Nat} (h : ∀ t, t < b - a → d'[a' + t]! = d[a + t]!) : seg d' a' (a' + (b - a)) = seg d a b := by
  unfold seg
  rw [show a' + (b - a) - a' = b - a by omega]
  apply List.ext_getElem (by simp)
  intro i h1 h2
  simp at h1 ⊢
  have := h i h1
  simpa using this
theorem seg_same {d d' : Array α} {a b : Nat} (h : ∀ t, a ≤ t → t < b → d'[t]! = d[t]!) : seg d' a b = seg d a b := by
  by_cases hab : a ≤ b
  · have := seg_move d d' (a := a) (b := b) (a' := a) (fun t ht => h _ (by omega) (by omega))
    rwa [show a + (b - a) = b by omega] at this
  · rw [seg_nil _ (by omega), seg_nil _ (by omega)]
theorem mem_seg {d : Array α} {a b : Nat} {x : α} : x ∈ seg d a b ↔ ∃ t, a ≤ t ∧ t < b ∧ d[t]! = x := by
  simp only [seg, List.mem_map, List.mem_range'_1]
  constructor
  · rintro ⟨t, ⟨h1, h2⟩, h⟩; exact ⟨t, h1, by omega, h⟩
  · rintro ⟨t, h1, h2, h⟩; exact ⟨t, ⟨h1, by omega⟩, h⟩
theorem srt_seg {lt : α → α → Bool} {d : Array α} {a b : Nat} : Srt lt (seg d a b) ↔ ∀ i j, a ≤ i → i < j → j < b → lt d[j]! d[i]! = false := by
  constructor
  · intro h i j h1 h2 h3
    rw [seg_append d (show a ≤ i + 1 by omega) (show i + 1 ≤ b by omega)] at h
    exact (List.pairwise_append.1 h).2.2 _ (mem_seg.2 ⟨i, h1, by omega, rfl⟩) _ (mem_seg.2 ⟨j, by omega, h3, rfl⟩)
  · intro h
    unfold Srt seg
    rw [List.pairwise_map]
    apply List.Pairwise.imp_of_mem (R := fun i j => i < j)
    · intro i j hi hj hij
      simp at hi hj
      exact h i j hi.1 hij (by omega)
    · exact List.pairwise_lt_range'
theorem seg_all (d : Array α) : seg d 0 d.size = d.toList := by
  apply List.ext_getElem (by simp [seg_length])
  intro i h1 h2
  simp [seg]
  simp at h2
  exact getElem!_pos d i h2

/-! ### swapRange, rotate -/
def swapR (d : Array α) (a b : Nat) : Nat → Array α
  | 0 => d
  | n + 1 => swp (swapR d a b n) (a + n) (b + n)

theorem swapR_size (d : Array α) (a b n : Nat) : (swapR d a b n).size = d.size := by
  induction n with
  | zero => rfl
  | succ n ih => simp [swapR, size_swp, ih]

theorem swapR_get (d : Array α) (a b n t : Nat) (hab : a + n ≤ b) (hb : b + n ≤ d.size) :
    (swapR d a b n)[t]! = if a ≤ t ∧ t < a + n then d[b + (t - a)]! else if b ≤ t ∧ t < b + n then d[a + (t - b)]! else d[t]! := by
  induction n generalizing t with
  | zero => rw [if_neg (by omega), if_neg (by omega)]; rfl
  | succ n ih =>
    have hs := swapR_size d a b n
    show (swp (swapR d a b n) (a + n) (b + n))[t]! = _
    rw [swp_get _ (by omega) (by omega)]
    by_cases h1 : t = b + n
    · subst h1; rw [if_pos rfl, ih _ (by omega) (by omega)]
      rw [if_neg (by omega), if_neg (by omega), if_neg (by omega), if_pos (by omega)]; congr 1; omega
    · by_cases h2 : t = a + n
      · subst h2; rw [if_neg h1, if_pos rfl, ih _ (by omega) (by omega)]
        rw [if_neg (by omega), if_neg (by omega), if_pos (by omega)]; congr 1; omega
      · rw [if_neg h1, if_neg h2, ih _ (by omega) (by omega)]
        by_cases h3 : a ≤ t ∧ t < a + n
        · rw [if_pos h3, if_pos (by omega)]
        · rw [if_neg h3, if_neg (show ¬ (a ≤ t ∧ t < a + (n + 1)) by omega)]
          by_cases h4 : b ≤ t ∧ t < b + n
          · rw [if_pos h4, if_pos (by omega)]
          · rw [if_neg h4, if_neg (by omega)]

def rotL (m : Nat) : Nat → Nat → Nat → Array α → Array α
  | 0, _, _, d => d
  | f + 1, i, j, d =>
    if i = j then swapR d (m - i) m i
    else if j < i then rotL m f (i - j) j (swapR d (m - i) m j)
    else rotL m f i (j - i) (swapR d (m - i) (m + j - i) i)

theorem rotL_size (m : Nat) : ∀ (f i j : Nat) (d : Array α), (rotL m f i j d).size = d.size
  | 0, _, _, _ => rfl
  | f + 1, i, j, d => by
    unfold rotL
    split
    · exact swapR_size ..
    · split
      · rw [rotL_size]; exact swapR_size ..
      · rw [rotL_size]; exact swapR_size ..

theorem rotL_get (m : Nat) : ∀ (f i j : Nat) (d : Array α) (t : Nat), i + j ≤ f → 0 < i → 0 < j → i ≤ m → m + j ≤ d.size →
    (rotL m f i j d)[t]! = if m - i ≤ t ∧ t < m - i + j then d[t + i]! else if m - i + j ≤ t ∧ t < m + j then d[t - j]! else d[t]!
  | 0, i, j, d, t, h, h1, h2, _, _ => by omega
  | f + 1, i, j, d, t, h, h1, h2, hi, hj => by
    unfold rotL
    by_cases e : i = j
    · subst e
      rw [if_pos rfl, swapR_get _ _ _ _ _ (by omega) (by omega)]
      by_cases c1 : m - i ≤ t ∧ t < m - i + i
      · rw [if_pos c1, if_pos c1]; congr 1; omega
      · rw [if_neg c1, if_neg c1]
        by_cases c2 : m ≤ t ∧ t < m + i
        · rw [if_pos c2, if_pos (by omega)]; congr 1; omega
        · rw [if_neg c2, if_neg (by omega)]
    · rw [if_neg e]
      by_cases hji : j < i
      · rw [if_pos hji, rotL_get m f (i - j) j _ t (by omega) (by omega) h2 (by omega) (by rw [swapR_size]; omega)]
        by_cases c1 : m - (i - j) ≤ t ∧ t < m - (i - j) + j
        · rw [if_pos c1, swapR_get _ _ _ _ _ (by omega) (by omega)]
          by_cases c : m - i ≤ t ∧ t < m - i + j
          · omega
          · by_cases c3 : m - i ≤ t + (i - j) ∧ t + (i - j) < m - i + j
            · omega
            · rw [if_neg c3]
              by_cases c4 : m ≤ t + (i - j) ∧ t + (i - j) < m + j
              · rw [if_pos c4, if_neg c, if_pos (by omega)]; congr 1; omega
              · omega
        · rw [if_neg c1]
          by_cases c2 : m - (i - j) + j ≤ t ∧ t < m + j
          · rw [if_pos c2, swapR_get _ _ _ _ _ (by omega) (by omega), if_neg (by omega), if_neg (by omega), if_neg (by omega), if_pos (by omega)]
          · rw [if_neg c2, swapR_get _ _ _ _ _ (by omega) (by omega)]
            by_cases c3 : m - i ≤ t ∧ t < m - i + j
            · rw [if_pos c3, if_pos c3]; congr 1; omega
            · rw [if_neg c3, if_neg c3, if_neg (by omega), if_neg (by omega)]
      · rw [if_neg hji, rotL_get m f i (j - i) _ t (by omega) h1 (by omega) hi (by rw [swapR_size]; omega)]
        by_cases c1 : m - i ≤ t ∧ t < m - i + (j - i)
        · rw [if_pos c1, if_pos (by omega), swapR_get _ _ _ _ _ (by omega) (by omega), if_neg (by omega), if_neg (by omega)]
        · rw [if_neg c1]
          by_cases c2 : m - i + (j - i) ≤ t ∧ t < m + (j - i)
          · rw [if_pos c2, swapR_get _ _ _ _ _ (by omega) (by omega)]
            by_cases c3 : m - i ≤ t - (j - i) ∧ t - (j - i) < m - i + i
            · rw [if_pos c3]
              by_cases c4 : m - i ≤ t ∧ t < m - i + j
              · rw [if_pos c4]; congr 1; omega
              · omega
            · omega
          · rw [if_neg c2, swapR_get _ _ _ _ _ (by omega) (by omega)]
            by_cases c3 : m - i ≤ t ∧ t < m - i + i
            · omega
            · rw [if_neg c3]
              by_cases c4 : m + j - i ≤ t ∧ t < m + j - i + i
              · rw [if_pos c4, if_neg (by omega), if_pos (by omega)]; congr 1; omega
              · rw [if_neg c4, if_neg (by omega), if_neg (by omega)]

def rot (d : Array α) (a m b : Nat) : Array α := rotL m (b - a) (m - a) (b - m) d

theorem rot_size (d : Array α) (a m b : Nat) : (rot d a m b).size = d.size := rotL_size ..
theorem rot_get (d : Array α) {a m b : Nat} (h1 : a < m) (h2 : m < b) (h3 : b ≤ d.size) (t : Nat) :
    (rot d a m b)[t]! = if a ≤ t ∧ t < a + (b - m) then d[t + (m - a)]! else if a + (b - m) ≤ t ∧ t < b then d[t - (b - m)]! else d[t]! := by
  unfold rot
  rw [rotL_get m _ _ _ _ _ (by omega) (by omega) (by omega) (by omega) (by omega)]
  rw [show m - (m - a) = a by omega, show m + (b - m) = b by omega]

/-! ### Bisection -/
def bs (p : Nat → Bool) : Nat → Nat → Nat → Nat
  | 0, i, _ => i
  | f + 1, i, j => if i < j then (if p ((i + j) / 2) then bs p f ((i + j) / 2 + 1) j else bs p f i ((i + j) / 2)) else i

/-- Where what holds at first holds no longer. -/
theorem bs_spec (p : Nat → Bool) : ∀ (f i j : Nat), j - i ≤ f → i ≤ j → (∀ c e, i ≤ c → c < e → e < j → p e = true → p c = true) →
    i ≤ bs p f i j ∧ bs p f i j ≤ j ∧ (∀ c, i ≤ c → c < bs p f i j → p c = true) ∧ (∀ c, bs p f i j ≤ c → c < j → p c = false)
  | 0, i, j, h1, h2, _ => by
    simp only [bs]; exact ⟨by omega, by omega, fun c _ _ => by omega, fun c _ _ => by omega⟩
  | f + 1, i, j, h1, h2, hp => by
    unfold bs
    by_cases hij : i < j
    · rw [if_pos hij]
      cases hh : p ((i + j) / 2) with
      | true =>
        simp only [if_true]
        obtain ⟨a1, a2, a3, a4⟩ := bs_spec p f ((i + j) / 2 + 1) j (by omega) (by omega) (fun c e x1 x2 x3 => hp c e (by omega) x2 x3)
        refine ⟨by omega, a2, fun c c1 c2 => ?_, a4⟩
        by_cases hc : (i + j) / 2 + 1 ≤ c
        · exact a3 c hc c2
        · by_cases hc' : c = (i + j) / 2
          · rw [hc']; exact hh
          · exact hp c _ c1 (by omega) (by omega) hh
      | false =>
        simp only [Bool.false_eq_true, if_false]
        obtain ⟨a1, a2, a3, a4⟩ := bs_spec p f i ((i + j) / 2) (by omega) (by omega) (fun c e x1 x2 x3 => hp c e x1 x2 (by omega))
        refine ⟨a1, by omega, a3, fun c c1 c2 => ?_⟩
        by_cases hc : c < (i + j) / 2
        · exact a4 c c1 hc
        · by_cases hc' : c = (i + j) / 2
          · rw [hc']; exact hh
          · cases hpc : p c with
            | false => rfl
            | true => rw [hp _ c (by omega) (by omega) c2 hpc] at hh; cases hh
    · rw [if_neg hij]; exact ⟨by omega, by omega, fun c _ _ => by omega, fun c _ _ => by omega⟩

/-! ### One moved up, one moved down -/
def upR (d : Array α) (a : Nat) : Nat → Array α
  | 0 => d
  | n + 1 => swp (upR d a n) (a + n) (a + n + 1)
def dnR (d : Array α) (m : Nat) : Nat → Array α
  | 0 => d
  | n + 1 => swp (dnR d m n) (m - n) (m - n - 1)

theorem upR_size (d : Array α) (a n : Nat) : (upR d a n).size = d.size := by
  induction n with
  | zero => rfl
  | succ n ih => simp [upR, size_swp, ih]
theorem dnR_size (d : Array α) (a n : Nat) : (dnR d a n).size = d.size := by
  induction n with
  | zero => rfl
  | succ n ih => simp [dnR, size_swp, ih]

theorem upR_get (d : Array α) (a n t : Nat) (h : a + n < d.size) :
    (upR d a n)[t]! = if a ≤ t ∧ t < a + n then d[t + 1]! else if t = a + n then d[a]! else d[t]! := by
  induction n generalizing t with
  | zero =>
    rw [if_neg (by omega)]
    by_cases e : t = a
    · subst e; rw [if_pos (by omega)]; rfl
    · rw [if_neg (by omega)]; rfl
  | succ n ih =>
    have hs := upR_size d a n
    show (swp (upR d a n) (a + n) (a + n + 1))[t]! = _
    rw [swp_get _ (by omega) (by omega)]
    by_cases h1 : t = a + n + 1
    · subst h1; rw [if_pos rfl, ih _ (by omega), if_neg (by omega), if_pos rfl, if_neg (by omega), if_pos (by omega)]
    · rw [if_neg h1]
      by_cases h2 : t = a + n
      · subst h2; rw [if_pos rfl, ih _ (by omega), if_neg (by omega), if_neg (by omega), if_pos (by omega)]
      · rw [if_neg h2, ih _ (by omega)]
        by_cases h3 : a ≤ t ∧ t < a + n
        · rw [if_pos h3, if_pos (by omega)]
        · rw [if_neg h3, if_neg h2, if_neg (by omega), if_neg (by omega)]

theorem dnR_get (d : Array α) (m n t : Nat) (h : m < d.size) (hn : n ≤ m) :
    (dnR d m n)[t]! = if t = m - n then d[m]! else if m - n < t ∧ t ≤ m then d[t - 1]! else d[t]! := by
  induction n generalizing t with
  | zero =>
    by_cases e : t = m
    · subst e; rw [if_pos (by omega)]; rfl
    · rw [if_neg (by omega), if_neg (by omega)]; rfl
  | succ n ih =>
    have hs := dnR_size d m n
    show (swp (dnR d m n) (m - n) (m - n - 1))[t]! = _
    rw [swp_get _ (by omega) (by omega)]
    by_cases h1 : t = m - n - 1
    · subst h1; rw [if_pos rfl, ih _ (by omega), if_pos rfl, if_pos (by omega)]
    · rw [if_neg h1]
      by_cases h2 : t = m - n
      · subst h2; rw [if_pos rfl, ih _ (by omega), if_neg (by omega), if_neg (by omega), if_neg (by omega), if_pos (by omega)]
      · rw [if_neg h2, ih _ (by omega), if_neg h2, if_neg (show ¬ t = m - (n + 1) by omega)]
        by_cases h3 : m - n < t ∧ t ≤ m
        · rw [if_pos h3, if_pos (by omega)]
        · rw [if_neg h3, if_neg (by omega)]

/-! ### symMerge -/
def symM (lt : α → α → Bool) : Nat → Array α → Nat → Nat → Nat → Array α
  | 0, d, _, _, _ => d
  | f + 1, d, a, m, b =>
    if m - a = 1 then upR d a (bs (fun x => lt d[x]! d[a]!) (b - m) m b - 1 - a)
    else if b - m = 1 then dnR d m (m - bs (fun x => !lt d[m]! d[x]!) (m - a) a m)
    else
      let mid := (a + b) / 2
      let n := mid + m
      let s0 := if mid < m then n - b else a
      let r0 := if mid < m then mid else m
      let s := bs (fun c => !lt d[n - 1 - c]! d[c]!) (r0 - s0) s0 r0
      let e := n - s
      let d1 := if s < m ∧ m < e then rot d s m e else d
      let d2 := if a < s ∧ s < mid then symM lt f d1 a s mid else d1
      if mid < e ∧ e < b then symM lt f d2 mid e b else d2

/-- What a merge of two pieces leaves. -/
structure Mrgd (lt : α → α → Bool) (d : Array α) (a m b : Nat) (d' : Array α) : Prop where
  size : d'.size = d.size
  out : ∀ t, t < a ∨ b ≤ t → d'[t]! = d[t]!
  seg : seg d' a b = mrg lt (seg d a m) (seg d m b)

theorem symM_spec {lt : α → α → Bool} (h : Ord lt) : ∀ (f : Nat) (d : Array α) (a m b : Nat), b - a ≤ f → a < m → m < b → b ≤ d.size → Srt lt (seg d a m) → Srt lt (seg d m b) → Mrgd lt d a m b (symM lt f d a m b)
  | 0, d, a, m, b, h0, h1, h2, _, _, _ => by omega
  | f + 1, d, a, m, b, h0, h1, h2, h3, su, sv => by
    unfold symM
    by_cases e1 : m - a = 1
    · rw [if_pos e1]
      have em : m = a + 1 := by omega
      subst em
      obtain ⟨q1, q2, q3, q4⟩ := bs_spec (fun x => lt d[x]! d[a]!) (b - (a + 1)) (a + 1) b (Nat.le_refl _) (by omega) (fun c e c1 c2 c3 hp => by
        have := srt_seg.1 sv c e c1 c2 c3
        cases hc : lt d[c]! d[a]! with
        | true => rfl
        | false => have := h.neg _ _ _ this hc; simp [this] at hp)
      generalize hi : bs (fun x => lt d[x]! d[a]!) (b - (a + 1)) (a + 1) b = i at q1 q2 q3 q4 ⊢
      refine ⟨upR_size .., fun t ht => ?_, ?_⟩
      · rw [upR_get _ _ _ _ (by omega), if_neg (by omega), if_neg (by omega)]
      · have x1 : seg (upR d a (i - 1 - a)) a (i - 1) = seg d (a + 1) i := by
          have := seg_move d (upR d a (i - 1 - a)) (a := a + 1) (b := i) (a' := a) (fun t ht => by rw [upR_get _ _ _ _ (by omega), if_pos (by omega)]; congr 1; omega)
          rwa [show a + (i - (a + 1)) = i - 1 by omega] at this
        have x2 : seg (upR d a (i - 1 - a)) (i - 1) i = [d[a]!] := by
          rw [show i = i - 1 + 1 by omega, Nat.add_sub_cancel, seg_one, upR_get _ _ _ _ (by omega), if_neg (by omega), if_pos (by omega)]
        have x3 : seg (upR d a (i - 1 - a)) i b = seg d i b := seg_same fun t t1 t2 => by rw [upR_get _ _ _ _ (by omega), if_neg (by omega), if_neg (by omega)]
        rw [seg_append _ (show a ≤ i - 1 by omega) (show i - 1 ≤ b by omega), seg_append _ (show i - 1 ≤ i by omega) q2, x1, x2, x3, seg_one, seg_append d q1 q2]
        have y := mrg_split (lt := lt) (a1 := []) (a2 := [d[a]!]) (b1 := seg d (a + 1) i) (b2 := seg d i b) (fun x hx y hy => by
          obtain ⟨t, t1, t2, rfl⟩ := mem_seg.1 hy
          simp at hx; subst hx; exact q3 t t1 t2) (fun x hx => by simp at hx) (fun x hx => by simp at hx)
        simp only [List.nil_append] at y
        rw [y]
        show _ = seg d (a + 1) i ++ insF lt d[a]! (seg d i b)
        congr 1
        by_cases hib : i < b
        · rw [seg_cons d hib]; simp [insF, q4 i (Nat.le_refl _) hib]
        · rw [seg_nil d (by omega)]; rfl
    · rw [if_neg e1]
      by_cases e2 : b - m = 1
      · rw [if_pos e2]
        have eb : b = m + 1 := by omega
        subst eb
        obtain ⟨q1, q2, q3, q4⟩ := bs_spec (fun x => !lt d[m]! d[x]!) (m - a) a m (Nat.le_refl _) (by omega) (fun c e c1 c2 c3 hp => by
          have := srt_seg.1 su c e c1 c2 c3
          simp only [Bool.not_eq_true'] at hp ⊢
          exact h.neg _ _ _ hp this)
        generalize hi : bs (fun x => !lt d[m]! d[x]!) (m - a) a m = i at q1 q2 q3 q4 ⊢
        refine ⟨dnR_size .., fun t ht => ?_, ?_⟩
        · rw [dnR_get _ _ _ _ (by omega) (by omega), if_neg (by omega), if_neg (by omega)]
        · have x1 : seg (dnR d m (m - i)) a i = seg d a i := seg_same fun t t1 t2 => by rw [dnR_get _ _ _ _ (by omega) (by omega), if_neg (by omega), if_neg (by omega)]
          have x2 : seg (dnR d m (m - i)) i (i + 1) = [d[m]!] := by rw [seg_one, dnR_get _ _ _ _ (by omega) (by omega), if_pos (by omega)]
          have x3 : seg (dnR d m (m - i)) (i + 1) (m + 1) = seg d i m := by
            have := seg_move d (dnR d m (m - i)) (a := i) (b := m) (a' := i + 1) (fun t ht => by rw [dnR_get _ _ _ _ (by omega) (by omega), if_neg (by omega), if_pos (by omega)]; congr 1; omega)
            rwa [show i + 1 + (m - i) = m + 1 by omega] at this
          rw [seg_append _ q1 (show i ≤ m + 1 by omega), seg_append _ (show i ≤ i + 1 by omega) (show i + 1 ≤ m + 1 by omega), x1, x2, x3, seg_one, seg_append d q1 q2]
          have ss : Srt lt (seg d a i ++ seg d i m) := by rw [← seg_append d q1 q2]; exact su
          obtain ⟨s1, s2, s3⟩ := List.pairwise_append.1 ss
          have y := mrg_split (lt := lt) (a1 := seg d a i) (a2 := seg d i m) (b1 := [d[m]!]) (b2 := []) (fun x hx y hy => by
            obtain ⟨t, t1, t2, rfl⟩ := mem_seg.1 hx
            simp at hy; subst hy
            have := q4 t t1 t2; simpa using this) (fun x _ y hy => by simp at hy) s3
          simp only [List.append_nil] at y
          rw [y, mrg_nil_of_srt s2, ← List.append_assoc]
          congr 1
          have z := mrg_split (lt := lt) (a1 := seg d a i) (a2 := []) (b1 := []) (b2 := [d[m]!]) (fun x hx => by simp at hx) (fun x hx y hy => by
            obtain ⟨t, t1, t2, rfl⟩ := mem_seg.1 hx
            simp at hy; subst hy
            have := q3 t t1 t2; simpa using this) (fun x _ y hy => by simp at hy)
          simp only [List.append_nil, List.nil_append] at z
          rw [z, mrg_nil_of_srt s1]; rfl
      · rw [if_neg e2]
        dsimp only
        generalize hmid : (a + b) / 2 = mid
        have hs0 : a ≤ (if mid < m then mid + m - b else a) ∧ (if mid < m then mid + m - b else a) ≤ (if mid < m then mid else m) ∧ (if mid < m then mid else m) ≤ m ∧ (if mid < m then mid else m) ≤ mid ∧ mid + m - (if mid < m then mid + m - b else a) ≤ b ∧ m ≤ mid + m - (if mid < m then mid else m) ∧ ((if mid < m then mid + m - b else a) = a ∨ mid + m - (if mid < m then mid + m - b else a) = b) ∧ ((if mid < m then mid else m) = m ∨ mid + m - (if mid < m then mid else m) = m) := by
          split <;> omega
        generalize (if mid < m then mid + m - b else a) = s0 at hs0 ⊢
        generalize (if mid < m then mid else m) = r0 at hs0 ⊢
        obtain ⟨g1, g2, g3, g4, g5, g6, g7, g8⟩ := hs0
        obtain ⟨q1, q2, q3, q4⟩ := bs_spec (fun c => !lt d[mid + m - 1 - c]! d[c]!) (r0 - s0) s0 r0 (Nat.le_refl _) g2 (fun c e c1 c2 c3 hp => by
          have hu := srt_seg.1 su c e (by omega) c2 (by omega)
          have hv := srt_seg.1 sv (mid + m - 1 - e) (mid + m - 1 - c) (by omega) (by omega) (by omega)
          simp only [Bool.not_eq_true'] at hp ⊢
          exact h.neg _ _ _ hv (h.neg _ _ _ hp hu))
        generalize bs (fun c => !lt d[mid + m - 1 - c]! d[c]!) (r0 - s0) s0 r0 = s at q1 q2 q3 q4 ⊢
        generalize he : mid + m - s = e
        have as : a ≤ s := by omega
        have sm : s ≤ m := by omega
        have me : m ≤ e := by omega
        have eb : e ≤ b := by omega
        -- the first turn
        have hr : ∃ d1 : Array α, (if s < m ∧ m < e then rot d s m e else d) = d1 ∧ d1.size = d.size ∧ (∀ t, t < s ∨ e ≤ t → d1[t]! = d[t]!) ∧ seg d1 s mid = seg d m e ∧ seg d1 mid e = seg d s m := by
          refine ⟨_, rfl, ?_⟩
          by_cases c : s < m ∧ m < e
          · rw [if_pos c]
            have gt := rot_get d c.1 c.2 (by omega : e ≤ d.size)
            refine ⟨rot_size .., fun t ht => by rw [gt, if_neg (by omega), if_neg (by omega)], ?_, ?_⟩
            · have := seg_move d (rot d s m e) (a := m) (b := e) (a' := s) (fun t ht => by rw [gt, if_pos (by omega)]; congr 1; omega)
              rwa [show s + (e - m) = mid by omega] at this
            · have := seg_move d (rot d s m e) (a := s) (b := m) (a' := mid) (fun t ht => by rw [gt, if_neg (by omega), if_pos (by omega)]; congr 1; omega)
              rwa [show mid + (m - s) = e by omega] at this
          · rw [if_neg c]
            refine ⟨rfl, fun _ _ => rfl, ?_, ?_⟩
            · by_cases c1 : s < m
              · have : m = e := by omega
                rw [seg_nil _ (by omega), seg_nil _ (by omega)]
              · have : s = m := by omega
                have : mid = e := by omega
                subst_vars; rfl
            · by_cases c1 : s < m
              · have : m = e := by omega
                have : s = mid := by omega
                subst_vars; rfl
              · rw [seg_nil _ (by omega), seg_nil _ (by omega)]
        obtain ⟨d1, hd1, z1, o1, p1, p2⟩ := hr
        rw [hd1]
        have ss : Srt lt (seg d a s ++ seg d s m) := by rw [← seg_append d as sm]; exact su
        obtain ⟨u1, u2, u3⟩ := List.pairwise_append.1 ss
        have vv : Srt lt (seg d m e ++ seg d e b) := by rw [← seg_append d me eb]; exact sv
        obtain ⟨v1, v2, v3⟩ := List.pairwise_append.1 vv
        have pa : seg d1 a s = seg d a s := seg_same fun t t1 t2 => o1 t (by omega)
        have pb : seg d1 e b = seg d e b := seg_same fun t t1 t2 => o1 t (by omega)
        -- the first half
        have hl : ∃ d2 : Array α, (if a < s ∧ s < mid then symM lt f d1 a s mid else d1) = d2 ∧ d2.size = d.size ∧ (∀ t, t < a ∨ mid ≤ t → d2[t]! = d1[t]!) ∧ seg d2 a mid = mrg lt (seg d a s) (seg d m e) := by
          refine ⟨_, rfl, ?_⟩
          by_cases c : a < s ∧ s < mid
          · rw [if_pos c]
            have ih := symM_spec h f d1 a s mid (by omega) c.1 c.2 (by omega) (by rw [pa]; exact u1) (by rw [p1]; exact v1)
            exact ⟨by rw [ih.size, z1], ih.out, by rw [ih.seg, pa, p1]⟩
          · rw [if_neg c]
            refine ⟨z1, fun _ _ => rfl, ?_⟩
            by_cases c1 : a < s
            · have : s = mid := by omega
              have e0 : seg d m e = [] := seg_nil _ (by omega)
              rw [e0, mrg_nil_of_srt u1, ← pa, this]
            · have : a = s := by omega
              rw [seg_nil d (show s ≤ a by omega), this, p1]; rfl
        obtain ⟨d2, hd2, z2, o2, w1⟩ := hl
        rw [hd2]
        have pm : seg d2 mid e = seg d s m := by rw [← p2]; exact seg_same fun t t1 t2 => o2 t (by omega)
        have pe : seg d2 e b = seg d e b := by rw [← pb]; exact seg_same fun t t1 t2 => o2 t (by omega)
        have hq : ∃ d3 : Array α, (if mid < e ∧ e < b then symM lt f d2 mid e b else d2) = d3 ∧ d3.size = d.size ∧ (∀ t, t < mid ∨ b ≤ t → d3[t]! = d2[t]!) ∧ seg d3 mid b = mrg lt (seg d s m) (seg d e b) := by
          refine ⟨_, rfl, ?_⟩
          by_cases c : mid < e ∧ e < b
          · rw [if_pos c]
            have ih := symM_spec h f d2 mid e b (by omega) c.1 c.2 (by omega) (by rw [pm]; exact u2) (by rw [pe]; exact v2)
            exact ⟨by rw [ih.size, z2], ih.out, by rw [ih.seg, pm, pe]⟩
          · rw [if_neg c]
            refine ⟨z2, fun _ _ => rfl, ?_⟩
            by_cases c1 : mid < e
            · have : e = b := by omega
              have e0 : seg d e b = [] := seg_nil _ (by omega)
              rw [e0, mrg_nil_of_srt u2, ← pm, this]
            · have : mid = e := by omega
              rw [seg_nil d (show m ≤ s by omega), this, pe]; rfl
        obtain ⟨d3, hd3, z3, o3, w2⟩ := hq
        rw [hd3]
        refine ⟨z3, fun t ht => ?_, ?_⟩
        · rw [o3 t (by omega), o2 t (by omega), o1 t (by omega)]
        · rw [seg_append d3 (show a ≤ mid by omega) (show mid ≤ b by omega), w2, seg_same (d := d2) (d' := d3) (fun t t1 t2 => o3 t (by omega)), w1]
          rw [seg_append d as sm, seg_append d me eb]
          refine (mrg_split ?_ ?_ u3).symm
          · intro x hx y hy
            obtain ⟨t, t1, t2, rfl⟩ := mem_seg.1 hx
            obtain ⟨t', t1', t2', rfl⟩ := mem_seg.1 hy
            -- what stands from s on is more than what stands ahead of e
            have k1 : lt d[e - 1]! d[s]! = true := by
              have := q4 s (Nat.le_refl _) (by omega)
              rw [show mid + m - 1 - s = e - 1 by omega] at this
              simpa using this
            have k2 : t' = e - 1 ∨ lt d[e - 1]! d[t']! = false := by
              by_cases c : t' = e - 1
              · exact .inl c
              · exact .inr (srt_seg.1 sv t' (e - 1) t1' (by omega) (by omega))
            have k3 : t = s ∨ lt d[t]! d[s]! = false := by
              by_cases c : t = s
              · exact .inl c
              · exact .inr (srt_seg.1 su s t (by omega) (by omega) (by omega))
            have k4 : lt d[t']! d[s]! = true := by
              rcases k2 with rfl | k2
              · exact k1
              · cases hc : lt d[t']! d[s]! with
                | true => rfl
                | false => rw [h.neg _ _ _ k2 hc] at k1; cases k1
            rcases k3 with rfl | k3
            · exact k4
            · cases hc : lt d[t']! d[t]! with
              | true => rfl
              | false => rw [h.neg _ _ _ hc k3] at k4; cases k4
          · intro x hx y hy
            obtain ⟨t, t1, t2, rfl⟩ := mem_seg.1 hx
            obtain ⟨t', t1', t2', rfl⟩ := mem_seg.1 hy
            by_cases hss : s0 < s
            · have k1 : lt d[e]! d[s - 1]! = false := by
                have := q3 (s - 1) (by omega) (by omega)
                rw [show mid + m - 1 - (s - 1) = e by omega] at this
                simpa using this
              have k2 : lt d[t']! d[s - 1]! = false := by
                by_cases c : t' = e
                · rw [c]; exact k1
                · exact h.neg _ _ _ (srt_seg.1 sv e t' (by omega) (by omega) (by omega)) k1
              by_cases c : t = s - 1
              · rw [c]; exact k2
              · exact h.neg _ _ _ k2 (srt_seg.1 su t (s - 1) (by omega) (by omega) (by omega))
            · -- nothing stands ahead of s, or nothing from e on
              omega


/-! ### The insertion sort -/
theorem insInner_mrg {lt : α → α → Bool} (h : Ord lt) (a : Nat) : ∀ (j : Nat) (d : Array α), a ≤ j → j < d.size → Srt lt (seg d a j) →
    (insInner lt a j d).size = d.size ∧ (∀ t, t < a ∨ j < t → (insInner lt a j d)[t]! = d[t]!) ∧ seg (insInner lt a j d) a (j + 1) = mrg lt (seg d a j) [d[j]!]
  | 0, d, h1, h2, hs => by
    have : a = 0 := by omega
    subst this
    refine ⟨rfl, fun _ _ => rfl, ?_⟩
    rw [seg_nil d (Nat.le_refl 0), seg_one]; rfl
  | j + 1, d, h1, h2, hs => by
    unfold insInner
    by_cases c : a < j + 1
    · cases hl : lt d[j + 1]! d[j]! with
      | true =>
        rw [if_pos (by simp [c])]
        rw [seg_snoc d (show a ≤ j by omega)] at hs
        obtain ⟨s1, s2, s3⟩ := List.pairwise_append.1 hs
        have hz := size_swp d (j + 1) j
        have gt := fun k => swp_get d (i := j + 1) (j := j) (by omega) (by omega) k
        have e1 : seg (swp d (j + 1) j) a j = seg d a j := seg_same fun t t1 t2 => by rw [gt, if_neg (by omega), if_neg (by omega)]
        obtain ⟨i1, i2, i3⟩ := insInner_mrg h a j (swp d (j + 1) j) (by omega) (by omega) (by rw [e1]; exact s1)
        refine ⟨by rw [i1, hz], fun t ht => by rw [i2 t (by omega), gt, if_neg (by omega), if_neg (by omega)], ?_⟩
        have ej : (swp d (j + 1) j)[j]! = d[j + 1]! := by rw [gt, if_pos rfl]
        have ek : (swp d (j + 1) j)[j + 1]! = d[j]! := by rw [gt, if_neg (by omega), if_pos rfl]
        rw [seg_snoc _ (show a ≤ j + 1 by omega), i3, i2 (j + 1) (by omega), ej, ek, e1, seg_snoc d (show a ≤ j by omega)]
        have y := mrg_split (lt := lt) (a1 := seg d a j) (a2 := [d[j]!]) (b1 := [d[j + 1]!]) (b2 := []) (fun x hx y hy => by simp at hx hy; subst hx; subst hy; exact hl) (fun x _ y hy => by simp at hy) s3
        simp only [List.append_nil] at y
        rw [y]; rfl
      | false =>
        rw [if_neg (by simp)]
        refine ⟨rfl, fun _ _ => rfl, ?_⟩
        have y := mrg_split (lt := lt) (a1 := seg d a (j + 1)) (a2 := []) (b1 := []) (b2 := [d[j + 1]!]) (fun x hx => by simp at hx) (fun x hx y hy => by
          obtain ⟨t, t1, t2, rfl⟩ := mem_seg.1 hx
          simp at hy; subst hy
          by_cases e : t = j
          · rw [e]; exact hl
          · exact h.neg _ _ _ hl (srt_seg.1 hs t j t1 (by omega) (by omega))) (fun x _ y hy => by simp at hy)
        simp only [List.append_nil, List.nil_append] at y
        rw [y, mrg_nil_of_srt hs, seg_snoc d (show a ≤ j + 1 by omega)]; rfl
    · rw [if_neg (by simp; omega)]
      have : a = j + 1 := by omega
      subst this
      refine ⟨rfl, fun _ _ => rfl, ?_⟩
      rw [seg_nil d (Nat.le_refl _), seg_one]; rfl

structure Srtd (lt : α → α → Bool) (d : Array α) (a b : Nat) (d' : Array α) : Prop where
  size : d'.size = d.size
  out : ∀ t, t < a ∨ b ≤ t → d'[t]! = d[t]!
  seg : seg d' a b = isort lt (seg d a b)

theorem insOuter_srt {lt : α → α → Bool} (h : Ord lt) (d0 : Array α) (a b : Nat) (hb : b ≤ d0.size) : ∀ (n i : Nat) (d : Array α), b - i ≤ n → a < i → i ≤ b → Srtd lt d0 a i d → Srtd lt d0 a b (insOuter lt a b i d)
  | 0, i, d, h1, h2, h3, hd => by
    have : i = b := by omega
    subst this
    rw [insOuter, if_neg (by omega)]; exact hd
  | n + 1, i, d, h1, h2, h3, hd => by
    rw [insOuter]
    by_cases c : i < b
    · rw [if_pos c]
      obtain ⟨j1, j2, j3⟩ := insInner_mrg h a i d (by omega) (by rw [hd.size]; omega) (by rw [hd.seg]; exact isort_srt h _)
      refine insOuter_srt h d0 a b hb n (i + 1) _ (by omega) (by omega) (by omega) ⟨by rw [j1, hd.size], fun t ht => by rw [j2 t (by omega), hd.out t (by omega)], ?_⟩
      rw [j3, hd.seg, hd.out i (by omega), seg_snoc d0 (show a ≤ i by omega), isort_append h]; rfl
    · rw [if_neg c]
      have : i = b := by omega
      subst this; exact hd

theorem insertionSort_srt {lt : α → α → Bool} (h : Ord lt) (d : Array α) {a b : Nat} (hab : a ≤ b) (hb : b ≤ d.size) : Srtd lt d a b (insertionSort lt d a b) := by
  unfold insertionSort
  by_cases c : a < b
  · exact insOuter_srt h d a b hb (b - (a + 1)) (a + 1) d (Nat.le_refl _) (by omega) (by omega) ⟨rfl, fun _ _ => rfl, by rw [seg_one]; rfl⟩
  · rw [insOuter, if_neg (by omega)]
    have : a = b := by omega
    subst this
    exact ⟨rfl, fun _ _ => rfl, by rw [seg_nil d (Nat.le_refl _)]; rfl⟩

theorem insertionSort_size (lt : α → α → Bool) (d : Array α) (a b : Nat) : (insertionSort lt d a b).size = d.size := by
  have inner : ∀ (a j : Nat) (d : Array α), (insInner lt a j d).size = d.size := by
    intro a j
    induction j with
    | zero => intro d; rfl
    | succ j ih => intro d; unfold insInner; split
                   · rw [ih, size_swp]
                   · rfl
  have outer : ∀ (n a b i : Nat) (d : Array α), b - i ≤ n → (insOuter lt a b i d).size = d.size := by
    intro n
    induction n with
    | zero => intro a b i d h; rw [insOuter, if_neg (by omega)]
    | succ n ih => intro a b i d h; rw [insOuter]; split
                   · rw [ih _ _ _ _ (by omega), inner]
                   · rfl
  exact outer _ _ _ _ _ (Nat.le_refl _)

theorem symM_size (lt : α → α → Bool) : ∀ (f : Nat) (d : Array α) (a m b : Nat), (symM lt f d a m b).size = d.size
  | 0, d, _, _, _ => rfl
  | f + 1, d, a, m, b => by
    unfold symM
    split
    · exact upR_size ..
    · split
      · exact dnR_size ..
      · dsimp only
        have e1 : ∀ (x y : Nat) (c : Prop) [Decidable c] (d : Array α), (if c then rot d x m y else d).size = d.size := fun x y c _ d => by split <;> first | rfl | exact rot_size ..
        have e2 : ∀ (x y z : Nat) (c : Prop) [Decidable c] (d : Array α), (if c then symM lt f d x y z else d).size = d.size := fun x y z c _ d => by split <;> first | rfl | exact symM_size lt f ..
        rw [e2, e2, e1]

/-! ### All of it -/
def stB (lt : α → α → Bool) (n : Nat) : Nat → Nat → Array α → Array α
  | 0, a, d => insertionSort lt d a n
  | f + 1, a, d => if a + 20 ≤ n then stB lt n f (a + 20) (insertionSort lt d a (a + 20)) else insertionSort lt d a n
def stP (lt : α → α → Bool) (bs n : Nat) : Nat → Nat → Array α → Array α
  | 0, _, d => d
  | f + 1, a, d => if a + 2 * bs ≤ n then stP lt bs n f (a + 2 * bs) (symM lt (2 * bs) d a (a + bs) (a + 2 * bs)) else if a + bs < n then symM lt (n - a) d a (a + bs) n else d
def stO (lt : α → α → Bool) (n : Nat) : Nat → Nat → Array α → Array α
  | 0, _, d => d
  | f + 1, bs, d => if bs < n then stO lt n f (2 * bs) (stP lt bs n n 0 d) else d
def stable (lt : α → α → Bool) (d : Array α) (n : Nat) : Array α := stO lt n n 20 (stB lt n n 0 d)

theorem stB_size (lt : α → α → Bool) (n : Nat) : ∀ (f a : Nat) (d : Array α), (stB lt n f a d).size = d.size
  | 0, a, d => insertionSort_size ..
  | f + 1, a, d => by
    unfold stB; split
    · rw [stB_size, insertionSort_size]
    · rw [insertionSort_size]
theorem stP_size (lt : α → α → Bool) (bs n : Nat) : ∀ (f a : Nat) (d : Array α), (stP lt bs n f a d).size = d.size
  | 0, a, d => rfl
  | f + 1, a, d => by
    unfold stP; split
    · rw [stP_size, symM_size]
    · split
      · rw [symM_size]
      · rfl

/-- Each whole block from 0 on, and the rest, is sorted. -/
structure Blks (lt : α → α → Bool) (d0 : Array α) (bs n : Nat) (d : Array α) : Prop where
  size : d.size = d0.size
  blk : ∀ k, k * bs < n → seg d (k * bs) (min (k * bs + bs) n) = isort lt (seg d0 (k * bs) (min (k * bs + bs) n))

theorem stB_blks {lt : α → α → Bool} (h : Ord lt) (d0 : Array α) (n : Nat) (hn : n ≤ d0.size) : ∀ (f k : Nat) (d : Array α), n - k * 20 ≤ f → k * 20 ≤ n → d.size = d0.size → (∀ t, k * 20 ≤ t → d[t]! = d0[t]!) →
    (∀ j, j < k → seg d (j * 20) (j * 20 + 20) = isort lt (seg d0 (j * 20) (j * 20 + 20))) → Blks lt d0 20 n (stB lt n f (k * 20) d) := by
  have fin : ∀ (k : Nat) (d : Array α), n < k * 20 + 20 → k * 20 ≤ n → d.size = d0.size → (∀ t, k * 20 ≤ t → d[t]! = d0[t]!) →
    (∀ j, j < k → seg d (j * 20) (j * 20 + 20) = isort lt (seg d0 (j * 20) (j * 20 + 20))) → Blks lt d0 20 n (insertionSort lt d (k * 20) n) := by
    intro k d h0 h1 h2 h3 h4
    have hi := insertionSort_srt h d h1 (by omega)
    refine ⟨by rw [hi.size, h2], fun j hj => ?_⟩
    by_cases c : j < k
    · rw [show min (j * 20 + 20) n = j * 20 + 20 by omega, ← h4 j c]
      exact seg_same fun t t1 t2 => hi.out t (by omega)
    · have : j = k := by omega
      subst this
      rw [show min (j * 20 + 20) n = n by omega, hi.seg]
      rw [seg_same (d := d0) (d' := d) fun t t1 t2 => h3 t t1]
  intro f
  induction f with
  | zero => intro k d h0 h1 h2 h3 h4; exact fin k d (by omega) h1 h2 h3 h4
  | succ f ih =>
    intro k d h0 h1 h2 h3 h4
    unfold stB
    by_cases c : k * 20 + 20 ≤ n
    · rw [if_pos c]
      have hi := insertionSort_srt h d (show k * 20 ≤ k * 20 + 20 by omega) (by omega)
      have := ih (k + 1) (insertionSort lt d (k * 20) (k * 20 + 20)) (by omega) (by omega) (by rw [hi.size, h2]) (fun t ht => by rw [hi.out t (by omega), h3 t (by omega)]) (fun j hj => by
        by_cases e : j < k
        · rw [← h4 j e]; exact seg_same fun t t1 t2 => hi.out t (by omega)
        · have : j = k := by omega
          subst this
          rw [hi.seg, seg_same (d := d0) (d' := d) fun t t1 t2 => h3 t t1])
      rwa [show (k + 1) * 20 = k * 20 + 20 by omega] at this
    · rw [if_neg c]; exact fin k d (by omega) h1 h2 h3 h4

theorem stP_blks {lt : α → α → Bool} (h : Ord lt) (d0 : Array α) (bs n : Nat) (hbs : 0 < bs) (hn : n ≤ d0.size) (ds : Array α) (hs : Blks lt d0 bs n ds) : ∀ (f k : Nat) (d : Array α), n - k * (2 * bs) ≤ f → k * (2 * bs) ≤ n → d.size = d0.size → (∀ t, k * (2 * bs) ≤ t → d[t]! = ds[t]!) →
    (∀ j, j < k → seg d (j * (2 * bs)) (j * (2 * bs) + 2 * bs) = isort lt (seg d0 (j * (2 * bs)) (j * (2 * bs) + 2 * bs))) → Blks lt d0 (2 * bs) n (stP lt bs n f (k * (2 * bs)) d) := by
  -- two blocks, merged
  have two : ∀ (k : Nat) (d : Array α) (e f : Nat), d.size = d0.size → (∀ t, k * (2 * bs) ≤ t → d[t]! = ds[t]!) → k * (2 * bs) + bs < e → e = min (k * (2 * bs) + 2 * bs) n → e - k * (2 * bs) ≤ f →
      Srtd lt d0 (k * (2 * bs)) e (symM lt f d (k * (2 * bs)) (k * (2 * bs) + bs) e) ∨ True := fun _ _ _ _ _ _ _ _ _ => .inr trivial
  clear two
  have two : ∀ (k : Nat) (d : Array α) (e f : Nat), d.size = d0.size → (∀ t, k * (2 * bs) ≤ t → d[t]! = ds[t]!) → k * (2 * bs) + bs < e → e = min (k * (2 * bs) + 2 * bs) n → e - k * (2 * bs) ≤ f →
      (symM lt f d (k * (2 * bs)) (k * (2 * bs) + bs) e).size = d0.size ∧ (∀ t, t < k * (2 * bs) ∨ e ≤ t → (symM lt f d (k * (2 * bs)) (k * (2 * bs) + bs) e)[t]! = d[t]!) ∧
      seg (symM lt f d (k * (2 * bs)) (k * (2 * bs) + bs) e) (k * (2 * bs)) e = isort lt (seg d0 (k * (2 * bs)) e) := by
    intro k d e f h1 h2 h3 h4 h5
    have e2 : 2 * k * bs = k * (2 * bs) := by rw [Nat.mul_comm 2 k, Nat.mul_assoc]
    have e3 : (2 * k + 1) * bs = k * (2 * bs) + bs := by rw [Nat.add_mul, e2, Nat.one_mul]
    have b1 := hs.blk (2 * k) (by omega)
    have b2 := hs.blk (2 * k + 1) (by omega)
    rw [e2, show min (k * (2 * bs) + bs) n = k * (2 * bs) + bs by omega] at b1
    rw [e3, show min (k * (2 * bs) + bs + bs) n = e by omega] at b2
    have c1 : seg d (k * (2 * bs)) (k * (2 * bs) + bs) = isort lt (seg d0 (k * (2 * bs)) (k * (2 * bs) + bs)) := by rw [← b1]; exact seg_same fun t t1 t2 => h2 t (by omega)
    have c2 : seg d (k * (2 * bs) + bs) e = isort lt (seg d0 (k * (2 * bs) + bs) e) := by rw [← b2]; exact seg_same fun t t1 t2 => h2 t (by omega)
    have hm := symM_spec h f d (k * (2 * bs)) (k * (2 * bs) + bs) e h5 (by omega) h3 (by omega) (by rw [c1]; exact isort_srt h _) (by rw [c2]; exact isort_srt h _)
    refine ⟨by rw [hm.size, h1], hm.out, ?_⟩
    rw [hm.seg, c1, c2, ← isort_append h, ← seg_append d0 (by omega) (by omega)]
  have fin : ∀ (k : Nat) (d : Array α), n < k * (2 * bs) + 2 * bs → k * (2 * bs) ≤ n → d.size = d0.size → (∀ t, k * (2 * bs) ≤ t → d[t]! = ds[t]!) →
    (∀ j, j < k → seg d (j * (2 * bs)) (j * (2 * bs) + 2 * bs) = isort lt (seg d0 (j * (2 * bs)) (j * (2 * bs) + 2 * bs))) → Blks lt d0 (2 * bs) n (if k * (2 * bs) + bs < n then symM lt (n - k * (2 * bs)) d (k * (2 * bs)) (k * (2 * bs) + bs) n else d) := by
    intro k d h0 h1 h2 h3 h4
    have early : ∀ j, j < k → j * (2 * bs) + 2 * bs ≤ k * (2 * bs) := fun j hj => by
      have := Nat.mul_le_mul_right (2 * bs) (show j + 1 ≤ k by omega); rwa [Nat.add_mul, Nat.one_mul] at this
    have late : ∀ j, ¬ j < k → j * (2 * bs) < n → j = k := fun j hj hl => by
      rcases Nat.lt_or_ge k j with c | c
      · have := Nat.mul_le_mul_right (2 * bs) (show k + 1 ≤ j by omega); rw [Nat.add_mul, Nat.one_mul] at this; omega
      · omega
    by_cases c : k * (2 * bs) + bs < n
    · rw [if_pos c]
      obtain ⟨t1, t2, t3⟩ := two k d n (n - k * (2 * bs)) h2 h3 c (by omega) (Nat.le_refl _)
      refine ⟨t1, fun j hj => ?_⟩
      by_cases e : j < k
      · have := early j e
        rw [show min (j * (2 * bs) + 2 * bs) n = j * (2 * bs) + 2 * bs by omega, ← h4 j e]
        exact seg_same fun t _ _ => t2 t (by omega)
      · have := late j e hj; subst this
        rw [show min (j * (2 * bs) + 2 * bs) n = n by omega]; exact t3
    · rw [if_neg c]
      refine ⟨h2, fun j hj => ?_⟩
      by_cases e : j < k
      · have := early j e
        rw [show min (j * (2 * bs) + 2 * bs) n = j * (2 * bs) + 2 * bs by omega, ← h4 j e]
      · have := late j e hj; subst this
        have e2 : 2 * j * bs = j * (2 * bs) := by rw [Nat.mul_comm 2 j, Nat.mul_assoc]
        have b1 := hs.blk (2 * j) (by omega)
        rw [e2, show min (j * (2 * bs) + bs) n = n by omega] at b1
        rw [show min (j * (2 * bs) + 2 * bs) n = n by omega, ← b1]
        exact seg_same fun t t1 t2 => h3 t (by omega)
  intro f
  induction f with
  | zero =>
    intro k d h0 h1 h2 h3 h4
    have := fin k d (by omega) h1 h2 h3 h4
    rwa [if_neg (by omega)] at this
  | succ f ih =>
    intro k d h0 h1 h2 h3 h4
    unfold stP
    by_cases c : k * (2 * bs) + 2 * bs ≤ n
    · rw [if_pos c]
      obtain ⟨t1, t2, t3⟩ := two k d (k * (2 * bs) + 2 * bs) (2 * bs) h2 h3 (by omega) (by omega) (by omega)
      have e1 : (k + 1) * (2 * bs) = k * (2 * bs) + 2 * bs := by rw [Nat.add_mul, Nat.one_mul]
      have := ih (k + 1) (symM lt (2 * bs) d (k * (2 * bs)) (k * (2 * bs) + bs) (k * (2 * bs) + 2 * bs)) (by omega) (by omega) t1 (fun t ht => by rw [t2 t (by omega), h3 t (by omega)]) (fun j hj => by
        by_cases e : j < k
        · rw [← h4 j e]
          have := Nat.mul_le_mul_right (2 * bs) (show j + 1 ≤ k by omega); rw [Nat.add_mul, Nat.one_mul] at this
          exact seg_same fun t _ _ => t2 t (by omega)
        · have : j = k := by omega
          subst this; exact t3)
      rwa [e1] at this
    · rw [if_neg c]; exact fin k d (by omega) h1 h2 h3 h4

theorem stO_blks {lt : α → α → Bool} (h : Ord lt) (d0 : Array α) (n : Nat) (hn : n ≤ d0.size) : ∀ (f bs : Nat) (d : Array α), 0 < bs → n - bs ≤ f → Blks lt d0 bs n d → seg (stO lt n f bs d) 0 n = isort lt (seg d0 0 n) ∧ (stO lt n f bs d).size = d0.size := by
  have fin : ∀ (bs : Nat) (d : Array α), ¬ bs < n → Blks lt d0 bs n d → seg d 0 n = isort lt (seg d0 0 n) ∧ d.size = d0.size := by
    intro bs d c hd
    refine ⟨?_, hd.size⟩
    by_cases e : n = 0
    · subst e; rw [seg_nil _ (Nat.le_refl _), seg_nil _ (Nat.le_refl _)]; rfl
    · have := hd.blk 0 (by omega)
      rwa [show min (0 * bs + bs) n = n by omega, Nat.zero_mul] at this
  intro f
  induction f with
  | zero => intro bs d h0 h1 hd; exact fin bs d (by omega) hd
  | succ f ih =>
    intro bs d h0 h1 hd
    unfold stO
    by_cases c : bs < n
    · rw [if_pos c]
      have := stP_blks h d0 bs n h0 hn d hd n 0 d (by omega) (by omega) hd.size (fun _ _ => rfl) (fun j hj => by omega)
      rw [Nat.zero_mul] at this
      exact ih (2 * bs) _ (by omega) (by omega) this
    · rw [if_neg c]; exact fin bs d c hd

/-- ALL OF IT: the stable sort of the list. -/
theorem stable_list {lt : α → α → Bool} (h : Ord lt) (d : Array α) : (stable lt d d.size).toList = isort lt d.toList := by
  have b := stB_blks h d d.size (Nat.le_refl _) d.size 0 d (by omega) (by omega) rfl (fun _ _ => rfl) (fun j hj => by omega)
  rw [Nat.zero_mul] at b
  obtain ⟨o1, o2⟩ := stO_blks h d d.size (Nat.le_refl _) d.size 20 _ (by omega) (by omega) b
  show (stO lt d.size d.size 20 (stB lt d.size d.size 0 d)).toList = _
  rw [← seg_all, o2, o1, seg_all]
theorem stable_size (lt : α → α → Bool) (d : Array α) (n : Nat) : (stable lt d n).size = d.size := by
  have : ∀ (f bs : Nat) (d : Array α), (stO lt n f bs d).size = d.size := by
    intro f
    induction f with
    | zero => intro bs d; rfl
    | succ f ih => intro bs d; unfold stO; split
                   · rw [ih, stP_size]
                   · rfl
  unfold stable; rw [this, stB_size]

end
end Go.V
