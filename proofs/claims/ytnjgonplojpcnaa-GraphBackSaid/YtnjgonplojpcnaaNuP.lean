/- Networks: the parts, in plain Lean: who stands for a stop, and the least that spreads. -/
import Derived.Test.YtnjgonplojpcnaaNeP
namespace Go.V

/-- There is a way. -/
def Con (L : List Lnk) (u v : Nat) : Prop := ∃ d, Wlk L (u : Int) (v : Int) d
theorem Con.refl (L : List Lnk) (u : Nat) : Con L u u := ⟨0, .nil⟩
theorem Con.symm {L : List Lnk} {u v : Nat} (h : Con L u v) : Con L v u := by
  obtain ⟨d, h⟩ := h
  exact ⟨d, h.symm⟩
theorem Con.trans {L : List Lnk} {u v x : Nat} (h : Con L u v) (g : Con L v x) : Con L u x := by
  obtain ⟨d, h⟩ := h
  obtain ⟨e, g⟩ := g
  exact ⟨_, h.trans g⟩
theorem Edge.mono {L M : List Lnk} (h : ∀ l ∈ L, l ∈ M) {u v w : Int} (he : Edge L u v w) : Edge M u v w := by
  obtain ⟨l, h1, h2⟩ := he
  exact ⟨l, h l h1, h2⟩
theorem Wlk.mono {L M : List Lnk} (h : ∀ l ∈ L, l ∈ M) {a v d : Int} (hw : Wlk L a v d) : Wlk M a v d := by
  induction hw with
  | nil => exact .nil
  | cons _ he ih => exact .cons ih (he.mono h)
theorem Con.mono {L M : List Lnk} (h : ∀ l ∈ L, l ∈ M) {u v : Nat} (hc : Con L u v) : Con M u v := by
  obtain ⟨d, hc⟩ := hc
  exact ⟨d, hc.mono h⟩
theorem Con.link {L : List Lnk} {k : Nat} (hL : LinksOk L k) {l : Lnk} (hl : l ∈ L) : Con L l.a.toNat l.b.toNat := by
  have h := hL l hl
  refine ⟨l.w, ?_⟩
  rw [Int.toNat_of_nonneg (by omega), Int.toNat_of_nonneg (by omega)]
  exact Wlk.one ⟨l, hl, .inl ⟨rfl, rfl⟩, rfl⟩
/-- The least one that a stop is joined with. -/
def Lst (L : List Lnk) (v m : Nat) : Prop := Con L v m ∧ ∀ u, Con L v u → m ≤ u
theorem Lst.uniq {L : List Lnk} {v m m' : Nat} (h : Lst L v m) (h' : Lst L v m') : m = m' := by
  have := h.2 _ h'.1
  have := h'.2 _ h.1
  omega
theorem Lst.of {L : List Lnk} {v m u : Nat} (h : Lst L v m) (hc : Con L v u) : Lst L u m := ⟨hc.symm.trans h.1, fun x hx => h.2 x (hc.trans hx)⟩

def upd (p : Nat → Nat) (i x : Nat) : Nat → Nat := fun v => if v = i then x else p v
theorem upd_same (p : Nat → Nat) (i x : Nat) : upd p i x i = x := if_pos rfl
theorem upd_other (p : Nat → Nat) {i v : Nat} (x : Nat) (h : v ≠ i) : upd p i x v = p v := if_neg h
/-- Who stands for whom: p is who is asked next, R is who stands at the end. -/
structure UF (L : List Lnk) (k : Nat) (p R : Nat → Nat) : Prop where
  le : ∀ v, p v ≤ v
  rp : ∀ v, R (p v) = R v
  fix : ∀ v, p v = v → R v = v
  lnk : ∀ l ∈ L, R l.a.toNat = R l.b.toNat
  con : ∀ v, Con L v (R v)
section
variable {L : List Lnk} {k : Nat} {p R : Nat → Nat}
theorem UF.small (h : UF L k p R) : ∀ v, R v ≤ v ∧ R (R v) = R v := by
  intro v
  induction v using Nat.strongRecOn with
  | ind v ih =>
    by_cases e : p v = v
    · have := h.fix v e
      rw [this]; exact ⟨Nat.le_refl _, this⟩
    · have h1 := h.le v
      have h2 := ih (p v) (by omega)
      rw [h.rp v] at h2
      exact ⟨by omega, h2.2⟩
theorem UF.begin (k : Nat) : UF [] k id id := ⟨fun _ => Nat.le_refl _, fun _ => rfl, fun _ _ => rfl, fun l hl => by simp at hl, fun v => Con.refl _ _⟩
theorem UF.halve (h : UF L k p R) {i : Nat} (hi : p i ≠ i) : UF L k (upd p i (p (p i))) R := by
  have h1 := h.le i
  have h2 := h.le (p i)
  refine ⟨fun v => ?_, fun v => ?_, fun v hv => ?_, h.lnk, h.con⟩
  · by_cases e : v = i
    · subst e; rw [upd_same]; omega
    · rw [upd_other _ _ e]; exact h.le v
  · by_cases e : v = i
    · subst e; rw [upd_same, h.rp, h.rp]
    · rw [upd_other _ _ e]; exact h.rp v
  · by_cases e : v = i
    · subst e; rw [upd_same] at hv; omega
    · rw [upd_other _ _ e] at hv; exact h.fix v hv
theorem UF.flat (h : UF L k p R) (i : Nat) : UF L k (upd p i (R i)) R := by
  have h1 := h.small i
  refine ⟨fun v => ?_, fun v => ?_, fun v hv => ?_, h.lnk, h.con⟩
  · by_cases e : v = i
    · subst e; rw [upd_same]; exact h1.1
    · rw [upd_other _ _ e]; exact h.le v
  · by_cases e : v = i
    · subst e; rw [upd_same]; exact h1.2
    · rw [upd_other _ _ e]; exact h.rp v
  · by_cases e : v = i
    · subst e; rw [upd_same] at hv; exact hv
    · rw [upd_other _ _ e] at hv; exact h.fix v hv
/-- All up to a stop stand at their end. -/
def Flat (p R : Nat → Nat) (j : Nat) : Prop := ∀ u, u < j → p u = R u
theorem Flat.halve {j i : Nat} (h : UF L k p R) (hf : Flat p R j) : Flat (upd p i (p (p i))) R j := by
  intro u hu
  by_cases e : u = i
  · subst e
    have h1 := h.small u
    rw [upd_same, hf u hu, hf (R u) (by omega), h1.2]
  · rw [upd_other _ _ e]; exact hf u hu
theorem Flat.flat {j : Nat} (hf : Flat p R j) : Flat (upd p j (R j)) R (j + 1) := by
  intro u hu
  by_cases e : u = j
  · subst e; rw [upd_same]
  · rw [upd_other _ _ e]; exact hf u (by omega)
def joinR (R : Nat → Nat) (a b : Nat) : Nat → Nat := fun v => if R v = max a b then min a b else R v
theorem UF.join (h : UF L k p R) {l : Lnk} (hl : 0 ≤ l.a ∧ 0 ≤ l.b) {a b : Nat} (ha : R l.a.toNat = a) (hb : R l.b.toNat = b) (ha' : p a = a) (hb' : p b = b) : UF (L ++ [l]) k (upd p (max a b) (min a b)) (joinR R a b) := by
  have ra := h.fix a ha'
  have rb := h.fix b hb'
  have hm : R (max a b) = max a b := by rcases Nat.le_total a b with e | e <;> simp [Nat.max_eq_right, Nat.max_eq_left, e, ra, rb]
  have hn : R (min a b) = min a b := by rcases Nat.le_total a b with e | e <;> simp [Nat.min_eq_right, Nat.min_eq_left, e, ra, rb]
  have hle : min a b ≤ max a b := by omega
  have hmono : ∀ x ∈ L, x ∈ L ++ [l] := fun x hx => List.mem_append_left _ hx
  have jn : joinR R a b (min a b) = min a b := by unfold joinR; split <;> first | rfl | exact hn
  have jm : joinR R a b (max a b) = min a b := by unfold joinR; rw [if_pos hm]
  refine ⟨fun v => ?_, fun v => ?_, fun v hv => ?_, fun x hx => ?_, fun v => ?_⟩
  · by_cases e : v = max a b
    · subst e; rw [upd_same]; exact hle
    · rw [upd_other _ _ e]; exact h.le v
  · by_cases e : v = max a b
    · subst e; rw [upd_same, jn, jm]
    · rw [upd_other _ _ e]; unfold joinR; rw [h.rp]
  · by_cases e : v = max a b
    · subst e; rw [upd_same] at hv; rw [jm]; exact hv
    · rw [upd_other _ _ e] at hv
      have := h.fix v hv
      unfold joinR; rw [this, if_neg e]
  · rcases List.mem_append.1 hx with hx | hx
    · unfold joinR; rw [h.lnk x hx]
    · rw [List.mem_singleton] at hx
      subst hx
      unfold joinR
      rw [ha, hb]
      rcases Nat.le_total a b with e | e
      · rw [Nat.max_eq_right e, Nat.min_eq_left e, if_pos rfl]; split <;> rfl
      · rw [Nat.max_eq_left e, Nat.min_eq_right e, if_pos rfl]; split <;> rfl
  · have hv := (h.con v).mono hmono
    unfold joinR
    split
    · next e =>
      rw [e] at hv
      refine hv.trans ?_
      have c1 : Con (L ++ [l]) a b := by
        have e1 := (h.con l.a.toNat).mono hmono
        have e2 := (h.con l.b.toNat).mono hmono
        rw [ha] at e1
        rw [hb] at e2
        refine (e1.symm.trans ⟨l.w, ?_⟩).trans e2
        rw [Int.toNat_of_nonneg hl.1, Int.toNat_of_nonneg hl.2]
        exact Wlk.one ⟨l, List.mem_append_right _ (List.mem_singleton.2 rfl), .inl ⟨rfl, rfl⟩, rfl⟩
      rcases Nat.le_total a b with e | e
      · rw [Nat.max_eq_right e, Nat.min_eq_left e]; exact c1.symm
      · rw [Nat.max_eq_left e, Nat.min_eq_right e]; exact c1
    · exact hv
theorem UF.least (h : UF L k p R) (v : Nat) : Lst L v (R v) := by
  refine ⟨h.con v, fun u hu => ?_⟩
  have key : ∀ x d, Wlk L (v : Int) x d → R x.toNat = R v := by
    intro x d hw
    induction hw with
    | nil => rfl
    | cons _ he ih =>
      rw [← ih]
      obtain ⟨l, h1, h2, -⟩ := he
      have := h.lnk l h1
      rcases h2 with ⟨e1, e2⟩ | ⟨e1, e2⟩
      · rw [← e1, ← e2, this]
      · rw [← e1, ← e2, this]
  obtain ⟨d, hd⟩ := hu
  have e := key _ _ hd
  have := (h.small u).1
  rw [Int.toNat_natCast] at e
  omega

/-! ### The least one that spreads -/
def sprd (q : Nat → Nat) (l : Lnk) : Nat → Nat := fun v => if v = l.a.toNat ∨ v = l.b.toNat then min (q l.a.toNat) (q l.b.toNat) else q v
def sprdN (L : List Lnk) (q : Nat → Nat) : Nat → Nat → Nat
  | 0 => q
  | n + 1 => L.foldl sprd (sprdN L q n)
theorem sprd_le (q : Nat → Nat) (l : Lnk) (v : Nat) : sprd q l v ≤ q v := by
  unfold sprd
  split
  · next e => rcases e with rfl | rfl <;> omega
  · exact Nat.le_refl _
theorem fold_sprd_le : ∀ (M : List Lnk) (q : Nat → Nat) (v : Nat), M.foldl sprd q v ≤ q v
  | [], _, _ => Nat.le_refl _
  | l :: M, q, v => Nat.le_trans (fold_sprd_le M (sprd q l) v) (sprd_le q l v)
theorem sprd_con (hL : LinksOk L k) {q : Nat → Nat} {l : Lnk} (hl : l ∈ L) (hq : ∀ v, Con L v (q v)) : ∀ v, Con L v (sprd q l v) := by
  intro v
  have hc := Con.link hL hl
  unfold sprd
  split
  · next e =>
    have h1 : Con L v (q l.a.toNat) := by
      rcases e with rfl | rfl
      · exact hq _
      · exact hc.symm.trans (hq _)
    have h2 : Con L v (q l.b.toNat) := by
      rcases e with rfl | rfl
      · exact hc.trans (hq _)
      · exact hq _
    rcases Nat.le_total (q l.a.toNat) (q l.b.toNat) with e | e
    · rw [Nat.min_eq_left e]; exact h1
    · rw [Nat.min_eq_right e]; exact h2
  · exact hq v
theorem fold_sprd_con (hL : LinksOk L k) : ∀ (M : List Lnk) (q : Nat → Nat), (∀ l ∈ M, l ∈ L) → (∀ v, Con L v (q v)) → ∀ v, Con L v (M.foldl sprd q v)
  | [], _, _, hq => hq
  | l :: M, q, hM, hq => fold_sprd_con hL M (sprd q l) (fun x hx => hM x (List.mem_cons_of_mem _ hx)) (sprd_con hL (hM l List.mem_cons_self) hq)
theorem sprdN_con (hL : LinksOk L k) {q : Nat → Nat} (hq : ∀ v, Con L v (q v)) : ∀ n v, Con L v (sprdN L q n v)
  | 0 => hq
  | n + 1 => fold_sprd_con hL L _ (fun _ h => h) (sprdN_con hL hq n)
theorem sprdN_le (q : Nat → Nat) : ∀ n v, sprdN L q n v ≤ q v
  | 0, _ => Nat.le_refl _
  | n + 1, v => Nat.le_trans (fold_sprd_le L _ v) (sprdN_le q n v)
/-- What a link's one end has reaches the other one. -/
theorem fold_sprd_hit {m u v : Nat} : ∀ (M : List Lnk) (q : Nat → Nat), (∃ l ∈ M, l.a.toNat = u ∧ l.b.toNat = v ∨ l.a.toNat = v ∧ l.b.toNat = u) → q u ≤ m → M.foldl sprd q v ≤ m
  | [], _, h, _ => by simp at h
  | l :: M, q, h, hq => by
    obtain ⟨x, hx, h2⟩ := h
    rcases List.mem_cons.1 hx with rfl | hx
    · refine Nat.le_trans (fold_sprd_le M (sprd q x) v) ?_
      unfold sprd
      rcases h2 with ⟨e1, e2⟩ | ⟨e1, e2⟩
      · rw [if_pos (.inr e2.symm), e1]; omega
      · rw [if_pos (.inl e1.symm), e2]; omega
    · exact fold_sprd_hit M (sprd q l) ⟨x, hx, h2⟩ (Nat.le_trans (sprd_le q l u) hq)
theorem sprdN_good (hL : LinksOk L k) {m : Nat} (hm : m < k) {f : Int → Int} (hf : IsFar L m f) : ∀ n (v : Nat), v < k → Lst L v m → rank f k v ≤ n → sprdN L id n v = m := by
  have hge : ∀ n (v : Nat), Lst L v m → m ≤ sprdN L id n v := fun n v hv => hv.2 _ (sprdN_con hL (fun v => Con.refl L v) n v)
  have hself : ∀ n, Lst L m m → sprdN L id n m = m := fun n h => Nat.le_antisymm (sprdN_le id n m) (hge n m h)
  intro n
  induction n with
  | zero =>
    intro v hv hl hr
    by_cases e : (v : Int) = m
    · have : v = m := by omega
      subst this; exact hself 0 hl
    · exfalso
      obtain ⟨d, hd⟩ := hl.1.symm
      obtain ⟨u, w, he, g1, g2⟩ := hf.pred (hf.le hd).1 e
      have hre := hL.edge he
      have : 0 < rank f k v := by
        unfold rank
        rw [List.countP_pos_iff]
        exact ⟨u.toNat, by simp; omega, by rw [Int.toNat_of_nonneg hre.1]; simp; omega⟩
      omega
  | succ n ih =>
    intro v hv hl hr
    by_cases e : (v : Int) = m
    · have : v = m := by omega
      subst this; exact hself _ hl
    · obtain ⟨d, hd⟩ := hl.1.symm
      obtain ⟨u, w, he, g1, g2⟩ := hf.pred (hf.le hd).1 e
      have hre := hL.edge he
      have hu : ((u.toNat : Nat) : Int) = u := Int.toNat_of_nonneg hre.1
      have hlt : rank f k u < rank f k v := by
        refine countP_lt (x := u.toNat) _ (fun y _ hy => ?_) (by simp; omega) (by rw [hu]; simp; omega) (by rw [hu]; simp)
        simp only [decide_eq_true_eq] at hy ⊢
        omega
      have hcu : Con L v u.toNat := by
        refine ⟨w, ?_⟩
        rw [hu]; exact Wlk.one he.symm
      have hgu := ih u.toNat (by omega) (hl.of hcu) (by rw [hu]; omega)
      refine Nat.le_antisymm ?_ (hge _ v hl)
      refine fold_sprd_hit (u := u.toNat) L _ ?_ (by rw [hgu]; exact Nat.le_refl _)
      obtain ⟨l, h1, h2, -⟩ := he
      refine ⟨l, h1, ?_⟩
      rcases h2 with ⟨e1, e2⟩ | ⟨e1, e2⟩
      · exact .inl ⟨by rw [e1], by rw [e2]; simp⟩
      · exact .inr ⟨by rw [e1]; simp, by rw [e2]⟩
/-- Both are one. -/
theorem parts_one (h : UF L k p R) (hL : LinksOk L k) {v : Nat} (hv : v < k) : sprdN L id k v = R v := by
  have hl := h.least v
  have hs := (h.small v).1
  obtain ⟨f, hf⟩ := DistAt.all (a := ((R v : Nat) : Int)) hL
  refine sprdN_good hL (by omega) hf k v hv hl ?_
  have := List.countP_le_length (p := fun u : Nat => decide (0 ≤ f u ∧ f u < f v)) (l := List.range k)
  rw [List.length_range] at this
  exact this
end

/-! ### As a list -/
def lst (q : Nat → Nat) (k : Nat) : List Int := (List.range k).map fun v => ((q v : Nat) : Int)
theorem lst_len (q : Nat → Nat) (k : Nat) : (lst q k).length = k := by unfold lst; rw [List.length_map, List.length_range]
theorem lst_at (q : Nat → Nat) {k v : Nat} (hv : v < k) : (lst q k)[v]? = some ((q v : Nat) : Int) := by
  unfold lst
  rw [List.getElem?_map, List.getElem?_range hv]; rfl
theorem lst_set (q : Nat → Nat) (k i x : Nat) : (lst q k).set i ((x : Nat) : Int) = lst (upd q i x) k := by
  apply List.ext_getElem?
  intro v
  by_cases hv : v < k
  · rw [lst_at _ hv, List.getElem?_set]
    by_cases e : i = v
    · subst e; rw [if_pos rfl, lst_len, if_pos hv, upd_same]
    · rw [if_neg e, lst_at _ hv, upd_other _ _ (fun q => e q.symm)]
  · rw [List.getElem?_eq_none (by rw [List.length_set, lst_len]; omega), List.getElem?_eq_none (by rw [lst_len]; omega)]
theorem lst_snoc (q : Nat → Nat) (k : Nat) : lst q (k + 1) = lst q k ++ [((q k : Nat) : Int)] := by
  unfold lst
  rw [List.range_succ, List.map_append]; rfl
theorem lst_congr {p q : Nat → Nat} {k : Nat} (h : ∀ v, v < k → p v = q v) : lst p k = lst q k := by
  unfold lst
  refine List.map_congr_left fun v hv => ?_
  rw [h v (List.mem_range.1 hv)]
theorem sprd_lt {q : Nat → Nat} {A B : Nat} {x : Int} (h : q A < q B) : sprd q ⟨A, B, x⟩ = upd q B (q A) := by
  funext v
  show (if v = (A : Int).toNat ∨ v = (B : Int).toNat then min (q (A : Int).toNat) (q (B : Int).toNat) else q v) = if v = B then q A else q v
  rw [Int.toNat_natCast, Int.toNat_natCast]
  by_cases e : v = B
  · rw [if_pos (.inr e), if_pos e]; omega
  · rw [if_neg e]
    by_cases e2 : v = A
    · rw [if_pos (.inl e2), e2]; omega
    · rw [if_neg (by omega)]
theorem sprd_gt {q : Nat → Nat} {A B : Nat} {x : Int} (h : q B < q A) : sprd q ⟨A, B, x⟩ = upd q A (q B) := by
  funext v
  show (if v = (A : Int).toNat ∨ v = (B : Int).toNat then min (q (A : Int).toNat) (q (B : Int).toNat) else q v) = if v = A then q B else q v
  rw [Int.toNat_natCast, Int.toNat_natCast]
  by_cases e : v = A
  · rw [if_pos (.inl e), if_pos e]; omega
  · rw [if_neg e]
    by_cases e2 : v = B
    · rw [if_pos (.inr e2), e2]; omega
    · rw [if_neg (by omega)]
theorem sprd_eq {q : Nat → Nat} {A B : Nat} {x : Int} (h : q B = q A) : sprd q ⟨A, B, x⟩ = q := by
  funext v
  show (if v = (A : Int).toNat ∨ v = (B : Int).toNat then min (q (A : Int).toNat) (q (B : Int).toNat) else q v) = q v
  rw [Int.toNat_natCast, Int.toNat_natCast]
  split
  · next e =>
    rcases e with e | e
    · rw [e]; omega
    · rw [e]; omega
  · rfl
end Go.V
