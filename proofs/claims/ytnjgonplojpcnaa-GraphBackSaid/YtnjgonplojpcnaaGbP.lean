/- Networks there and back: plain laws. -/
import Derived.Test.YtnjgonplojpcnaaGtB
import Derived.Test.YtnjgonplojpcnaaWiK
import Derived.Test.YtnjgonplojpcnaaNuT
import Derived.Test.YtnjgonplojpcnaaNsC
namespace Go.Proofs.Ytnjgonplojpcnaa.Gb
open Go.RowKit Go.V Go.Proofs Go.Proofs.Ytnjgonplojpcnaa.Wi Go.Proofs.Ytnjgonplojpcnaa.Ne Go.Proofs.Ytnjgonplojpcnaa.Gt

theorem sum_le {α : Type} (f : α → List Int) (c : Nat) : ∀ l : List α, (∀ x ∈ l, (f x).length ≤ c) → (l.flatMap f).length ≤ l.length * c
  | [], _ => by simp
  | x :: l, h => by
    have h1 := h x (by simp)
    have h2 := sum_le f c l (fun y hy => h y (by simp [hy]))
    rw [List.flatMap_cons, List.length_append, List.length_cons, Nat.add_mul]
    omega
theorem putNet_len {n : Net} (h : checkE n = 0) (h60 : n.stops.length ≤ 60) (h120 : n.links.length ≤ 120) : (putNet n).length ≤ 1048576 := by
  obtain ⟨-, -, hv, hst, hlk, -⟩ := check_ok h
  have e1 : (putV n.ver.toNat).length ≤ 10 := putV_10 _ (by omega)
  have e2 : (putV n.stops.length).length ≤ 10 := putV_10 _ (by omega)
  have e3 : (putV n.links.length).length ≤ 10 := putV_10 _ (by omega)
  have e4 := sum_le (fun s : Stp => putV s.x.toNat ++ putV s.y.toNat) 20 n.stops (fun s hs => by
    have := of_decide_eq_true (hst s hs)
    have a1 := putV_10 s.x.toNat (by omega)
    have a2 := putV_10 s.y.toNat (by omega)
    rw [List.length_append]; omega)
  have e5 := sum_le (fun l : Lnk => putV l.a.toNat ++ putV l.b.toNat ++ putV l.w.toNat) 30 n.links (fun l hl => by
    have := hlk l hl
    have a1 := putV_10 l.a.toNat (by omega)
    have a2 := putV_10 l.b.toNat (by omega)
    have a3 := putV_10 l.w.toNat (by omega)
    rw [List.length_append, List.length_append]; omega)
  unfold putNet
  simp only [List.length_append]
  omega
/-- What is put is taken. -/
theorem take_put {n : Net} (h : checkE n = 0) (h60 : n.stops.length ≤ 60) (h120 : n.links.length ≤ 120) : takeN (frameE 3 (putNet n)) = (n, 0) := by
  obtain ⟨h1, h2, hv, hst, hlk, -⟩ := check_ok h
  have hr := rdNet_put n (by omega) (by omega) (by omega) (fun s hs => by
    have := of_decide_eq_true (hst s hs)
    exact ⟨by omega, by omega, by omega, by omega⟩) (fun l hl => by
    have := hlk l hl
    exact ⟨by omega, by omega, by omega, by omega, by omega, by omega⟩)
  rw [takeN_of (whole_put 3 (putNet n) (putNet_len h h60 h120)), if_neg (by simp), hr]
  simp only []
  have hd : doneE (putNet n) (putNet n).length 0 = 0 := by unfold doneE; rw [if_neg (by omega)]
  rw [hd, if_neg (by simp), h, if_neg (by simp)]

theorem frame_byt {kd : Int} {c : List Int} (hk : 0 ≤ kd ∧ kd < 256) (hc : Byt c) (hl : c.length < 18446744073709551616) : Byt (frameE kd c) := by
  unfold frameE frameH
  refine Byt.app (Byt.app (fun x hx => ?_) hc) (sumB_byt _ (by unfold crcE; omega))
  rcases List.mem_cons.1 hx with e | e
  · omega
  rcases List.mem_cons.1 e with e | e
  · omega
  · exact putV_byt _ hl x e
theorem frame_len {kd : Int} {c : List Int} (hl : c.length ≤ 1048576) : (frameE kd c).length ≤ c.length + 16 := by
  have h1 : (putV c.length).length ≤ 10 := putV_10 _ (by omega)
  have h2 : (sumB (crcE (frameH kd c))).length = 4 := rfl
  unfold frameE
  rw [List.length_append, h2]
  unfold frameH
  simp only [List.length_append, List.length_cons]
  omega
theorem putNet_len2 {n : Net} (h : checkE n = 0) (h60 : n.stops.length ≤ 60) (h120 : n.links.length ≤ 120) : (frameE 3 (putNet n)).length ≤ 1000000 := by
  obtain ⟨-, -, hv, hst, hlk, -⟩ := check_ok h
  have h1 := putNet_len h h60 h120
  have h2 := frame_len (kd := 3) h1
  have e1 : (putV n.ver.toNat).length ≤ 10 := putV_10 _ (by omega)
  have e2 : (putV n.stops.length).length ≤ 10 := putV_10 _ (by omega)
  have e3 : (putV n.links.length).length ≤ 10 := putV_10 _ (by omega)
  have e4 := sum_le (fun s : Stp => putV s.x.toNat ++ putV s.y.toNat) 20 n.stops (fun s hs => by
    have := of_decide_eq_true (hst s hs)
    have a1 := putV_10 s.x.toNat (by omega)
    have a2 := putV_10 s.y.toNat (by omega)
    rw [List.length_append]; omega)
  have e5 := sum_le (fun l : Lnk => putV l.a.toNat ++ putV l.b.toNat ++ putV l.w.toNat) 30 n.links (fun l hl => by
    have := hlk l hl
    have a1 := putV_10 l.a.toNat (by omega)
    have a2 := putV_10 l.b.toNat (by omega)
    have a3 := putV_10 l.w.toNat (by omega)
    rw [List.length_append, List.length_append]; omega)
  have h3 : (putNet n).length ≤ 10000 := by
    unfold putNet
    simp only [List.length_append]
    omega
  omega

/-! ### Who stands for whom -/
theorem uf_ex {L : List Lnk} (k : Nat) (hL : ∀ l ∈ L, 0 ≤ l.a ∧ 0 ≤ l.b) : ∀ j, j ≤ L.length → ∃ p R, UF (L.take j) k p R
  | 0, _ => ⟨id, id, by rw [List.take_zero]; exact UF.begin k⟩
  | j + 1, hj => by
    obtain ⟨p, R, h⟩ := uf_ex k hL j (by omega)
    have hl : L[j]? = some L[j] := by simp
    have ho := hL L[j] (List.getElem_mem _)
    refine ⟨_, _, by rw [take_at hl]; exact h.join ho (a := R L[j].a.toNat) (b := R L[j].b.toNat) rfl rfl (uf_back h (h.small _).2) (uf_back h (h.small _).2)⟩
theorem uf_all {L : List Lnk} {k : Nat} (hL : LinksOk L k) : ∃ p R, UF L k p R := by
  obtain ⟨p, R, h⟩ := uf_ex k (fun l hl => by have := hL l hl; omega : ∀ l ∈ L, 0 ≤ l.a ∧ 0 ≤ l.b) L.length (Nat.le_refl _)
  rw [List.take_length] at h
  exact ⟨p, R, h⟩

/-! ### Neighbours -/
theorem near_mem {L : List Lnk} {s : Int} {l : Lnk} : l ∈ nearL L s ↔ (∃ x ∈ L, turnL s x = l) ∧ l.a = s := by
  unfold nearL
  rw [(isort_perm _).mem_iff]
  unfold fromL
  rw [List.mem_filter, List.mem_map, decide_eq_true_eq]
theorem near_back {L : List Lnk} {k : Nat} (hL : LinksOk L k) {i : Nat} {l : Lnk} (h : l ∈ nearL L i) : l.a = i ∧ 0 ≤ l.b ∧ l.b < k ∧ (⟨l.b, i, l.w⟩ : Lnk) ∈ nearL L l.b ∧ ∀ R : Nat → Nat, (∀ x ∈ L, R x.a.toNat = R x.b.toNat) → R l.b.toNat = R i := by
  obtain ⟨⟨x, hx, ht⟩, ha⟩ := near_mem.1 h
  have ho := hL x hx
  unfold turnL at ht
  split at ht
  · next e =>
    subst ht
    refine ⟨ha, ho.1, by simp only []; omega, near_mem.2 ⟨⟨x, hx, ?_⟩, rfl⟩, fun R hR => ?_⟩
    · unfold turnL
      simp only []
      rw [if_neg (by omega), ← e]
    · have := hR x hx
      rw [this, e]; simp
  · next e =>
    subst ht
    refine ⟨ha, by omega, by omega, near_mem.2 ⟨⟨x, hx, ?_⟩, rfl⟩, fun R hR => ?_⟩
    · unfold turnL
      rw [if_pos rfl, ha]
    · have := hR x hx
      rw [← this, ha]; simp
def cntN (L : List Lnk) : Nat → Nat
  | 0 => 0
  | i + 1 => cntN L i + (nearL L i).length
theorem near_len (L : List Lnk) (s : Int) : (nearL L s).length = (fromL L s).length := (isort_perm _).length_eq
theorem cntN_nil : ∀ i, cntN [] i = 0
  | 0 => rfl
  | i + 1 => by
    show cntN [] i + _ = 0
    rw [cntN_nil i, near_len]; rfl
theorem cntN_snoc (L : List Lnk) (x : Lnk) (hx : 0 ≤ x.a ∧ x.a < x.b) : ∀ i : Nat, cntN (L ++ [x]) i = cntN L i + (if x.a < i then 1 else 0) + (if x.b < i then 1 else 0)
  | 0 => by
    rw [if_neg (by omega), if_neg (by omega)]; rfl
  | i + 1 => by
    show cntN (L ++ [x]) i + (nearL (L ++ [x]) i).length = cntN L i + (nearL L i).length + _ + _
    rw [cntN_snoc L x hx i, near_len, near_len, fromL_snoc]
    unfold turnL
    by_cases e : x.b = i
    · rw [if_pos e]
      simp only [e]
      rw [if_pos trivial, List.length_append]
      rw [if_pos (show x.a < (i : Int) by omega), if_neg (by omega), if_pos (show x.a < ((i + 1 : Nat) : Int) by omega), if_pos (show (i : Int) < ((i + 1 : Nat) : Int) by omega)]
      simp only [List.length_singleton]
      omega
    · rw [if_neg e]
      by_cases e2 : x.a = i
      · rw [if_pos e2, List.length_append, if_neg (by omega), if_neg (by omega), if_pos (show x.a < ((i + 1 : Nat) : Int) by omega), if_neg (by omega)]
        simp only [List.length_singleton]
        omega
      · rw [if_neg e2]
        by_cases e3 : x.a < (i : Int)
        · rw [if_pos e3, if_pos (show x.a < ((i + 1 : Nat) : Int) by omega)]
          by_cases e4 : x.b < (i : Int)
          · rw [if_pos e4, if_pos (by omega)]; omega
          · rw [if_neg e4, if_neg (by omega)]; omega
        · rw [if_neg e3, if_neg (by omega), if_neg (by omega), if_neg (by omega)]; omega
theorem cntN_all {L : List Lnk} {k : Nat} (hL : LinksOk L k) : ∀ j, j ≤ L.length → cntN (L.take j) k = 2 * j
  | 0, _ => by rw [List.take_zero, cntN_nil]
  | j + 1, hj => by
    have hl : L[j]? = some L[j] := by simp
    have ho := hL L[j] (List.getElem_mem _)
    rw [take_at hl, cntN_snoc _ _ (by omega), cntN_all hL j (by omega), if_pos (by omega), if_pos (by omega)]
    omega
theorem cntN_two {L : List Lnk} {k : Nat} (hL : LinksOk L k) : cntN L k = 2 * L.length := by
  have := cntN_all hL L.length (Nat.le_refl _)
  rwa [List.take_length] at this
theorem cntN_le {L : List Lnk} : ∀ i : Nat, cntN L i ≤ i * L.length
  | 0 => Nat.zero_le _
  | i + 1 => by
    have := cntN_le (L := L) i
    have h2 : (nearL L i).length ≤ L.length := by rw [near_len]; exact fromL_len L i
    show cntN L i + _ ≤ _
    rw [Nat.add_mul]; omega
end Go.Proofs.Ytnjgonplojpcnaa.Gb
