/- Networks: flows, plain: as many begin as end, what goes by is even, flows of two lists are those of both. -/
/- Networks: flows fit: the law walked. -/
/- FlowFits answers true, whatever comes in, and what came in reads as it did; no condition. -/
import Derived.Test.YteihffnmgacfpaaNwG
import Derived.Test.YteihffnmgacfpaaRows
import Derived.Test.YteihffnmgacfpaaNeN
namespace Go.Proofs.Yteihffnmgacfpaa.Ne
open Go.RowKit Go.V Go.Proofs Go.Sort

def sumTo (f : Nat → Int) : Nat → Int
  | 0 => 0
  | j + 1 => sumTo f j + f j
theorem sumTo_ups (f : Nat → Int) (a : Nat) : ∀ m, sumTo (ups f a) m = sumTo f m + (if a < m then 1 else 0)
  | 0 => rfl
  | m + 1 => by
    show sumTo (ups f a) m + ups f a m = sumTo f m + f m + _
    rw [sumTo_ups f a m]
    unfold ups
    by_cases h : m = a
    · subst h; rw [if_neg (by omega), if_pos rfl, if_pos (by omega)]; omega
    · rw [if_neg h]
      by_cases h2 : a < m
      · rw [if_pos h2, if_pos (by omega)]; omega
      · rw [if_neg h2, if_neg (by omega)]; omega
theorem sumTo_lim {f : Nat → Int} {q : Int} (h : ∀ i, 0 ≤ f i ∧ f i ≤ 100) : ∀ m : Nat, 0 ≤ sumTo f m ∧ sumTo f m ≤ m * 100
  | 0 => ⟨Int.le_refl _, Int.le_refl _⟩
  | m + 1 => by
    have h1 := sumTo_lim (q := q) h m
    have h2 := h m
    show 0 ≤ sumTo f m + f m ∧ sumTo f m + f m ≤ _
    omega
def touch (l : Lnk) (i : Int) : Bool := decide (l.a = i ∨ l.b = i)
def incTo (L : List Lnk) (f : Nat → Int) (i : Int) : Nat → Int
  | 0 => 0
  | e + 1 => incTo L f i e + (match L[e]? with | some l => if touch l i = true then f e else 0 | none => 0)
theorem incTo_some {L : List Lnk} {e : Nat} {l : Lnk} (h : L[e]? = some l) (f : Nat → Int) (i : Int) : incTo L f i (e + 1) = incTo L f i e + (if touch l i = true then f e else 0) := by
  show _ + _ = _
  rw [h]
theorem incTo_none {L : List Lnk} {e : Nat} (h : L[e]? = none) (f : Nat → Int) (i : Int) : incTo L f i (e + 1) = incTo L f i e := by
  show _ + _ = _
  rw [h]; exact Int.add_zero _
theorem incTo_add (L : List Lnk) (f g : Nat → Int) (i : Int) : ∀ m, incTo L (fun e => f e + g e) i m = incTo L f i m + incTo L g i m
  | 0 => rfl
  | m + 1 => by
    cases h : L[m]? with
    | none => rw [incTo_none h, incTo_none h, incTo_none h, incTo_add L f g i m]
    | some l =>
      rw [incTo_some h, incTo_some h, incTo_some h, incTo_add L f g i m]
      split <;> omega
theorem incTo_zero (L : List Lnk) {f : Nat → Int} (hf : ∀ e, f e = 0) (i : Int) : ∀ m, incTo L f i m = 0
  | 0 => rfl
  | m + 1 => by
    cases h : L[m]? with
    | none => rw [incTo_none h, incTo_zero L hf i m]
    | some l =>
      rw [incTo_some h, incTo_zero L hf i m, hf m]
      split <;> rfl
theorem incTo_ups {L : List Lnk} {e : Nat} {l : Lnk} (he : L[e]? = some l) (f : Nat → Int) (i : Int) : ∀ m, incTo L (ups f e) i m = incTo L f i m + (if e < m ∧ touch l i = true then 1 else 0)
  | 0 => by rw [if_neg (by omega)]; rfl
  | m + 1 => by
    have ih := incTo_ups he f i m
    cases h : L[m]? with
    | none =>
      have hne : m ≠ e := by intro q; subst q; rw [he] at h; cases h
      rw [incTo_none h, incTo_none h, ih]
      by_cases h2 : e < m ∧ touch l i = true
      · rw [if_pos h2, if_pos ⟨by omega, h2.2⟩]
      · rw [if_neg h2, if_neg (by intro q; exact h2 ⟨by omega, q.2⟩)]
    | some l' =>
      rw [incTo_some h, incTo_some h, ih]
      by_cases hne : m = e
      · subst hne
        have : l' = l := by rw [he] at h; exact (Option.some.inj h).symm
        subst this
        have k1 : ¬ (m < m ∧ touch l' i = true) := by omega
        rw [ups_same, if_neg k1]
        by_cases h3 : touch l' i = true
        · have k2 : m < m + 1 ∧ touch l' i = true := ⟨by omega, h3⟩
          rw [if_pos k2, if_pos h3, if_pos h3]; omega
        · have k2 : ¬ (m < m + 1 ∧ touch l' i = true) := fun q => h3 q.2
          rw [if_neg k2, if_neg h3, if_neg h3]
      · rw [ups_other _ hne]
        by_cases h2 : e < m ∧ touch l i = true
        · have k2 : e < m + 1 ∧ touch l i = true := ⟨by omega, h2.2⟩
          rw [if_pos k2, if_pos h2]; omega
        · have k2 : ¬ (e < m + 1 ∧ touch l i = true) := fun q => h2 ⟨by omega, q.2⟩
          rw [if_neg k2, if_neg h2]; omega
theorem incTo_lim {L : List Lnk} {f : Nat → Int} (h : ∀ e, 0 ≤ f e ∧ f e ≤ 1000000000000) (i : Int) : ∀ m : Nat, 0 ≤ incTo L f i m ∧ incTo L f i m ≤ m * 1000000000000
  | 0 => ⟨Int.le_refl _, Int.le_refl _⟩
  | m + 1 => by
    have h1 := incTo_lim (L := L) h i m
    have h2 := h m
    cases hl : L[m]? with
    | none => rw [incTo_none hl]; omega
    | some l => rw [incTo_some hl]; split <;> omega
def ind (x i : Int) : Int := if x = i then 1 else 0
/-- Along a way each stop is left as often as it is come to, but for the ends. -/
theorem hits_even {L : List Lnk} {k m : Nat} (hL : LinksOk L k) (hpw : L.Pairwise fun a b => aftB a b = true) (hm : m = L.length) {xs : List Int} (hp : ∀ c, c + 1 < xs.length → wtE L (xs.getD c 0) (xs.getD (c + 1) 0) ≠ 0) (i : Int) :
    ∀ c, c + 1 ≤ xs.length → (incTo L (hitsAt L xs c) i m + ind (xs.getD 0 0) i + ind (xs.getD c 0) i) % 2 = 0
  | 0, _ => by
    rw [incTo_zero L (fun e => hitsAt_zero L xs e)]
    unfold ind
    split <;> omega
  | c + 1, hc => by
    have ih := hits_even hL hpw hm hp i c (by omega)
    obtain ⟨e, l, he, hla, hlb, hph, huq⟩ := pair_at hL hpw (hp c (by omega))
    have hs := hitsAt_step (xs := xs) (c := c) rfl rfl he hph huq (fun _ => 0)
    simp only [Int.zero_add] at hs
    have hs2 : hitsAt L xs (c + 1) = ups (hitsAt L xs c) e := hs
    rw [hs2, incTo_ups he]
    have hem : e < m := by rw [hm]; exact (List.getElem?_eq_some_iff.1 he).1
    have hls := hL l (List.mem_of_getElem? he)
    obtain ⟨u, hu⟩ : ∃ u, xs.getD c 0 = u := ⟨_, rfl⟩
    obtain ⟨v, hv⟩ : ∃ v, xs.getD (c + 1) 0 = v := ⟨_, rfl⟩
    obtain ⟨s, hs3⟩ : ∃ s, ind (xs.getD 0 0) i = s := ⟨_, rfl⟩
    rw [hu] at ih hla hlb
    rw [hv] at hla hlb
    rw [hv]
    rw [hs3] at ih ⊢
    have ht : touch l i = decide (min u v = i ∨ max u v = i) := by unfold touch; rw [hla, hlb]
    rw [ht]
    unfold ind at ih ⊢
    by_cases h1 : u = i <;> by_cases h2 : v = i
    · omega
    · rw [if_pos h1] at ih
      rw [if_pos ⟨hem, decide_eq_true (by omega)⟩, if_neg h2]; omega
    · rw [if_neg h1] at ih
      rw [if_pos ⟨hem, decide_eq_true (by omega)⟩, if_pos h2]; omega
    · rw [if_neg h1] at ih
      rw [if_neg (by intro q; have := of_decide_eq_true q.2; omega), if_neg h2]; omega

theorem cntF_inv {n : Net} {k : Nat} {P : Fw → Nat → Prop} (hs : ∀ F q p, P F q → P (stepF n k F p) (q + 1)) : ∀ (ps : List Pr2) (F : Fw) (q : Nat), P F q → P (cntF n k ps F) (q + ps.length)
  | [], _, _, h => h
  | p :: ps, F, q, h => by
    have := cntF_inv hs ps _ _ (hs F q p h)
    rw [show q + (p :: ps).length = q + 1 + ps.length by simp; omega]
    exact this
/-- The balance of flows. -/
structure Fw.Bal (L : List Lnk) (k m : Nat) (F : Fw) (q : Nat) : Prop where
  ev : ∀ i : Nat, i < k → (F.on i + F.off i + incTo L F.L i m) % 2 = 0
  eq : sumTo F.on k = sumTo F.off k
  all : sumTo F.on k + F.lost = q
theorem ups_ind (f : Nat → Int) (a i : Nat) : ups f a i = f i + ind (a : Int) (i : Int) := by
  unfold ups ind
  by_cases h : i = a
  · rw [if_pos h, if_pos (by omega)]
  · rw [if_neg h, if_neg (by omega)]; omega
theorem Fw.Bal.go {n : Net} {k m : Nat} (hL : LinksOk n.links k) (hpw : n.links.Pairwise fun a b => aftB a b = true) (hm : m = n.links.length) (hw : ∀ a b : Int, wayErr n k a b = 0 → 0 ≤ a ∧ a < k ∧ 0 ≤ b ∧ b < k ∧ 0 ≤ far n.links k a b) {F : Fw} {q : Nat} (p : Pr2) (h : F.Bal n.links k m q) : (stepF n k F p).Bal n.links k m (q + 1) := by
  unfold stepF
  split
  · next e =>
    obtain ⟨P, Q⟩ := p
    obtain ⟨g1, g2, g3, g4, g5⟩ := hw P Q e
    obtain ⟨a, rfl⟩ : ∃ a : Nat, P = a := ⟨P.toNat, by omega⟩
    obtain ⟨b, rfl⟩ : ∃ b : Nat, Q = b := ⟨Q.toNat, by omega⟩
    have hak : a < k := by omega
    have hbk : b < k := by omega
    have hgd := wayL_good hL hpw ⟨g1, g2⟩ g5
    have hpr : ∀ c, c + 1 < (wayL n.links k a b).length → wtE n.links ((wayL n.links k a b).getD c 0) ((wayL n.links k a b).getD (c + 1) 0) ≠ 0 := fun c hc => wayL_pair hL hpw ⟨g1, g2⟩ g5 hc
    obtain ⟨xs, hxs⟩ : ∃ xs, wayL n.links k a b = xs := ⟨_, rfl⟩
    rw [hxs] at hgd hpr
    have hl := List.length_pos_iff.2 hgd.ne
    refine ⟨fun i hi => ?_, ?_, ?_⟩
    · have h1 := h.ev i hi
      have h2 := hits_even hL hpw hm hpr i (xs.length - 1) (by omega)
      rw [hgd.hd, hgd.lt] at h2
      show (ups F.on ((a : Int).toNat) i + ups F.off ((b : Int).toNat) i + incTo n.links (fun e => F.L e + hitsAt n.links (wayL n.links k a b) ((wayL n.links k a b).length - 1) e) i m) % 2 = 0
      rw [hxs, incTo_add, Int.toNat_natCast, Int.toNat_natCast, ups_ind, ups_ind]
      have h3 : incTo n.links (fun e => hitsAt n.links xs (xs.length - 1) e) i m = incTo n.links (hitsAt n.links xs (xs.length - 1)) i m := rfl
      rw [h3]
      omega
    · have h1 := h.eq
      show sumTo (ups F.on ((a : Int).toNat)) k = sumTo (ups F.off ((b : Int).toNat)) k
      rw [sumTo_ups, sumTo_ups, Int.toNat_natCast, Int.toNat_natCast, if_pos hak, if_pos hbk]; omega
    · have h1 := h.all
      show sumTo (ups F.on ((a : Int).toNat)) k + F.lost = _
      rw [sumTo_ups, Int.toNat_natCast, if_pos hak]; omega
  · next e =>
    refine ⟨fun i hi => h.ev i hi, h.eq, ?_⟩
    have h1 := h.all
    show sumTo F.on k + (F.lost + 1) = _
    omega
theorem sumTo_zero : ∀ k, sumTo (fun _ => 0) k = 0
  | 0 => rfl
  | k + 1 => by show sumTo _ k + 0 = 0; rw [sumTo_zero k]; rfl
theorem Fw.Bal.zero (L : List Lnk) (k m : Nat) : Fw.zero.Bal L k m 0 :=
  ⟨fun i _ => by show (0 + 0 + incTo L (fun _ => 0) i m) % 2 = 0; rw [incTo_zero L (fun _ => rfl)]; rfl, rfl, by show sumTo (fun _ => 0) k + 0 = _; rw [sumTo_zero]; rfl⟩

/-! ### Two lists -/
def Fw.add (F G : Fw) : Fw := ⟨fun i => F.L i + G.L i, fun i => F.on i + G.on i, fun i => F.off i + G.off i, F.lost + G.lost⟩
theorem ups_add (f g : Nat → Int) (a : Nat) : ups (fun i => f i + g i) a = fun i => f i + ups g a i := by
  funext i
  unfold ups
  dsimp only
  split <;> omega
theorem stepF_add (n : Net) (k : Nat) (F G : Fw) (p : Pr2) : stepF n k (F.add G) p = F.add (stepF n k G p) := by
  unfold stepF
  split
  · unfold Fw.add
    simp only [ups_add, Int.add_assoc]
  · unfold Fw.add
    simp only [Int.add_assoc]
theorem cntF_add (n : Net) (k : Nat) (F : Fw) : ∀ (ps : List Pr2) (G : Fw), cntF n k ps (F.add G) = F.add (cntF n k ps G)
  | [], _ => rfl
  | p :: ps, G => by
    show cntF n k ps (stepF n k (F.add G) p) = F.add (cntF n k ps (stepF n k G p))
    rw [stepF_add, cntF_add n k F ps]
theorem Fw.add_zero (F : Fw) : F.add Fw.zero = F := by
  unfold Fw.add Fw.zero
  simp
theorem cntF_parts (n : Net) (k : Nat) (ps : List Pr2) (q : Nat) : cntF n k ps Fw.zero = (cntF n k (ps.take q) Fw.zero).add (cntF n k (ps.drop q) Fw.zero) := by
  rw [← cntF_add, Fw.add_zero]
  unfold cntF
  rw [← List.foldl_append, List.take_append_drop]
theorem addL_fl (f g : Nat → Int) (k : Nat) : addL (fl f k) (fl g k) = fl (fun i => f i + g i) k := by
  apply List.ext_getElem?
  intro v
  unfold addL
  rw [List.getElem?_zipWith]
  by_cases hv : v < k
  · rw [fl_at _ hv, fl_at _ hv, fl_at _ hv]
  · have e : ∀ h : Nat → Int, (fl h k)[v]? = none := fun h => List.getElem?_eq_none (by rw [fl_len]; omega)
    rw [e, e, e]
theorem fl_okT {f : Nat → Int} {k : Nat} (h : ∀ i, 0 ≤ f i ∧ f i ≤ 2305843009213693952) : (fl f k).all okT = true := by
  rw [List.all_eq_true]
  intro x hx
  unfold fl at hx
  obtain ⟨i, -, rfl⟩ := List.mem_map.1 hx
  exact decide_eq_true (h i)
theorem sumB_fl {f g : Nat → Int} {k : Nat} (h : ∀ i, 0 ≤ f i ∧ f i ≤ 2305843009213693952) (h' : ∀ i, 0 ≤ g i ∧ g i ≤ 2305843009213693952) : sumB (fl f k) (fl g k) = true := sumB_all (by rw [fl_len, fl_len]) (fl_okT h) (fl_okT h')
theorem merge_fl {F G : Fw} {p q k m : Nat} (hF : F.Lim p) (hG : G.Lim q) (hp : p ≤ 30) (hq : q ≤ 30) : mergeB (F.fl m k) (G.fl m k) = true ∧ mergeL (F.fl m k) (G.fl m k) = (F.add G).fl m k := by
  have hb : mergeB (F.fl m k) (G.fl m k) = true := by
    unfold mergeB Fw.fl
    simp only []
    rw [sumB_fl (fun i => by have := hF.l i; omega) (fun i => by have := hG.l i; omega), sumB_fl (fun i => by have := hF.n i; omega) (fun i => by have := hG.n i; omega), sumB_fl (fun i => by have := hF.f i; omega) (fun i => by have := hG.f i; omega)]
    have h1 := hF.x
    have h2 := hG.x
    have h3 : okT F.lost = true := decide_eq_true (by omega)
    have h4 : okT G.lost = true := decide_eq_true (by omega)
    simp [sumB, h3, h4]
  refine ⟨hb, ?_⟩
  rw [mergeL_yes hb]
  unfold Fw.fl
  simp only [addL_fl]
  rfl
end Go.Proofs.Yteihffnmgacfpaa.Ne

namespace Go.Proofs.Yteihffnmgacfpaa.Ne
open Go.RowKit Go.V Go.Proofs Go.Sort Go.Maps

theorem wayErr_in {n : Net} {k m : Nat} (hok : checkE n = 0) (e : k = n.stops.length) (hm : m = n.links.length) (h60 : k ≤ 60) (h120 : m ≤ 120) {a b : Int} (q : wayErr n k a b = 0) : (0 ≤ a ∧ a < k ∧ 0 ≤ b ∧ b < k ∧ 0 ≤ far n.links k a b) ∧ (wayL n.links k a b).length ≤ 30000000000 := by
  have hL : LinksOk n.links k := by rw [e]; exact (check_ok hok).2.2.2.2.1
  unfold wayErr at q
  split at q
  · next q1 => exact absurd q q1
  · next q1 =>
    have hf : fromE n a = 0 := Classical.byContradiction q1
    unfold fromE at hf
    rw [if_pos hok] at hf
    split at hf
    · next q2 =>
      split at q
      · next q3 =>
        split at q
        · cases q
        · next q4 =>
          rw [← e] at q2
          have := wayL_len n.links k a b
          have := (far_lim hL q2 h60 (by rw [← hm]; exact h120) b).2
          exact ⟨⟨q2.1, q2.2, q3.1, q3.2, by omega⟩, by omega⟩
      · cases q
    · cases hf
section
variable {α : Type} {c : Cod α} {w : World} {a : Option Addr} {n cap : Nat} {xs : List α}
theorem sl_upto (h : Sl c w a n cap xs) {q : Nat} (hq : q ≤ n) : Sl c w a q cap (xs.take q) := by
  have h1 := h.hlen
  refine ⟨by rw [List.length_take]; omega, by have := h.hcap; omega, h.hmax, fun e => by have := h.hnil e; exact ⟨by omega, this.2⟩, fun d hd => ?_⟩
  obtain ⟨g1, g2, g3⟩ := h.hat d hd
  refine ⟨g1, g2, fun j u hu => g3 j u ?_⟩
  have e : xs = xs.take q ++ xs.drop q := (List.take_append_drop q xs).symm
  rw [e, List.flatMap_append, List.getElem?_append_left (List.getElem?_eq_some_iff.1 hu).1]
  exact hu
theorem sl_from (h : Sl c w a n cap xs) {q : Nat} (hq : q ≤ n) : Sl c w (if cap = q then a else a.map (·.add (q * c.k))) (n - q) (cap - q) (xs.drop q) := by
  have h1 := h.hlen
  have h2 := h.hcap
  have h3 := h.hmax
  by_cases e : cap = q
  · rw [if_pos e]
    have e2 : xs.drop q = [] := List.drop_eq_nil_of_le (by omega)
    rw [e2]
    refine ⟨by simp; omega, by omega, by omega, fun e3 => ⟨by omega, by omega⟩, fun d hd => ?_⟩
    obtain ⟨g1, g2, -⟩ := h.hat d hd
    exact ⟨g1, g2, fun j u hu => by simp at hu⟩
  · rw [if_neg e]
    refine ⟨by rw [List.length_drop]; omega, by omega, by omega, fun e3 => ?_, fun d hd => ?_⟩
    · cases a with
      | none => have := h.hnil rfl; omega
      | some d => cases e3
    · cases a with
      | none => cases hd
      | some d0 =>
        obtain ⟨g1, g2, g3⟩ := h.hat d0 rfl
        obtain ⟨b, off, sp⟩ := d0
        have g1 : sp = none := g1
        subst g1
        have hd : (⟨b, off, none⟩ : Addr).add (q * c.k) = d := Option.some.inj hd
        rw [add_addr] at hd
        subst hd
        refine ⟨rfl, g2, fun j u hu => ?_⟩
        have := g3 (q * c.k + j) u (by
          have e4 : xs = xs.take q ++ xs.drop q := (List.take_append_drop q xs).symm
          have e5 : ((xs.take q).flatMap c.enc).length = q * c.k := by rw [flat_len, List.length_take, Nat.min_eq_left (by omega)]
          rw [e4, List.flatMap_append, List.getElem?_append_right (by omega), e5, Nat.add_sub_cancel_left]
          exact hu)
        show w.cell? ⟨b, off + q * c.k + j, none⟩ = some u
        rw [Nat.add_assoc]; exact this
end
theorem box3_cells3 {w : World} {g : Nat} {n : Net} {hs hl : Hdr} (h : w.heap[g]? = some (n.box hs hl)) : w.cell? ⟨g, 0, none⟩ = some (.int .i64 n.ver) ∧ w.cell? ⟨g, 1, none⟩ = some (.slice hs.a hs.n hs.cap) ∧ w.cell? ⟨g, 2, none⟩ = some (.slice hl.a hl.n hl.cap) := ⟨(box_cell h 0).1, (box_cell h 1).1, (box_cell h 2).1⟩
theorem sl_set {w : World} {a : Option Addr} {n cap p i : Nat} {u : Value} {xs : List Int} (h : Sl icod w a n cap xs) (hne : ∀ d, a = some d → p < d.block) : Sl icod (w.setCell ⟨p, i, none⟩ u) a n cap xs := by
  refine ⟨h.hlen, h.hcap, h.hmax, h.hnil, fun d hd => ?_⟩
  obtain ⟨g1, g2, g3⟩ := h.hat d hd
  refine ⟨g1, Nat.lt_of_lt_of_le g2 (set_grown w p i u).size, fun j v hv => ?_⟩
  exact (World.cell?_setCell_far _ _ _ _ (fun e => by have := hne d hd; have e : p = d.block := e; omega)).trans (g3 j v hv)
theorem fl_set {w : World} {F : Fl} {a1 a2 a3 : Option Addr} {n1 q1 n2 q2 n3 q3 p i : Nat} {u : Value} (h : FlIn w F ⟨⟨a1, n1, q1⟩, ⟨a2, n2, q2⟩, ⟨a3, n3, q3⟩⟩) (hne : ∀ d, a1 = some d ∨ a2 = some d ∨ a3 = some d → p < d.block) : FlIn (w.setCell ⟨p, i, none⟩ u) F ⟨⟨a1, n1, q1⟩, ⟨a2, n2, q2⟩, ⟨a3, n3, q3⟩⟩ :=
  ⟨sl_set h.l (fun d e => hne d (.inl e)), sl_set h.n (fun d e => hne d (.inr (.inl e))), sl_set h.f (fun d e => hne d (.inr (.inr e)))⟩
theorem box_set4 {w : World} {g z : Nat} {o : Obj} {u0 u1 u2 u3 : Value} (h : w.heap[g]? = some o) (hne : g ≠ z) : ((((w.setCell ⟨z, 0, none⟩ u0).setCell ⟨z, 1, none⟩ u1).setCell ⟨z, 2, none⟩ u2).setCell ⟨z, 3, none⟩ u3).heap[g]? = some o :=
  box_kept_set (box_kept_set (box_kept_set (box_kept_set h hne) hne) hne) hne
theorem map_add0 {α : Type} {c : Cod α} {w : World} {a : Option Addr} {n cap : Nat} {xs : List α} (h : Sl c w a n cap xs) (s : Nat) : a.map (·.add (0 * s)) = a := by
  cases a with
  | none => rfl
  | some d =>
    obtain ⟨g1, -, -⟩ := h.hat d rfl
    obtain ⟨b, off, sp⟩ := d
    have g1 : sp = none := g1
    subst g1
    show some ((⟨b, off, none⟩ : Addr).add (0 * s)) = some _
    rw [Nat.zero_mul, add_addr]; rfl
theorem run_upto {w : World} {pa : Option Addr} {pn pc q : Nat} {ps : List Pr2} (h : Sl pr2 w pa pn pc ps) (hq : q ≤ pn) (W : World) : (Instr.slice 26 (.slice pa pn pc) none (some (.int .i64 (q : Int))) none).run Try.prog W = .ok (.slice pa q pc) W := by
  have hc := h.hcap
  rw [run_slice_h W 26 pa pn pc (by kernel_rfl) .i64 (q : Int) (by omega) (by omega)]
  have e : (sizeOf (Try.prog.elem 26)).run Try.prog W = .ok 2 W := by kernel_rfl
  rw [e]
  show Result.ok (sliced pa 0 (q : Int).toNat pc 2) W = _
  unfold sliced
  rw [Int.toNat_natCast, map_add0 h, ite_self]; rfl
theorem run_from {w : World} {pa : Option Addr} {pn pc q : Nat} {ps : List Pr2} (h : Sl pr2 w pa pn pc ps) (hq : q ≤ pn) (W : World) : (Instr.slice 26 (.slice pa pn pc) (some (.int .i64 (q : Int))) none none).run Try.prog W = .ok (.slice (if pc = q then pa else pa.map (·.add (q * pr2.k))) (pn - q) (pc - q)) W := by
  have hc := h.hcap
  rw [run_slice_l W 26 pa pn pc (by kernel_rfl) .i64 (q : Int) (by omega) (by omega)]
  have e : (sizeOf (Try.prog.elem 26)).run Try.prog W = .ok 2 W := by kernel_rfl
  rw [e]
  show Result.ok (sliced pa (q : Int).toNat pn pc 2) W = _
  unfold sliced
  rw [Int.toNat_natCast]; rfl
/-- A count's flows lie in a box. -/
def FlBox (w w' : World) (F : Fw) (m k : Nat) (v : Value) : Prop := ∃ z d1 k1 s1 d2 k2 s2 d3 k3 s3, v = .pointer (some ⟨z, 0, none⟩) ∧ w'.heap[z]? = some (.cells #[.slice d1 k1 s1, .slice d2 k2 s2, .slice d3 k3 s3, .int .i64 F.lost] 78 (0, 0)) ∧ FlIn w' (F.fl m k) ⟨⟨d1, k1, s1⟩, ⟨d2, k2, s2⟩, ⟨d3, k3, s3⟩⟩ ∧ Below w.heap.size w w'

set_option maxHeartbeats 8000000 in
set_option maxRecDepth 100000 in
theorem ffits_any (n : Net) (hs hl : Hdr) (pa : Option Addr) (pn pc : Nat) (ps : List Pr2) (at_ : Nat) (w : World) (h : NetIn w n hs hl) (hp : Sl pr2 w pa pn pc ps) (hat : at_ ≤ 255) :
    Calls Try.prog 13 #[n.val hs hl, .slice pa pn pc, .int .u8 at_] w fun e w' => e = .returned (.bool true) ∧ Below w.heap.size w w' := by
  have mixed : Try.prog.follows .mixedOrders = true := by kernel_rfl
  have hpn : pn ≤ 9223372036854775807 := by have := hp.hcap; have := hp.hmax; unfold maxLen at this; omega
  obtain ⟨sa, k, sc⟩ := hs
  obtain ⟨la, m, lc⟩ := hl
  have HH := Lib.hid h
  have HPP := Lib.hid hp
  have HKN : Hid (k = n.stops.length) := h.s.hlen
  have HLN : Hid (m = n.links.length) := h.l.hlen
  have HX0 := Lib.hid (box_new w (n.box ⟨sa, k, sc⟩ ⟨la, m, lc⟩))
  have HB0 : Hid (Below w.heap.size w (w.alloc (n.box ⟨sa, k, sc⟩ ⟨la, m, lc⟩))) := (Below.refl _ _).alloc (Nat.le_refl _) _
  obtain ⟨c0, c1, c2, -, -, -⟩ := box3_cells HX0.out
  clear h hp
  go_enter Try.func13, Try.ntmps13
  go_upto_region 3 with (go_at_call 50; refine (awake52_any _).mono ?_; rintro e w1 ⟨rfl, hb1⟩; have HB1 := Lib.hid (HB0.out.trans (hb1.mono HB0.out.size)); have HX1 := Lib.hid (box_below HX0.out hb1); clear hb1)
  clear c0 c1 c2 HX0 HB0
  obtain ⟨c0, c1, c2, -, -, -⟩ := box3_cells HX1.out
  obtain ⟨fb, hfb⟩ : ∃ fb, decide (k ≤ 60 ∧ m ≤ 120) = fb := ⟨_, rfl⟩
  have HFB := Lib.hid hfb
  clear hfb
  cases fb with
  | false =>
    go_wp2_with (go_at_call 16; refine (few_any n ⟨sa, k, sc⟩ ⟨la, m, lc⟩ _).mono ?_; rintro e w2 ⟨rfl, hb2⟩; rw [HFB.out]; have HB2 := Lib.hid (HB1.out.trans (hb2.mono HB1.out.size)); clear hb2)
    go_ret
    exact ⟨rfl, HB2.out⟩
  | true =>
  obtain ⟨k60, m120⟩ := of_decide_eq_true HFB.out
  by_cases hbig : (30 : Int) < (pn : Int)
  · go_wp2_with (go_at_call 16; refine (few_any n ⟨sa, k, sc⟩ ⟨la, m, lc⟩ _).mono ?_; rintro e w2 ⟨rfl, hb2⟩; rw [HFB.out]; have HB2 := Lib.hid (HB1.out.trans (hb2.mono HB1.out.size)); clear hb2)
    go_ret
    exact ⟨rfl, HB2.out⟩
  have hbf : decide ((30 : Int) < (pn : Int)) = false := decide_eq_false hbig
  have hp4 : pn ≤ 30 := by omega
  have hp5 : pn ≤ 4096 := by omega
  obtain ⟨ce, hce⟩ : ∃ ce, checkE n = ce := ⟨_, rfl⟩
  have HCE := Lib.hid hce
  clear hce
  by_cases he : ce = 0
  case neg =>
    have e0 : (ce == 0) = false := by simpa using he
    have e1 : (ce != 0) = true := by simpa using he
    have HGZ : Hid (flowE n m k ps = ⟨[], [], [], 0⟩) := if_neg (by rw [HCE.out]; exact he)
    go_wp2_with (first
      | (go_at_call 16; refine (few_any n ⟨sa, k, sc⟩ ⟨la, m, lc⟩ _).mono ?_; rintro e w2 ⟨rfl, hb2⟩; rw [HFB.out]; have HB2 := Lib.hid (HB1.out.trans (hb2.mono HB1.out.size)); have HX2 := Lib.hid (box_below HX1.out hb2); obtain ⟨d0, d1, d2, -, -, -⟩ := box3_cells HX2.out; clear hb2)
      | (go_at_call 51; go_loud (refine (fcount_gen n ⟨sa, k, sc⟩ ⟨la, m, lc⟩ pa pn pc ps _ (HH.out.below HB2.out) (HPP.out.below HB2.out) k60 m120 hp5).mono ?_); rintro e w3 ⟨a1, n1, q1, a2, n2, q2, a3, n3, q3, rfl, hf, hb3, -⟩; rw [HCE.out]; rw [show flowE n (Hdr.mk la m lc).n (Hdr.mk sa k sc).n ps = ⟨[], [], [], 0⟩ from HGZ.out] at hf ⊢; simp only []; have hn1 := hf.l.hlen; simp only [List.length_nil] at hn1; subst hn1; have HB3 := Lib.hid (HB2.out.trans (hb3.mono HB2.out.size)); clear hf hb3))
    go_ret
    exact ⟨rfl, HB3.out.alloc HB3.out.size _⟩
  case pos =>
  subst he
  have HLO : Hid (LinksOk n.links k) := by have e : k = n.stops.length := HKN.out; show LinksOk _ _; rw [e]; exact (check_ok HCE.out).2.2.2.2.1
  have HPW : Hid (n.links.Pairwise fun a b => aftB a b = true) := (check_ok HCE.out).2.2.2.2.2
  obtain ⟨F, hF⟩ : ∃ F, cntF n k ps Fw.zero = F := ⟨_, rfl⟩
  have HFE : Hid (flowE n m k ps = F.fl m k) := by show _ = _; rw [flowE_yes HCE.out, hF]
  have HFL : Hid ((flowE n m k ps).lost = F.lost) := by show _ = _; rw [HFE.out]; rfl
  have HFC := Lib.hid hF
  have HPL : Hid (pn = ps.length) := HPP.out.hlen
  have HLIM : Hid (F.Lim pn) := by
    have := cntF_inv (n := n) (k := k) (P := Fw.Lim) (fun F q p hh => hh.go (fun e => (wayErr_in HCE.out HKN.out HLN.out k60 m120 e).2)) ps Fw.zero 0 Fw.Lim.zero
    rw [hF, Nat.zero_add, ← HPL.out] at this
    exact this
  have HBAL : Hid (F.Bal n.links k m pn) := by
    have := cntF_inv (n := n) (k := k) (P := Fw.Bal n.links k m) (fun F q p hh => hh.go HLO.out HPW.out HLN.out (fun a b e => (wayErr_in HCE.out HKN.out HLN.out k60 m120 e).1) p) ps Fw.zero 0 (Fw.Bal.zero _ _ _)
    rw [hF, Nat.zero_add, ← HPL.out] at this
    exact this
  clear hF
  go_upto_region 8 with (first
    | (go_at_call 16; refine (few_any n ⟨sa, k, sc⟩ ⟨la, m, lc⟩ _).mono ?_; rintro e w2 ⟨rfl, hb2⟩; rw [HFB.out]; have HB2 := Lib.hid (HB1.out.trans (hb2.mono HB1.out.size)); have HX2 := Lib.hid (box_below HX1.out hb2); obtain ⟨d0, d1, d2, -, -, -⟩ := box3_cells HX2.out; clear hb2)
    | (go_at_call 51; go_loud (refine (fcount_gen n ⟨sa, k, sc⟩ ⟨la, m, lc⟩ pa pn pc ps _ (HH.out.below HB2.out) (HPP.out.below HB2.out) k60 m120 hp5).mono ?_); rintro e w3 ⟨a1, n1, q1, a2, n2, q2, a3, n3, q3, rfl, hf, hb3, -⟩; rw [HCE.out]; rw [show (flowE n (Hdr.mk la m lc).n (Hdr.mk sa k sc).n ps).lost = F.lost from HFL.out]; rw [show flowE n (Hdr.mk la m lc).n (Hdr.mk sa k sc).n ps = F.fl m k from HFE.out] at hf; have hn1 := hf.l.hlen; have hn2 := hf.n.hlen; have hn3 := hf.f.hlen; simp only [Fw.fl, fl_len] at hn1 hn2 hn3; replace hn1 := hn1.symm; replace hn2 := hn2.symm; replace hn3 := hn3.symm; subst hn1; subst hn2; subst hn3; have HF3 := Lib.hid hf; have HB3 := Lib.hid (HB2.out.trans (hb3.mono HB2.out.size)); have HX3 := Lib.hid (box_below HX2.out hb3); clear hf hb3))
  clear c0 c1 c2 d0 d1 d2 HX1 HB1 HX2 HB2
  have HX4 := Lib.hid (box_alloc (o := .cells #[.slice a1 m q1, .slice a2 k q2, .slice a3 k q3, .int .i64 F.lost] 78) HX3.out)
  have HY4 := Lib.hid (box_new w3 (.cells #[.slice a1 m q1, .slice a2 k q2, .slice a3 k q3, .int .i64 F.lost] 78))
  have HB4 := Lib.hid (HB3.out.alloc HB3.out.size (.cells #[.slice a1 m q1, .slice a2 k q2, .slice a3 k q3, .int .i64 F.lost] 78))
  have HF4 : Hid (FlIn (w3.alloc (.cells #[.slice a1 m q1, .slice a2 k q2, .slice a3 k q3, .int .i64 F.lost] 78)) (F.fl m k) ⟨⟨a1, m, q1⟩, ⟨a2, k, q2⟩, ⟨a3, k, q3⟩⟩) := HF3.out.below ((Below.refl _ _).alloc (Nat.le_refl _) _)
  obtain ⟨z, hz⟩ : ∃ z, w3.heap.size = z := ⟨_, rfl⟩
  obtain ⟨w4, hw4⟩ : ∃ w4, w3.alloc (.cells #[.slice a1 m q1, .slice a2 k q2, .slice a3 k q3, .int .i64 F.lost] 78) = w4 := ⟨_, rfl⟩
  rw [hw4] at HX4 HY4 HB4 HF4 ⊢
  rw [hz] at HY4 ⊢
  clear hw4 hz HX3 HB3 HF3
  obtain ⟨c0, c1, c2, -, -, -⟩ := box3_cells HX4.out
  obtain ⟨y0, y1, y2, y3⟩ := box4_cells HY4.out
  have hxl := box_lt HX4.out
  have hyl := box_lt HY4.out
  have HSL : Hid (∀ j : Nat, (0 ≤ sumTo F.on j ∧ sumTo F.on j ≤ j * 100) ∧ 0 ≤ sumTo F.off j ∧ sumTo F.off j ≤ j * 100) := fun j => ⟨sumTo_lim (q := 0) (fun i => by have := HLIM.out.n i; omega) j, sumTo_lim (q := 0) (fun i => by have := HLIM.out.f i; omega) j⟩
  have HIL : Hid (∀ (i : Int) (e : Nat), 0 ≤ incTo n.links F.L i e ∧ incTo n.links F.L i e ≤ e * 1000000000000) := fun i e => incTo_lim (fun i => by have := HLIM.out.l i; omega) i e
  go_wp2_with fail
  go_loopw [9, 10, 72] (fun on off i wr => ∃ j : Nat, i = .int .i64 j ∧ on = .int .i64 (sumTo F.on j) ∧ off = .int .i64 (sumTo F.off j) ∧ j ≤ k ∧ Hid (Below w4.heap.size w4 wr)) (fun _ _ i _ => k - (intOf i).toNat)
  case atStart => exact ⟨0, by go_num, rfl, rfl, by omega, Below.refl _ _⟩
  case round =>
    clear c0 c1 c2 y0 y1 y2 y3 hxl hyl
    obtain ⟨j, rfl, rfl, rfl, hj, HBr⟩ := hrel
    have HXr := Lib.hid (box_below HX4.out HBr.out)
    have HYr := Lib.hid (box_below HY4.out HBr.out)
    obtain ⟨c0, c1, c2, -, -, -⟩ := box3_cells HXr.out
    obtain ⟨y0, y1, y2, y3⟩ := box4_cells HYr.out
    have hxl := box_lt HXr.out
    have hyl := box_lt HYr.out
    obtain ⟨so1, so2⟩ := (HSL.out j).1
    obtain ⟨sf1, sf2⟩ := (HSL.out j).2
    by_cases hlt : j < k
    · as_aux_lemma =>
        obtain ⟨b2, off2, r2, e2, hb2l, hr2, p2⟩ := int_at (HF4.out.n.below HBr.out) hlt
        obtain ⟨b3, off3, r3, e3, hb3l, hr3, p3⟩ := int_at (HF4.out.f.below HBr.out) hlt
        have e2 : a2 = _ := e2
        have e3 : a3 = _ := e3
        subst e2
        subst e3
        have hr2' := Option.some.inj ((fl_at F.on hlt).symm.trans hr2)
        have hr3' := Option.some.inj ((fl_at F.off hlt).symm.trans hr3)
        subst hr2' hr3'
        clear hr2 hr3
        have hji : (j : Int) < (k : Int) := by omega
        obtain ⟨n1, n2⟩ := HLIM.out.n j
        obtain ⟨f1, f2⟩ := HLIM.out.f j
        have HEV := Lib.hid (HBAL.out.ev j hlt)
        have HS1 : Hid (sumTo F.on (j + 1) = sumTo F.on j + F.on j ∧ sumTo F.off (j + 1) = sumTo F.off j + F.off j) := ⟨rfl, rfl⟩
        obtain ⟨x1, hx1⟩ : ∃ x1, sumTo F.on j = x1 := ⟨_, rfl⟩
        obtain ⟨x2, hx2⟩ : ∃ x2, sumTo F.off j = x2 := ⟨_, rfl⟩
        obtain ⟨x3, hx3⟩ : ∃ x3, F.on j = x3 := ⟨_, rfl⟩
        obtain ⟨x4, hx4⟩ : ∃ x4, F.off j = x4 := ⟨_, rfl⟩
        rw [hx1, hx2, hx3, hx4] at HS1
        rw [hx3, hx4] at HEV
        rw [hx1] at so1 so2 ⊢
        rw [hx2] at sf1 sf2 ⊢
        rw [hx3] at n1 n2 p2
        rw [hx4] at f1 f2 p3
        clear hx1 hx2 hx3 hx4
        have hw1 : IntKind.i64.wrap (x1 + x3) = x1 + x3 := by rw [IntKind.wrap_i64]; omega
        have hw2 : IntKind.i64.wrap (x2 + x4) = x2 + x4 := by rw [IntKind.wrap_i64]; omega
        have hw3 : IntKind.i64.wrap (x3 + x4) = x3 + x4 := by rw [IntKind.wrap_i64]; omega
        go_upto_region 16 with fail
        go_quiet (fail)
        have HBq : Hid (Below w4.heap.size w4 (wr.drewN nq)) := below_drewN HBr.out _
        obtain ⟨wq, hwq⟩ : ∃ wq, wr.drewN nq = wq := ⟨_, rfl⟩
        rw [hwq] at HBq ⊢
        clear hwq c0 c1 c2 y0 y1 y2 y3 hxl hyl p2 p3 hb2l hb3l HXr HYr HBr
        have HXr := Lib.hid (box_below HX4.out HBq.out)
        have HYr := Lib.hid (box_below HY4.out HBq.out)
        obtain ⟨c0, c1, c2, -, -, -⟩ := box3_cells HXr.out
        have hxl := box_lt HXr.out
        go_wp2_with fail
        clear c0 c1 c2 hxl HXr HYr
        go_loopw [12, 103] (fun al i wr => ∃ e : Nat, i = .int .i64 e ∧ al = .int .i64 (x3 + x4 + incTo n.links F.L j e) ∧ e ≤ m ∧ Hid (Below w4.heap.size w4 wr)) (fun _ i _ => m - (intOf i).toNat)
        case atStart => exact ⟨0, by go_num, by show _ = Value.int _ (x3 + x4 + 0); rw [Int.add_zero], by omega, HBq.out⟩
        case round =>
          clear HBq
          obtain ⟨e, rfl, rfl, he, HBi⟩ := hrel
          have HXr := Lib.hid (box_below HX4.out HBi.out)
          have HYr := Lib.hid (box_below HY4.out HBi.out)
          obtain ⟨y0, y1, y2, y3⟩ := box4_cells HYr.out
          have hyl := box_lt HYr.out
          obtain ⟨u1, u2⟩ := HIL.out j e
          by_cases hlt2 : e < m
          · as_aux_lemma =>
              obtain ⟨lb, loff, l, e1, hlbl, hlj, l0, l1, l2⟩ := lnk_at (HH.out.l.below (HB4.out.trans (HBi.out.mono HB4.out.size))) hlt2
              have e1 : la = _ := e1
              subst e1
              obtain ⟨b1, off1, r1, e2, hb1l, hr1, p1⟩ := int_at (HF4.out.l.below HBi.out) hlt2
              have e2 : a1 = _ := e2
              subst e2
              have hr1' := Option.some.inj ((fl_at F.L hlt2).symm.trans hr1)
              subst hr1'
              have hin := incTo_some hlj F.L j
              obtain ⟨A, B, x⟩ := l
              obtain ⟨g1, g2⟩ := HLIM.out.l e
              have hei : (e : Int) < (m : Int) := by omega
              obtain ⟨I, hI⟩ : ∃ I, incTo n.links F.L j e = I := ⟨_, rfl⟩
              rw [hI] at hin u1 u2 ⊢
              obtain ⟨fe, hfe⟩ : ∃ fe, F.L e = fe := ⟨_, rfl⟩
              rw [hfe] at p1 g1 g2 hin
              have hw4 : IntKind.i64.wrap (x3 + x4 + I + fe) = x3 + x4 + I + fe := by rw [IntKind.wrap_i64]; omega
              have HIN := Lib.hid hin
              have hbl := HBi.out.size
              clear hr1 hlj hin hI hfe
              by_cases t1 : A = (j : Int)
              · have b1' : (A == (j : Int)) = true := by simpa using t1
                have HT : Hid (incTo n.links F.L j (e + 1) = I + fe) := by
                  show _ = _; rw [HIN.out, if_pos (show touch ⟨A, B, x⟩ (j : Int) = true from decide_eq_true (Or.inl t1))]
                go_wp2_with fail
                go_roundw
                case rel => exact ⟨e + 1, by go_num, by rw [HT.out, Int.add_assoc], by omega, HBi.out.alloc HBi.out.size _⟩
                case measure => simp [intOf]; omega
              · have b1' : (A == (j : Int)) = false := by simpa using t1
                by_cases t2 : B = (j : Int)
                · have b2' : (B == (j : Int)) = true := by simpa using t2
                  have HT : Hid (incTo n.links F.L j (e + 1) = I + fe) := by
                    show _ = _; rw [HIN.out, if_pos (show touch ⟨A, B, x⟩ (j : Int) = true from decide_eq_true (Or.inr t2))]
                  go_wp2_with fail
                  go_roundw
                  case rel => exact ⟨e + 1, by go_num, by rw [HT.out, Int.add_assoc], by omega, HBi.out.alloc HBi.out.size _⟩
                  case measure => simp [intOf]; omega
                · have b2' : (B == (j : Int)) = false := by simpa using t2
                  have HT : Hid (incTo n.links F.L j (e + 1) = I) := by
                    show _ = _; rw [HIN.out, if_neg (by intro q; rcases of_decide_eq_true q with q | q; exact t1 q; exact t2 q), Int.add_zero]
                  go_wp2_with fail
                  go_roundw
                  case rel => exact ⟨e + 1, by go_num, by rw [HT.out], by omega, HBi.out.alloc HBi.out.size _⟩
                  case measure => simp [intOf]; omega
          · have hem : m = e := by omega
            subst hem
            obtain ⟨X, hX⟩ : ∃ X, x3 + x4 + incTo n.links F.L j m = X := ⟨_, rfl⟩
            have hev := HEV.out
            rw [hX] at hev
            have hx0 : 0 ≤ X := by omega
            have hrem : X.tmod 2 = 0 := by rw [Int.tmod_eq_emod_of_nonneg hx0, hev]
            rw [hX]
            clear hX hev
            go_wp2_with fail
            go_roundw
            case rel => exact ⟨j + 1, by go_num, by rw [HS1.out.1], by rw [HS1.out.2], by omega, HBi.out⟩
            case measure => simp [intOf]; omega
    · have hjk : k = j := by omega
      subst hjk
      have heq := HBAL.out.eq
      have hall := HBAL.out.all
      obtain ⟨S, hS⟩ : ∃ S, sumTo F.on k = S := ⟨_, rfl⟩
      rw [hS] at heq hall so1 so2
      rw [hS, ← heq]
      have hws : IntKind.i64.wrap (S + F.lost) = (pn : Int) := by rw [IntKind.wrap_i64]; omega
      have hwp : IntKind.i64.wrap ((pn : Int) + 1) = (pn : Int) + 1 := by rw [IntKind.wrap_i64]; omega
      have hwa : IntKind.i64.wrap (at_ : Int) = (at_ : Int) := by rw [IntKind.wrap_i64]; omega
      obtain ⟨kq, hkq⟩ : ∃ kq, at_ % (pn + 1) = kq := ⟨_, rfl⟩
      have hkn : kq ≤ pn := by rw [← hkq]; exact Nat.lt_succ_iff.1 (Nat.mod_lt _ (by omega))
      have htm : (at_ : Int).tmod ((pn : Int) + 1) = (kq : Int) := by
        rw [← hkq, Int.tmod_eq_emod_of_nonneg (by omega)]; simp
      have hp0 : (pn : Int) + 1 ≠ 0 := by omega
      clear heq hall hS hkq
      have HSA : Hid (Sl pr2 w pa kq pc (ps.take kq)) := sl_upto HPP.out hkn
      have hsB := sl_from HPP.out hkn
      obtain ⟨pb, hpb⟩ : ∃ pb, (if pc = kq then pa else pa.map (·.add (kq * pr2.k))) = pb := ⟨_, rfl⟩
      obtain ⟨pm, hpm⟩ : ∃ pm, pn - kq = pm := ⟨_, rfl⟩
      obtain ⟨pq, hpq⟩ : ∃ pq, pc - kq = pq := ⟨_, rfl⟩
      rw [hpb, hpm, hpq] at hsB
      have HSB := Lib.hid hsB
      have hpcn : pn ≤ pc := HPP.out.hcap
      have hslA := run_upto HPP.out hkn
      have hslB := run_from HPP.out hkn
      rw [hpb, hpm, hpq] at hslB
      have HBw : Hid (Below w.heap.size w wr) := HB4.out.trans (HBr.out.mono HB4.out.size)
      have HFA : Hid (flowE n m k (ps.take kq) = (cntF n k (ps.take kq) Fw.zero).fl m k) := flowE_yes HCE.out
      have HFB' : Hid (flowE n m k (ps.drop kq) = (cntF n k (ps.drop kq) Fw.zero).fl m k) := flowE_yes HCE.out
      obtain ⟨FA, hFA⟩ : ∃ FA, cntF n k (ps.take kq) Fw.zero = FA := ⟨_, rfl⟩
      obtain ⟨FB, hFB⟩ : ∃ FB, cntF n k (ps.drop kq) Fw.zero = FB := ⟨_, rfl⟩
      rw [hFA] at HFA
      rw [hFB] at HFB'
      have HAB : Hid (F = FA.add FB) := by show _ = _; rw [← hFA, ← hFB, ← HFC.out]; exact cntF_parts n k ps kq
      have HMF : Hid (mergeB (FA.fl m k) (FB.fl m k) = true ∧ mergeL (FA.fl m k) (FB.fl m k) = F.fl m k) := by
        have q1 := cntF_inv (n := n) (k := k) (P := Fw.Lim) (fun F q p hh => hh.go (fun e => (wayErr_in HCE.out HKN.out HLN.out k60 m120 e).2)) (ps.take kq) Fw.zero 0 Fw.Lim.zero
        have q2 := cntF_inv (n := n) (k := k) (P := Fw.Lim) (fun F q p hh => hh.go (fun e => (wayErr_in HCE.out HKN.out HLN.out k60 m120 e).2)) (ps.drop kq) Fw.zero 0 Fw.Lim.zero
        rw [hFA] at q1
        rw [hFB] at q2
        have hl := HPL.out
        have := merge_fl (k := k) (m := m) q1 q2 (by rw [List.length_take]; omega) (by rw [List.length_drop]; omega)
        rw [← HAB.out] at this
        exact this
      have hkq30 : kq ≤ 4096 := by omega
      have hpm30 : pm ≤ 4096 := by omega
      clear hsB hpb hpm hpq hFA hFB
      go_upto_region 29 with fail
      go_cut [16, 17] (fun v ev wx => ev = .int .i64 0 ∧ Hid (FlBox wr wx FA m k v))
      case first =>
        go_region_held3 (fun w' => w'.cell? ⟨w.heap.size, 0, none⟩ = some (.int .i64 n.ver) ∧ w'.cell? ⟨w.heap.size, 1, none⟩ = some (.slice sa k sc) ∧ w'.cell? ⟨w.heap.size, 2, none⟩ = some (.slice la m lc))
          (first | (with_reducible exact box3_cells3 HX5.out) | (with_reducible exact box3_cells3 (box_alloc HX5.out)) | (with_reducible refine box3_cells3 (box_set4 HX5.out ?_); omega) | go_keep)
          (first
            | (go_at_call 51; go_fit (fcount_gen n ⟨sa, k, sc⟩ ⟨la, m, lc⟩ pa kq pc (ps.take kq) wr.drew ((HH.out.below HBw.out).below (Below.drew (Below.refl _ _))) (HSA.out.below (HBw.out.trans (Below.drew (Below.refl _ _)))) k60 m120 hkq30); rintro e w5 ⟨d1, k1, s1, d2, k2, s2, d3, k3, s3, rfl, hf, hb, hnw⟩; rw [HCE.out]; rw [show flowE n (Hdr.mk la m lc).n (Hdr.mk sa k sc).n (ps.take kq) = FA.fl m k from HFA.out] at hf ⊢; rw [show (FA.fl m k).lost = FA.lost from rfl]; have HF5 := Lib.hid hf; have HX5 := Lib.hid (box_below (w := wr.drew) HXr.out hb); have HB5 : Hid (Below wr.heap.size wr w5) := (Below.drew (Below.refl _ _)).trans hb; clear hf hb hnw)
            | (go_at_call 51; go_fit (fcount_gen n ⟨sa, k, sc⟩ ⟨la, m, lc⟩ pa kq pc (ps.take kq) (wr.alloc (.cells #[.slice none 0 0, .slice none 0 0, .slice none 0 0, .int .i64 0] 78)).drew ((HH.out.below HBw.out).below (Below.drew ((Below.refl _ _).alloc (Nat.le_refl _) _))) (HSA.out.below (HBw.out.trans (Below.drew ((Below.refl _ _).alloc HBw.out.size _)))) k60 m120 hkq30); rintro e w5 ⟨d1, k1, s1, d2, k2, s2, d3, k3, s3, rfl, hf, hb, hnw⟩; rw [HCE.out]; rw [show flowE n (Hdr.mk la m lc).n (Hdr.mk sa k sc).n (ps.take kq) = FA.fl m k from HFA.out] at hf ⊢; rw [show (FA.fl m k).lost = FA.lost from rfl]; have HF5 := Lib.hid hf; have HX5 := Lib.hid (box_below (w := (wr.alloc (.cells #[.slice none 0 0, .slice none 0 0, .slice none 0 0, .int .i64 0] 78)).drew) (box_alloc HXr.out) hb); have HZ0 := Lib.hid (box_below (w := (wr.alloc (.cells #[.slice none 0 0, .slice none 0 0, .slice none 0 0, .int .i64 0] 78)).drew) (box_new wr (.cells #[.slice none 0 0, .slice none 0 0, .slice none 0 0, .int .i64 0] 78)) hb); obtain ⟨zc0, zc1, zc2, zc3⟩ := box4_cells HZ0.out; have zf0 := (box_cell HZ0.out 0).2; have zf1 := (box_cell HZ0.out 1).2; have zf2 := (box_cell HZ0.out 2).2; have zf3 := (box_cell HZ0.out 3).2; have HNW : Hid (∀ d, d1 = some d ∨ d2 = some d ∨ d3 = some d → wr.heap.size < d.block) := (fun d hd => by have := hnw d hd; simp at this; omega); have HB5 : Hid (Below wr.heap.size wr w5) := (Below.drew ((Below.refl _ _).alloc (Nat.le_refl _) _)).trans (hb.mono (by simp)); clear hf hb hnw))
        all_goals
          go_wp2_with fail
          go_meet
          first
            | (have hway := HZ0.out; clear hway; exact ⟨rfl, wr.heap.size, d1, k1, s1, d2, k2, s2, d3, k3, s3, rfl, box4_set HZ0.out _ _ _ _, fl_set (fl_set (fl_set (fl_set HF5.out HNW.out) HNW.out) HNW.out) HNW.out, below_set (below_set (below_set (below_set HB5.out (Nat.le_refl _)) (Nat.le_refl _)) (Nat.le_refl _)) (Nat.le_refl _)⟩)
            | exact ⟨rfl, w5.heap.size, d1, k1, s1, d2, k2, s2, d3, k3, s3, rfl, box_new _ _, HF5.out.below ((Below.refl _ _).alloc (Nat.le_refl _) _), HB5.out.alloc HB5.out.size _⟩
      case rest =>
        obtain ⟨rfl, HFX⟩ := hcut
        obtain ⟨z5, d1, k1, s1, d2, k2, s2, d3, k3, s3, rfl, hz5, hf5, hb5⟩ := HFX.out
        rename World => w6
        have HZ5 := Lib.hid hz5
        have HF5 := Lib.hid hf5
        have HBr6 : Hid (Below w4.heap.size w4 w6) := HBr.out.trans (hb5.mono HBr.out.size)
        have HBw6 : Hid (Below w.heap.size w w6) := HBw.out.trans (hb5.mono HBw.out.size)
        have HXr6 := Lib.hid (box_below HXr.out hb5)
        have HYr6 := Lib.hid (box_below HYr.out hb5)
        clear hz5 hf5 hb5 HFX HXr HYr HBr HBw c0 c1 c2 y0 y1 y2 y3 hxl hyl
        obtain ⟨c0, c1, c2, -, -, -⟩ := box3_cells HXr6.out
        have hxl := box_lt HXr6.out
        go_upto_region 30 with fail
        go_cut [18, 19] (fun v ev wx => ev = .int .i64 0 ∧ Hid (FlBox w6 wx FB m k v))
        case first =>
          go_region_held3 (fun w' => w'.cell? ⟨w.heap.size, 0, none⟩ = some (.int .i64 n.ver) ∧ w'.cell? ⟨w.heap.size, 1, none⟩ = some (.slice sa k sc) ∧ w'.cell? ⟨w.heap.size, 2, none⟩ = some (.slice la m lc))
            (first | (with_reducible exact box3_cells3 HX5.out) | (with_reducible exact box3_cells3 (box_alloc HX5.out)) | (with_reducible refine box3_cells3 (box_set4 HX5.out ?_); omega) | go_keep)
            (first
              | (go_at_call 51; go_fit (fcount_gen n ⟨sa, k, sc⟩ ⟨la, m, lc⟩ pb pm pq (ps.drop kq) w6.drew ((HH.out.below HBw6.out).below (Below.drew (Below.refl _ _))) (HSB.out.below (HBw6.out.trans (Below.drew (Below.refl _ _)))) k60 m120 hpm30); rintro e w7 ⟨d1', k1', s1', d2', k2', s2', d3', k3', s3', rfl, hf, hb, hnw⟩; rw [HCE.out]; rw [show flowE n (Hdr.mk la m lc).n (Hdr.mk sa k sc).n (ps.drop kq) = FB.fl m k from HFB'.out] at hf ⊢; rw [show (FB.fl m k).lost = FB.lost from rfl]; have HF5 := Lib.hid hf; have HX5 := Lib.hid (box_below (w := w6.drew) HXr6.out hb); have HB5 : Hid (Below w6.heap.size w6 w7) := (Below.drew (Below.refl _ _)).trans hb; clear hf hb hnw)
              | (go_at_call 51; go_fit (fcount_gen n ⟨sa, k, sc⟩ ⟨la, m, lc⟩ pb pm pq (ps.drop kq) (w6.alloc (.cells #[.slice none 0 0, .slice none 0 0, .slice none 0 0, .int .i64 0] 78)).drew ((HH.out.below HBw6.out).below (Below.drew ((Below.refl _ _).alloc (Nat.le_refl _) _))) (HSB.out.below (HBw6.out.trans (Below.drew ((Below.refl _ _).alloc HBw6.out.size _)))) k60 m120 hpm30); rintro e w7 ⟨d1', k1', s1', d2', k2', s2', d3', k3', s3', rfl, hf, hb, hnw⟩; rw [HCE.out]; rw [show flowE n (Hdr.mk la m lc).n (Hdr.mk sa k sc).n (ps.drop kq) = FB.fl m k from HFB'.out] at hf ⊢; rw [show (FB.fl m k).lost = FB.lost from rfl]; have HF5 := Lib.hid hf; have HX5 := Lib.hid (box_below (w := (w6.alloc (.cells #[.slice none 0 0, .slice none 0 0, .slice none 0 0, .int .i64 0] 78)).drew) (box_alloc HXr6.out) hb); have HZ0 := Lib.hid (box_below (w := (w6.alloc (.cells #[.slice none 0 0, .slice none 0 0, .slice none 0 0, .int .i64 0] 78)).drew) (box_new w6 (.cells #[.slice none 0 0, .slice none 0 0, .slice none 0 0, .int .i64 0] 78)) hb); obtain ⟨zc0, zc1, zc2, zc3⟩ := box4_cells HZ0.out; have zf0 := (box_cell HZ0.out 0).2; have zf1 := (box_cell HZ0.out 1).2; have zf2 := (box_cell HZ0.out 2).2; have zf3 := (box_cell HZ0.out 3).2; have HNW : Hid (∀ d, d1' = some d ∨ d2' = some d ∨ d3' = some d → w6.heap.size < d.block) := (fun d hd => by have := hnw d hd; simp at this; omega); have HB5 : Hid (Below w6.heap.size w6 w7) := (Below.drew ((Below.refl _ _).alloc (Nat.le_refl _) _)).trans (hb.mono (by simp)); clear hf hb hnw))
          all_goals
            go_wp2_with fail
            go_meet
            first
              | (have hway := HZ0.out; clear hway; exact ⟨rfl, w6.heap.size, d1', k1', s1', d2', k2', s2', d3', k3', s3', rfl, box4_set HZ0.out _ _ _ _, fl_set (fl_set (fl_set (fl_set HF5.out HNW.out) HNW.out) HNW.out) HNW.out, below_set (below_set (below_set (below_set HB5.out (Nat.le_refl _)) (Nat.le_refl _)) (Nat.le_refl _)) (Nat.le_refl _)⟩)
              | exact ⟨rfl, w7.heap.size, d1', k1', s1', d2', k2', s2', d3', k3', s3', rfl, box_new _ _, HF5.out.below ((Below.refl _ _).alloc (Nat.le_refl _) _), HB5.out.alloc HB5.out.size _⟩
        case rest =>
          obtain ⟨rfl, HFX⟩ := hcut
          obtain ⟨z7, d4, k4, s4, d5, k5, s5, d6, k6, s6, rfl, hz7, hf7, hb7⟩ := HFX.out
          rename World => w8
          have HZ7 := Lib.hid hz7
          have HF7 := Lib.hid hf7
          have HF5' := Lib.hid (HF5.out.below hb7)
          have HZ5' := Lib.hid (box_below HZ5.out hb7)
          have HBr8 : Hid (Below w4.heap.size w4 w8) := HBr6.out.trans (hb7.mono HBr6.out.size)
          have HYr8 := Lib.hid (box_below HYr6.out hb7)
          have l1 := HF5'.out.l.hlen
          have l2 := HF5'.out.n.hlen
          have l3 := HF5'.out.f.hlen
          have l4 := HF7.out.l.hlen
          have l5 := HF7.out.n.hlen
          have l6 := HF7.out.f.hlen
          simp only [Fw.fl, fl_len] at l1 l2 l3 l4 l5 l6
          have HKK : Hid ((k1 ≤ 1000000 ∧ k2 ≤ 1000000 ∧ k3 ≤ 1000000) ∧ (k4 ≤ 1000000 ∧ k5 ≤ 1000000 ∧ k6 ≤ 1000000)) := ⟨⟨by omega, by omega, by omega⟩, by omega, by omega, by omega⟩
          clear hz7 hf7 hb7 HFX HXr6 HYr6 HBr6 HBw6 c0 c1 c2 hxl HF5 HZ5 l1 l2 l3 l4 l5 l6
          obtain ⟨x0, x1, x2, x3⟩ := box4_cells HZ5'.out
          obtain ⟨y0, y1, y2, y3⟩ := box4_cells HZ7.out
          have hxl := box_lt HZ5'.out
          have hyl := box_lt HZ7.out
          have hb0 := HB4.out.size
          go_wp2_with (first
            | (go_at_call 54; go_loud (refine (fmerge_any (FA.fl m k) (FB.fl m k) d1 k1 s1 d2 k2 s2 d3 k3 s3 d4 k4 s4 d5 k5 s5 d6 k6 s6 w8 HF5'.out HF7.out HKK.out.1 HKK.out.2).mono ?_); rintro e w9 ⟨f1, j1, t1, f2, j2, t2, f3, j3, t3, rfl, hf, hb⟩; rw [HMF.out.1]; rw [HMF.out.2] at hf ⊢; rw [show (F.fl m k).lost = F.lost from rfl]; have HF9 := Lib.hid hf; have HB9 : Hid (Below w4.heap.size w4 w9) := HBr8.out.trans (hb.mono HBr8.out.size); have HY9 := Lib.hid (box_below HYr8.out hb); obtain ⟨g0, g1, g2, g3⟩ := box4_cells HY9.out; have hgl := box_lt HY9.out; clear hf hb)
            | (go_at_call 52; go_loud (refine (fsame_any (F.fl m k) ⟨⟨f1, j1, t1⟩, ⟨f2, j2, t2⟩, ⟨f3, j3, t3⟩⟩ ⟨⟨a1, m, q1⟩, ⟨a2, k, q2⟩, ⟨a3, k, q3⟩⟩ _ (HF9.out.below ((Below.refl _ _).alloc (Nat.le_refl _) _)) (HF4.out.below (HB9.out.alloc HB9.out.size _))).mono ?_); rintro e w10 ⟨rfl, hb10⟩; have HB10 : Hid (Below w.heap.size w w10) := (HB4.out.trans ((HB9.out.alloc HB9.out.size (.cells #[.slice f1 j1 t1, .slice f2 j2 t2, .slice f3 j3 t3, .int .i64 F.lost] 78)).mono HB4.out.size)).trans (hb10.mono (by have := HB9.out.size; simp; omega)); clear hb10))
          go_ret
          exact ⟨rfl, HB10.out⟩
end Go.Proofs.Yteihffnmgacfpaa.Ne

namespace Go.Proofs.Yteihffnmgacfpaa.lawFlowFits
open Go.ChangeShapes Go.WideShapes Go.ChangeAt Go.RowKit Go.V Go.Proofs.Yteihffnmgacfpaa.Ne

theorem own : ownKnob Try.prog.godebug = none := by kernel_rfl
theorem laidOut : laidOutB Try.prog = true := by kernel_rfl

theorem pr_opened {H : Type} {enc : TypeId × Value → H} {w : World} {b0 : Nat} {spare : Nat → Bool} {held : Bool} (n : Nat) (cs : List Value) (y : DataW H × List MemPlace) (h : DataW.trod enc Try.prog w b0 spare held n 35 cs = some y) : ∃ x, cs = pr2.enc x ∧ True := by
  obtain ⟨xs, m, -, -, hl, hxl, hx⟩ := DataW.trod_array Try.underlying35 h
  have hc : Try.prog.cellsOf 3 = 1 := by kernel_rfl
  have hl' : cs.length = 2 := by rw [hl]; kernel_rfl
  obtain ⟨v0, v1, rfl⟩ := list2 hl'
  have h0 := hx 0 (by omega)
  have h1 := hx 1 (by omega)
  obtain ⟨y0, y1, rfl⟩ := list2 hxl
  simp [hc] at h0 h1
  obtain ⟨n0, e0, -, w0⟩ := DataW.trod_int Try.underlying3 h0
  obtain ⟨n1, e1, -, w1⟩ := DataW.trod_int Try.underlying3 h1
  simp at e0 e1
  subst e0; subst e1
  exact ⟨⟨n0, n1⟩, rfl, trivial⟩

theorem u8_nat1 {n : Int} (h : (Lit.int .u8 n).wf = true) : ∃ p : Nat, n = p ∧ p ≤ 255 := by
  have h2 : 0 ≤ n ∧ n ≤ 255 := by
    have := h
    simp [Lit.wf, IntKind.min, IntKind.max, IntKind.signed, IntKind.bits] at this
    omega
  exact ⟨n.toNat, by omega, by omega⟩

set_option maxRecDepth 100000 in
theorem lifted (os : Os) (started : os.Started) (H : Type) (enc : TypeId × Value → H) :
    ReturnsInHanded {} Try.checked os 13 .any (Rows.flowFitsSpec.pre6 enc Try.prog Try.f13 Rows.flowFitsRow.domain false) (Rows.flowFitsSpec.post enc Try.prog Try.f13 false true false false) := by
  refine returnsInHanded_of_change (C := Try.checked) own started (by kernel_rfl) Try.func13
    (ChangeSpec.witness6 (enc := enc) (C := Try.checked) false ⟨#[], #[.agg #[.int .i64 0, .slice none 0 0, .slice none 0 0], .slice none 0 0, .int .u8 0], []⟩ 8 (by kernel_rfl) (by kernel_rfl) (by kernel_rfl) (by kernel_rfl)) ?_
  intro W base args ds gs before hval0 hW hcnd _
  have hval : ∀ (j : Nat) t v, Try.f13.params[j]? = some t → args[j]? = some v → Value.okWide Try.prog W .any base t v := hval0
  have hW' := hW
  obtain ⟨p, q, hA0, hV, rfl, hfz, hnd⟩ := hW
  have hA : DataW.TrodAll enc Try.prog W 0 (fun _ => true) true Try.f13.params.toList args.toList ds p := hA0
  rw [Try.params13] at hA hval
  obtain ⟨v0, vs0, d0, ds0, p0, q0, hargs, rfl, rfl, h0, r0⟩ := trodAll_cons hA
  obtain ⟨v1, vs1, d1, ds1, p1, q1, rfl, rfl, rfl, h1, r1⟩ := trodAll_cons r0
  obtain ⟨v2, vs2, d2, ds2, p2, q2, rfl, rfl, rfl, h2, r2⟩ := trodAll_cons r1
  obtain ⟨rfl, rfl, rfl⟩ := trodAll_nil r2
  obtain rfl : args = #[v0, v1, v2] := by cases args; simp_all
  obtain ⟨rfl, rfl⟩ := trodVars_none hV
  have k0 := h0
  have lt0 : ∀ x ∈ p0, x.block < W.heap.size := by obtain ⟨m, hm⟩ := k0; exact DataW.trod_lt m _ _ _ hm
  have k1 := h1
  have lt1 : ∀ x ∈ p1, x.block < W.heap.size := by obtain ⟨m, hm⟩ := k1; exact DataW.trod_lt m _ _ _ hm
  obtain ⟨nt, hs, hl, rfl, hnt, -, -, -⟩ := open_net (hval 0 25 v0 rfl rfl) h0
  obtain ⟨pa1, pn1, pc1, ps1, rfl, hps1, -⟩ := open_sl (c := pr2) (ok := fun _ => True) Try.underlying26 (by kernel_rfl) (fun n cs y => pr_opened n cs y) (hval 1 26 v1 rfl rfl) h1
  obtain ⟨a2, rfl, rfl, rfl, w2⟩ := open_int Try.underlying5 (hval 2 5 v2 rfl rfl) h2
  obtain ⟨n2, hn2, ln2⟩ := u8_nat1 w2
  subst hn2
  clear hA0 hval0
  refine (ffits_any nt hs hl pa1 pn1 pc1 ps1 n2 W hnt hps1 ln2).mono fun e W' ⟨he, bel⟩ => ?_
  subst he
  exact ⟨_, rfl, _, _, _, [], _, [], hW', trodAll_mk1 (shut_bool Try.underlying4 _), (trodAll_cons_mk (Below.trod laidOut (by kernel_rfl) (of_decide_eq_true (by kernel_rfl)) k0 bel lt0) (trodAll_cons_mk (Below.trod laidOut (by kernel_rfl) (of_decide_eq_true (by kernel_rfl)) k1 bel lt1) (trodAll_cons_mk (shut_int Try.underlying5 w2) trodAll_mk0))), rfl, bel.frame _, fun h => by cases h⟩

theorem over : Rows.flowFitsRow.holds Try.pinned (OpenSpec.ofChange Rows.flowFitsSpec) :=
  OpenClaim.holds_of_wide 13 Try.f13 rfl rfl rfl rfl rfl rfl rfl ⟨rfl, rfl, rfl, rfl, rfl⟩ rfl rfl rfl rfl rfl (by kernel_rfl) Try.func13 (by kernel_rfl)
    (of_decide_eq_true (by kernel_rfl)) (by unfold Func.isWrapper; first | (rw [if_pos (by decide +kernel)]; kernel_rfl) | (rw [if_neg (by decide +kernel)]; exact ⟨rfl, rfl⟩))
    (fun os started H enc _ => lifted os started H enc)

theorem proved : Rows.FlowFitsSaid := over
#print axioms proved
end Go.Proofs.Yteihffnmgacfpaa.lawFlowFits
