/- Fares: a month's bill: what it is, and how it lies. -/
import Derived.Test.YtgdhlhjflbinmaaFaJ
import Derived.Test.YtgdhlhjflbinmaaTrL
import Derived.Test.YtgdhlhjflbinmaaBase5
namespace Go.Proofs.Ytgdhlhjflbinmaa
open Go.RowKit Go.V Go.Proofs

structure Grp where
  trips : List Int
  far : Int
  price : Int
deriving DecidableEq, Inhabited
def grpOf (t : Tar) (s : Int) (g : List Ride) : Grp := ⟨g.map Ride.t, farT g 0, costOf t s (farT g 0)⟩
def sumG : List Grp → Int
  | [] => 0
  | g :: gs => g.price + sumG gs
theorem sumG_snoc : ∀ (gs : List Grp) (g : Grp), sumG (gs ++ [g]) = sumG gs + g.price
  | [], g => by simp [sumG]
  | x :: gs, g => by rw [List.cons_append]; simp only [sumG]; rw [sumG_snoc gs g]; omega
theorem sumG_in : ∀ (gs : List Grp), (∀ g ∈ gs, 0 ≤ g.price ∧ g.price ≤ 16777216) → 0 ≤ sumG gs ∧ sumG gs ≤ gs.length * 16777216
  | [], _ => by simp [sumG]
  | g :: gs, h => by
    have h1 := h g (by simp)
    have h2 := sumG_in gs (fun x hx => h x (by simp [hx]))
    simp only [sumG, List.length_cons]; push_cast; omega
theorem farT_in : ∀ (l : List Ride) (n : Int), 0 ≤ n → n ≤ 4294967296 → -1 ≤ farT l n ∧ farT l n ≤ 4294967296
  | [], n, h1, h2 => by unfold farT; omega
  | r :: l, n, h1, h2 => by
    unfold farT
    split
    · omega
    · exact farT_in l _ (by omega) (by omega)

structure GH where
  h : Hdr
  far : Int
  price : Int
deriving Inhabited
def GH.enc (g : GH) : List Value := [.slice g.h.a g.h.n g.h.cap, .int .i64 g.far, .int .i64 g.price]
def GH.cod : Cod GH := ⟨3, GH.enc, fun _ => rfl, by simp [GH.enc, Value.oneCell']⟩

theorem own_off {α : Type} {e ty : TypeId} {c : Cod α} {base : Nat} {w : World} {v : Value} {xs : List α} {B : Nat} {cs : Array Value} (h : V.Own e c base w v xs) (hB : w.heap[B]? = some (.cells cs ty (0, 0))) (hne : ty ≠ e) : v.ownBlock = none ∨ v.ownBlock ≠ some B := by
  obtain ⟨_, h2⟩ := h
  rcases h2 with ⟨rfl, _⟩ | ⟨g, cap, cur, rfl, _, h4, _⟩
  · exact .inl rfl
  · refine .inr (fun hh => ?_)
    simp [Value.ownBlock] at hh
    subst hh
    rw [hB] at h4
    simp at h4
    exact hne h4.2

structure OwnB (base : Nat) (w : World) (v : Value) (hs : List GH) (gs : List Grp) : Prop where
  own : V.Own 67 GH.cod base w v hs
  len : hs.length = gs.length
  each : ∀ (i : Nat) (h : GH) (g : Grp), hs[i]? = some h → gs[i]? = some g → V.Own 3 icod base w h.h.val g.trips ∧ h.far = g.far ∧ h.price = g.price

section
variable {base : Nat} {w : World} {v : Value} {hs : List GH} {gs : List Grp}
theorem OwnB.nil : OwnB base w (.slice none 0 0) [] [] := ⟨V.Own.nil, rfl, fun i h g h1 => by simp at h1⟩
theorem OwnB.below (h : OwnB base w v hs gs) {w' : World} (hb : Below w.heap.size w w') : OwnB base w' v hs gs :=
  ⟨h.own.below hb, h.len, fun i x g h1 h2 => ⟨(h.each i x g h1 h2).1.below hb, (h.each i x g h1 h2).2⟩⟩
theorem OwnB.lower (h : OwnB base w v hs gs) {base' : Nat} (hb : base' ≤ base) : OwnB base' w v hs gs :=
  ⟨h.own.lower hb, h.len, fun i x g h1 h2 => ⟨(h.each i x g h1 h2).1.lower hb, (h.each i x g h1 h2).2⟩⟩
theorem OwnB.box (h : OwnB base w v hs gs) {w' : World} {B : Nat} {cs : Array Value} {ty : TypeId} (hB : w.heap[B]? = some (.cells cs ty (0, 0))) (h1 : ty ≠ 67) (h2 : ty ≠ 3) (hg : w.grownBy w' (some B)) : OwnB base w' v hs gs :=
  ⟨h.own.kept hg (own_off h.own hB h1), h.len, fun i x g k1 k2 => ⟨(h.each i x g k1 k2).1.kept hg (own_off (h.each i x g k1 k2).1 hB h2), (h.each i x g k1 k2).2⟩⟩
theorem OwnB.push (h : OwnB base w v hs gs) {w' : World} {v' : Value} {x : GH} {g : Grp} (ho : V.Own 3 icod base w x.h.val g.trips) (hf : x.far = g.far) (hp : x.price = g.price) (hv : V.Own 67 GH.cod base w' v' (hs ++ [x])) (hg : w.grownBy w' v.ownBlock) : OwnB base w' v' (hs ++ [x]) (gs ++ [g]) := by
  refine ⟨hv, by simp [h.len], fun i y z h1 h2 => ?_⟩
  by_cases hi : i < hs.length
  · rw [List.getElem?_append_left hi] at h1
    rw [List.getElem?_append_left (by rw [← h.len]; exact hi)] at h2
    obtain ⟨k1, k2⟩ := h.each i y z h1 h2
    exact ⟨k1.kept hg (own_apart (by decide) k1 h.own), k2⟩
  · rw [List.getElem?_append_right (by omega)] at h1
    rw [List.getElem?_append_right (by rw [← h.len]; omega), ← h.len] at h2
    have : i - hs.length = 0 := by have := (List.getElem?_eq_some_iff.1 h1).1; simp at this; omega
    rw [this] at h1 h2
    simp at h1 h2
    subst h1; subst h2
    exact ⟨ho.kept hg (own_apart (by decide) ho h.own), hf, hp⟩
theorem OwnB.slice (h : OwnB base w v hs gs) : ∃ a cap, v = .slice a gs.length cap ∧ Sl GH.cod w a gs.length cap hs := by
  obtain ⟨a, cap, h1, h2, -⟩ := h.own.slice
  rw [h.len] at h1 h2
  exact ⟨a, cap, h1, h2⟩
end

theorem infoGrp : (Try.prog.info? 67).map (fun i => (i.zero, i.size, i.bytes)) = some (some (.agg #[.slice none 0 0, .int .i64 0, .int .i64 0]), 3, 40) := by kernel_rfl
theorem eltGrp : Elt Try.prog 59 67 GH.cod 40 := Elt.of Try.underlying59 infoGrp rfl (by decide)
theorem infoInt : (Try.prog.info? 3).map (fun i => (i.zero, i.size, i.bytes)) = some (some (.int .i64 0), 1, 8) := by kernel_rfl
theorem eltInt : Elt Try.prog 23 3 icod 8 := Elt.of Try.underlying23 infoInt rfl (by decide)

/-- What Month answers: the error; the groups, the sum, what is to be paid. -/
def MonthP (t : Tar) (c : Int) : Prop := tarOk t = true ∧ 0 ≤ c ∧ c < t.shares.length
instance (t : Tar) (c : Int) : Decidable (MonthP t c) := inferInstanceAs (Decidable (_ ∧ _))
def monthE (t : Tar) (c : Int) (l : List Ride) : Int := if MonthP t c then groupsE l t.window t.chain else 2
def grpsOf (t : Tar) (c : Int) (l : List Ride) : List Grp := (groupsR l t.window t.chain).map (grpOf t (t.shares.getD c.toNat 0))
def billG (t : Tar) (c : Int) (l : List Ride) : List Grp := if monthE t c l = 0 then grpsOf t c l else []
def billS (t : Tar) (c : Int) (l : List Ride) : Int := sumG (billG t c l)
def billP (t : Tar) (c : Int) (l : List Ride) : Int := if monthE t c l = 0 then payOf t.rungs (billS t c l) else 0
def BillR (base : Nat) (w : World) (v : Value) (gs : List Grp) (sum pay : Int) : Prop := ∃ a n cap hs, v = .agg #[.slice a n cap, .int .i64 sum, .int .i64 pay] ∧ OwnB base w (.slice a n cap) hs gs
end Go.Proofs.Ytgdhlhjflbinmaa
