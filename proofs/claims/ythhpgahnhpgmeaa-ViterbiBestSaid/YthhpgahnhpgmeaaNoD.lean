/- Costs: a sequence's cost in a table, walked. -/
import Derived.Test.YthhpgahnhpgmeaaNoC
import Derived.Deep.RegionHeld3
namespace Go.Proofs.Ythhpgahnhpgmeaa.Ne
open Go.RowKit Go.V Go.Proofs Go.Sort Go.Maps

def hcod : Cod Hdr := ⟨1, fun h => [.slice h.a h.n h.cap], fun _ => rfl, by simp [Value.oneCell']⟩
/-- Rows of points. -/
def PtsIn (w : World) (a : Option Addr) (n cap : Nat) (gs : List (List Pnt)) : Prop := ∃ hs : List Hdr, SlQ hcod w a n cap hs ∧ hs.length = gs.length ∧ ∀ (i : Nat) (h : Hdr) (g : List Pnt), hs[i]? = some h → gs[i]? = some g → SlQ pcod w h.a h.n h.cap g
theorem PtsIn.below {w w' : World} {a : Option Addr} {n cap : Nat} {gs : List (List Pnt)} (h : PtsIn w a n cap gs) (hb : Below w.heap.size w w') : PtsIn w' a n cap gs := by
  obtain ⟨hs, h1, h2, h3⟩ := h
  exact ⟨hs, h1.below hb, h2, fun i x g hx hg => (h3 i x g hx hg).below hb⟩
theorem PtsIn.len {w : World} {a : Option Addr} {n cap : Nat} {gs : List (List Pnt)} (h : PtsIn w a n cap gs) : n = gs.length ∧ n ≤ 9223372036854775807 := by
  obtain ⟨hs, h1, h2, h3⟩ := h
  refine ⟨by rw [← h2]; exact h1.hlen, ?_⟩
  have := h1.hcap; have := h1.hmax; unfold maxLen at this; omega
theorem PtsIn.at {w : World} {a : Option Addr} {n cap : Nat} {gs : List (List Pnt)} (h : PtsIn w a n cap gs) {i : Nat} (hi : i < n) :
    ∃ (b off : Nat) (h : Hdr) (g : List Pnt), a = some ⟨b, off, none⟩ ∧ b < w.heap.size ∧ gs[i]? = some g ∧ w.cell? ⟨b, off + i, none⟩ = some (.slice h.a h.n h.cap) ∧ SlQ pcod w h.a h.n h.cap g := by
  obtain ⟨hs, h1, h2, h3⟩ := h
  obtain ⟨b, off, rfl, hb, x, hx, hc⟩ := (h1.hat (by omega)).some hi
  have hlt : i < gs.length := by rw [← h2]; exact (List.getElem?_eq_some_iff.1 hx).1
  have hg := List.getElem?_eq_getElem hlt
  refine ⟨b, off, x, _, rfl, hb, hg, ?_, h3 i x _ hx hg⟩
  have := hc 0 _ rfl
  simpa [hcod] using this
theorem int_atq {w : World} {a : Option Addr} {n cap : Nat} {l : List Int} (h : SlQ icod w a n cap l) {i : Nat} (hi : i < n) :
   ∃ b off r, a = some ⟨b, off, none⟩ ∧ b < w.heap.size ∧ l[i]? = some r ∧ w.cell? ⟨b, off + i, none⟩ = some (.int .i64 r) := int_at (h.hat (by omega)) hi

/-- What can be read does not lie where a map lies: it is kept where the map alone turns. -/
def MapAt (w : World) (mg : Nat) : Prop := ∀ o, w.cell? ⟨mg, o, none⟩ = none
theorem cell_chgm {w W : World} {mg b o : Nat} {v : Value} (hm : MapAt w mg) (hc : Chg w W mg none) (h : w.cell? ⟨b, o, none⟩ = some v) : W.cell? ⟨b, o, none⟩ = some v := by
  have hb : b < w.heap.size := World.block_lt_of_cell? w _ h
  have hne : b ≠ mg := by
    rintro rfl
    rw [hm o] at h; cases h
  have e := hc.block b hb hne (by simp)
  have : W.cell? ⟨b, o, none⟩ = w.cell? ⟨b, o, none⟩ := by simp [World.cell?, e]
  rw [this]; exact h
theorem sl_chgm {α : Type} {c : Cod α} {w W : World} {mg : Nat} {a : Option Addr} {n cap : Nat} {xs : List α} (hm : MapAt w mg) (hc : Chg w W mg none) (h : Sl c w a n cap xs) : Sl c W a n cap xs :=
  ⟨h.hlen, h.hcap, h.hmax, h.hnil, fun d hd h0 => by
    obtain ⟨h1, h2, h3⟩ := h.hat d hd h0
    exact ⟨h1, Nat.lt_of_lt_of_le h2 hc.size, fun j u hu => cell_chgm hm hc (h3 j u hu)⟩⟩
theorem slq_chgm {α : Type} {c : Cod α} {w W : World} {mg : Nat} {a : Option Addr} {n cap : Nat} {xs : List α} (hm : MapAt w mg) (hc : Chg w W mg none) (h : SlQ c w a n cap xs) : SlQ c W a n cap xs := ⟨h.hlen, h.hcap, h.hmax, fun hn => sl_chgm hm hc (h.hat hn)⟩
theorem pts_chgm {w W : World} {mg : Nat} {a : Option Addr} {n cap : Nat} {gs : List (List Pnt)} (hm : MapAt w mg) (hc : Chg w W mg none) (h : PtsIn w a n cap gs) : PtsIn W a n cap gs := by
  obtain ⟨hs, h1, h2, h3⟩ := h
  exact ⟨hs, slq_chgm hm hc h1, h2, fun i x g hx hg => slq_chgm hm hc (h3 i x g hx hg)⟩
theorem TabIn.mapAt {w : World} {base tg mg N : Nat} {n : Net} {hs hl : Hdr} (h : TabIn w base tg mg N n hs hl) : MapAt w mg := by
  obtain ⟨D, ⟨es, c, h1, -⟩, -⟩ := h.map
  intro o
  simp [World.cell?, h1]
theorem mapAt_new {w : World} {mg : Nat} (h : w.heap.size ≤ mg) : MapAt w mg := fun o => by
  cases hc : w.cell? ⟨mg, o, none⟩ with
  | none => rfl
  | some v => have := World.block_lt_of_cell? w _ hc; have : mg < w.heap.size := this; omega

/-! ### What it costs -/
def ptE (g : List Pnt) (s : Int) : Int := if (sqE g s).2 = true ∧ 0 ≤ (sqE g s).1 ∧ (sqE g s).1 ≤ 1099511627776 then (sqE g s).1 else -1
def wayE (n : Net) (k : Nat) (x : Wgh) (ss : List Int) (i : Nat) : Int := if i = 0 then 0 else stepE n k x (ss.getD (i - 1) 0) (ss.getD i 0)
def costAt (n : Net) (k : Nat) (x : Wgh) (gs : List (List Pnt)) (ss : List Int) (i : Nat) : Int :=
  if ptE (gs.getD i []) (ss.getD i 0) < 0 then -1 else if wayE n k x ss i < 0 then -1 else ptE (gs.getD i []) (ss.getD i 0) + wayE n k x ss i
def sumGo (f : Nat → Int) : Nat → Nat → Int → Int
  | 0, _, all => all
  | c + 1, i, all => if f i < 0 then -1 else sumGo f c (i + 1) (all + f i)
def seqE (n : Net) (k : Nat) (x : Wgh) (gs : List (List Pnt)) (ss : List Int) : Int :=
  if gs.length = ss.length ∧ gs.length ≤ 2048 ∧ mayW x = true then sumGo (costAt n k x gs ss) ss.length 0 0 else -1
theorem ptE_in (g : List Pnt) (s : Int) : -1 ≤ ptE g s ∧ ptE g s ≤ 1099511627776 := by
  unfold ptE; split <;> omega
theorem wayE_in {n : Net} {k : Nat} (hok : checkE n = 0) (hk : k = n.stops.length) (h60 : k ≤ 60) (h120 : n.links.length ≤ 120) (x : Wgh) (ss : List Int) (i : Nat) : -1 ≤ wayE n k x ss i ∧ wayE n k x ss i ≤ 15461868568576 := by
  unfold wayE
  split
  · omega
  · exact stepE_in hok hk h60 h120 x _ _
theorem costAt_in {n : Net} {k : Nat} (hok : checkE n = 0) (hk : k = n.stops.length) (h60 : k ≤ 60) (h120 : n.links.length ≤ 120) (x : Wgh) (gs : List (List Pnt)) (ss : List Int) (i : Nat) : -1 ≤ costAt n k x gs ss i ∧ costAt n k x gs ss i ≤ 16561380196352 := by
  have h1 := ptE_in (gs.getD i []) (ss.getD i 0)
  have h2 := wayE_in hok hk h60 h120 x ss i
  unfold costAt
  repeat' split
  all_goals omega
theorem sumGo_neg {f : Nat → Int} {n i : Nat} {all r : Int} (h : sumGo f (n - i) i all = r) (hi : i < n) (hf : f i < 0) : r = -1 := by
  have e : n - i = (n - (i + 1)) + 1 := by omega
  rw [e] at h
  have h : (if f i < 0 then -1 else sumGo f (n - (i + 1)) (i + 1) (all + f i)) = r := h
  rw [if_pos hf] at h; exact h.symm
theorem sumGo_go {f : Nat → Int} {n i : Nat} {all r : Int} (h : sumGo f (n - i) i all = r) (hi : i < n) (hf : ¬ f i < 0) : sumGo f (n - (i + 1)) (i + 1) (all + f i) = r := by
  have e : n - i = (n - (i + 1)) + 1 := by omega
  rw [e] at h
  have h : (if f i < 0 then -1 else sumGo f (n - (i + 1)) (i + 1) (all + f i)) = r := h
  rw [if_neg hf] at h; exact h
theorem sumGo_end {f : Nat → Int} {n : Nat} {all r : Int} (h : sumGo f (n - n) n all = r) : all = r := by
  rw [Nat.sub_self] at h; exact h
theorem costAt_neg1 {n : Net} {k : Nat} {x : Wgh} {gs : List (List Pnt)} {ss : List Int} {i : Nat} (h : ptE (gs.getD i []) (ss.getD i 0) < 0) : costAt n k x gs ss i = -1 := by
  unfold costAt; rw [if_pos h]
theorem costAt_neg2 {n : Net} {k : Nat} {x : Wgh} {gs : List (List Pnt)} {ss : List Int} {i : Nat} (h : wayE n k x ss i < 0) : costAt n k x gs ss i = -1 := by
  unfold costAt
  rw [if_pos h]
  split <;> rfl
theorem costAt_pos {n : Net} {k : Nat} {x : Wgh} {gs : List (List Pnt)} {ss : List Int} {i : Nat} (h : ¬ ptE (gs.getD i []) (ss.getD i 0) < 0) (h2 : ¬ wayE n k x ss i < 0) : costAt n k x gs ss i = ptE (gs.getD i []) (ss.getD i 0) + wayE n k x ss i := by
  unfold costAt; rw [if_neg h, if_neg h2]
theorem getD_of {α : Type} {l : List α} {i : Nat} {x d : α} (h : l[i]? = some x) : l.getD i d = x := by
  rw [List.getD_eq_getElem?_getD, h]; rfl

/-! ### Walked -/
/-- What the function that sums has caught. -/
structure SeqIn (w : World) (gl gt gw gss tg : Nat) (x : Wgh) (hp hq : Hdr) : Prop where
  l : w.heap[gl]? = some (.cells #[.slice hp.a hp.n hp.cap] 49 (0, 0))
  t : w.heap[gt]? = some (.cells #[.pointer (some ⟨tg, 0, none⟩)] 53 (0, 0))
  x : w.heap[gw]? = some x.box
  s : w.heap[gss]? = some (.cells #[.slice hq.a hq.n hq.cap] 56 (0, 0))
theorem SeqIn.chg {w w' : World} {gl gt gw gss tg mg : Nat} {x : Wgh} {hp hq : Hdr} (h : SeqIn w gl gt gw gss tg x hp hq) (hc : Chg w w' mg none) (h1 : gl ≠ mg ∧ gt ≠ mg ∧ gw ≠ mg ∧ gss ≠ mg) : SeqIn w' gl gt gw gss tg x hp hq :=
  ⟨hc.box h.l h1.1 (by simp), hc.box h.t h1.2.1 (by simp), hc.box h.x h1.2.2.1 (by simp), hc.box h.s h1.2.2.2 (by simp)⟩
theorem SeqIn.below {w w' : World} {gl gt gw gss tg : Nat} {x : Wgh} {hp hq : Hdr} (h : SeqIn w gl gt gw gss tg x hp hq) (hb : Below w.heap.size w w') : SeqIn w' gl gt gw gss tg x hp hq :=
  ⟨box_below h.l hb, box_below h.t hb, box_below h.x hb, box_below h.s hb⟩



end Go.Proofs.Ythhpgahnhpgmeaa.Ne
