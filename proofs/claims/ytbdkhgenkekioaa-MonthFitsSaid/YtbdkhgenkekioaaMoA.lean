/- Months: what they are, in plain Lean; how they lie. -/
import Derived.Test.YtbdkhgenkekioaaTrH
import Derived.Test.YtbdkhgenkekioaaBase2
namespace Go.Proofs.Ytbdkhgenkekioaa
open Go.RowKit Go.V Go.Sort Go.Shelf Go.Proofs Go.Maps

structure Mon where
  a : Int
  m : Int
  t : Int
  c : Int
  rides : List Ride
  z : Bool
deriving DecidableEq, Inhabited
structure MH where
  a : Int
  m : Int
  t : Int
  c : Int
  h : Hdr
  z : Bool
deriving Inhabited
def MH.enc (x : MH) : List Value := [.int .i64 x.a, .int .i64 x.m, .int .i64 x.t, .int .i64 x.c, .slice x.h.a x.h.n x.h.cap, .bool x.z]
def MH.cod : Cod MH := ⟨6, MH.enc, fun _ => rfl, by simp [MH.enc, Value.oneCell']⟩
def Mon.hd (m : Mon) (h : Hdr) : MH := ⟨m.a, m.m, m.t, m.c, h, m.z⟩
def Mon.box (m : Mon) (h : Hdr) : Array Value := #[.int .i64 m.a, .int .i64 m.m, .int .i64 m.t, .int .i64 m.c, .slice h.a h.n h.cap, .bool m.z]
def Mon.ok (m : Mon) : Prop := (Lit.int .i64 m.a).wf = true ∧ (Lit.int .i64 m.m).wf = true ∧ (Lit.int .i64 m.t).wf = true ∧ (Lit.int .i64 m.c).wf = true ∧ ∀ r ∈ m.rides, Ride.ok r

/-- Months, as they read. -/
structure MonIn (w : World) (a : Option Addr) (n cap : Nat) (hs : List Hdr) (ms : List Mon) : Prop where
  hd : Sl MH.cod w a n cap (List.zipWith Mon.hd ms hs)
  len : hs.length = ms.length
  each : ∀ (i : Nat) (h : Hdr) (m : Mon), hs[i]? = some h → ms[i]? = some m → Sl Ride.cod w h.a h.n h.cap m.rides
theorem MonIn.below {w w' : World} {a : Option Addr} {n cap : Nat} {hs : List Hdr} {ms : List Mon} (h : MonIn w a n cap hs ms) (hb : Below w.heap.size w w') : MonIn w' a n cap hs ms :=
  ⟨h.hd.below hb, h.len, fun i x m h1 h2 => (h.each i x m h1 h2).below hb⟩
theorem MonIn.n_eq {w : World} {a : Option Addr} {n cap : Nat} {hs : List Hdr} {ms : List Mon} (h : MonIn w a n cap hs ms) : n = ms.length := by rw [h.hd.hlen, List.length_zipWith, h.len, Nat.min_self]
theorem MonIn.at {w : World} {a : Option Addr} {n cap : Nat} {hs : List Hdr} {ms : List Mon} (h : MonIn w a n cap hs ms) {i : Nat} (hi : i < n) : ∃ b off at_ ct m, a = some ⟨b, off, none⟩ ∧ b < w.heap.size ∧ ms[i]? = some m ∧ hs[i]? = some ⟨at_, m.rides.length, ct⟩ ∧
    (w.cell? ⟨b, off + i * 6, none⟩ = some (.int .i64 m.a) ∧ w.cell? ⟨b, off + i * 6 + 1, none⟩ = some (.int .i64 m.m) ∧ w.cell? ⟨b, off + i * 6 + 2, none⟩ = some (.int .i64 m.t) ∧ w.cell? ⟨b, off + i * 6 + 3, none⟩ = some (.int .i64 m.c) ∧ w.cell? ⟨b, off + i * 6 + 4, none⟩ = some (.slice at_ m.rides.length ct) ∧ w.cell? ⟨b, off + i * 6 + 5, none⟩ = some (.bool m.z)) ∧ Sl Ride.cod w at_ m.rides.length ct m.rides := by
  obtain ⟨b, off, rfl, hb, x, hx, hc⟩ := h.hd.some hi
  have hg : i < ms.length := by rw [← h.n_eq]; exact hi
  have hg2 : i < hs.length := by rw [h.len]; exact hg
  have k1 := h.each i hs[i] ms[i] (List.getElem?_eq_getElem hg2) (List.getElem?_eq_getElem hg)
  have hl := k1.hlen
  have ex : x = Mon.hd ms[i] hs[i] := by
    rw [List.getElem?_zipWith, List.getElem?_eq_getElem hg2, List.getElem?_eq_getElem hg] at hx
    exact (Option.some.inj hx).symm
  subst ex
  obtain ⟨⟨at_, nt, ct⟩, hh⟩ : ∃ q, hs[i] = q := ⟨_, rfl⟩
  rw [hh] at k1 hl hc
  simp only at k1 hl
  subst hl
  exact ⟨b, off, at_, ct, ms[i], rfl, hb, List.getElem?_eq_getElem hg, by rw [List.getElem?_eq_getElem hg2, hh], ⟨hc 0 _ rfl, hc 1 _ rfl, hc 2 _ rfl, hc 3 _ rfl, hc 4 _ rfl, hc 5 _ rfl⟩, k1⟩

/-! ### Which months are right -/
def aheadM (x y : Mon) : Prop := x.a < y.a ∨ x.a = y.a ∧ x.m < y.m
instance (x y : Mon) : Decidable (aheadM x y) := inferInstanceAs (Decidable (_ ∨ _))
def numsM (m : Mon) : Prop := (1 ≤ m.a ∧ m.a ≤ 2147483648) ∧ (0 ≤ m.m ∧ m.m ≤ 1048576) ∧ (1 ≤ m.t ∧ m.t ≤ 1048576) ∧ (0 ≤ m.c ∧ m.c ≤ 15)
instance (m : Mon) : Decidable (numsM m) := inferInstanceAs (Decidable (_ ∧ _))
def OneM (m : Mon) : Prop := numsM m ∧ isort ltR m.rides = m.rides ∧ RightP m.rides
instance (m : Mon) : Decidable (OneM m) := inferInstanceAs (Decidable (_ ∧ _))
/-- The first k months are right. -/
def UpTo (ms : List Mon) (k : Nat) : Prop := ∀ i m, i < k → ms[i]? = some m → OneM m ∧ ∀ j p, i = j + 1 → ms[j]? = some p → aheadM p m
theorem UpTo.zero (ms : List Mon) : UpTo ms 0 := fun i m h => by omega
theorem UpTo.step {ms : List Mon} {k : Nat} (h : UpTo ms k) {m : Mon} (hm : ms[k]? = some m) (h1 : OneM m) (h2 : ∀ j p, k = j + 1 → ms[j]? = some p → aheadM p m) : UpTo ms (k + 1) := by
  intro i x hi hx
  by_cases e : i = k
  · subst e
    have := hx.symm.trans hm
    cases this
    exact ⟨h1, h2⟩
  · exact h i x (by omega) hx
theorem UpTo.not {ms : List Mon} {k : Nat} {m : Mon} (hm : ms[k]? = some m) (hn : ¬ (OneM m ∧ ∀ j p, k = j + 1 → ms[j]? = some p → aheadM p m)) : ¬ UpTo ms ms.length := fun h => hn (h k m (List.getElem?_eq_some_iff.1 hm).1 hm)
def RightM (ms : List Mon) : Prop := ms.length ≤ 4096 ∧ UpTo ms ms.length
noncomputable instance (ms : List Mon) : Decidable (RightM ms) := Classical.propDecidable _

/-- Strictly one after another. -/
def UpR (l : List Ride) : Prop := ∀ k r s, l[k]? = some r → l[k + 1]? = some s → ltR r s = true
theorem ltR_trans {x y z : Ride} (h1 : ltR x y = true) (h2 : ltR y z = true) : ltR x z = true := by
  rw [ltR_iff] at h1 h2 ⊢; omega
theorem upR_pair : ∀ {l : List Ride}, UpR l → l.Pairwise (fun x y => ltR x y = true)
  | [], _ => List.Pairwise.nil
  | [x], _ => List.pairwise_singleton _ _
  | x :: y :: l, h => by
    have hxy := h 0 x y rfl rfl
    have ih := upR_pair (l := y :: l) (fun k r s h1 h2 => h (k + 1) r s (by simpa using h1) (by simpa using h2))
    refine List.Pairwise.cons (fun z hz => ?_) ih
    rcases List.mem_cons.1 hz with rfl | hz
    · exact hxy
    · exact ltR_trans hxy ((List.pairwise_cons.1 ih).1 z hz)
theorem isort_up {l : List Ride} (hn : (l.map Ride.t).Nodup) : isort ltR l = l ↔ UpR l := by
  constructor
  · intro h k r s hr hs
    have h1 := isort_srt ordR l
    rw [h] at h1
    have hlk := (List.getElem?_eq_some_iff.1 hr).1
    have hls := (List.getElem?_eq_some_iff.1 hs).1
    have e1 : l[k] = r := (List.getElem?_eq_some_iff.1 hr).2
    have e2 : l[k + 1] = s := (List.getElem?_eq_some_iff.1 hs).2
    have h2 := List.pairwise_iff_getElem.1 h1 k (k + 1) hlk hls (by omega)
    have h3 := List.pairwise_iff_getElem.1 hn k (k + 1) (by simpa using hlk) (by simpa using hls) (by omega)
    rw [e1, e2] at h2
    simp only [List.getElem_map, e1, e2] at h3
    have h4 : ¬ ltR s r = true := by rw [h2]; decide
    rw [ltR_iff] at h4
    rw [ltR_iff]; omega
  · intro h
    have h1 : Srt ltR l := (upR_pair h).imp (fun {x y} hxy => by
      cases e : ltR y x with
      | false => rfl
      | true => rw [ltR_iff] at e hxy; omega)
    exact mrg_nil_of_srt h1
end Go.Proofs.Ytbdkhgenkekioaa
