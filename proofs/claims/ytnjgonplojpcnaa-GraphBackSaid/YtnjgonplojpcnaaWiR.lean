/- Networks as bytes: plain laws. -/
import Derived.Test.YtnjgonplojpcnaaWiQ
import Derived.Test.YtnjgonplojpcnaaNeA
namespace Go.Proofs.Ytnjgonplojpcnaa.Ne
open Go.Proofs.Ytnjgonplojpcnaa.Wi Go.V

/-- Where a reader is, and what was wrong first. -/
abbrev Rs := Nat × Int
def rdStop (c : List Int) (s : Rs) : Stp × Rs :=
  let x := rdN c 67108863 s.1 s.2
  let y := rdN c 67108863 x.2.1 x.2.2
  (⟨x.1, y.1⟩, y.2)
def rdLink (c : List Int) (s : Rs) : Lnk × Rs :=
  let a := rdN c 4095 s.1 s.2
  let b := rdN c 4095 a.2.1 a.2.2
  let w := rdN c 1048575 b.2.1 b.2.2
  (⟨a.1, b.1, w.1⟩, w.2)
def rdMany {α : Type} (f : Rs → α × Rs) : Nat → Rs → List α × Rs
  | 0, s => ([], s)
  | k + 1, s => ((f s).1 :: (rdMany f k (f s).2).1, (rdMany f k (f s).2).2)
theorem rdMany_len {α : Type} (f : Rs → α × Rs) : ∀ (k : Nat) (s : Rs), (rdMany f k s).1.length = k
  | 0, _ => rfl
  | k + 1, s => by unfold rdMany; simp [rdMany_len f k]
def putNet (n : Net) : List Int :=
  putV n.ver.toNat ++ putV n.stops.length ++ (n.stops.flatMap fun s => putV s.x.toNat ++ putV s.y.toNat) ++ putV n.links.length ++ (n.links.flatMap fun l => putV l.a.toNat ++ putV l.b.toNat ++ putV l.w.toNat)
def rdNet (c : List Int) : Net × Rs :=
  let v := rdN c 1048576 0 0
  let k := rdN c 4096 v.2.1 v.2.2
  let st := rdMany (rdStop c) k.1.toNat k.2
  let m := rdN c 16384 st.2.1 st.2.2
  let l := rdMany (rdLink c) m.1.toNat m.2
  (⟨v.1, st.1, l.1⟩, l.2)
theorem drop_app {α : Type} {c x t : List α} {a : Nat} (h : c.drop a = x ++ t) : c.drop (a + x.length) = t := by rw [← List.drop_drop, h, List.drop_left]
theorem rdMany_put {α : Type} (c : List Int) (f : Rs → α × Rs) (enc : α → List Int) (ok : α → Prop) (hf : ∀ (x : α) (at_ : Nat) (t : List Int), ok x → c.drop at_ = enc x ++ t → f (at_, 0) = (x, at_ + (enc x).length, 0)) :
    ∀ (xs : List α) (at_ : Nat) (t : List Int), (∀ x ∈ xs, ok x) → c.drop at_ = xs.flatMap enc ++ t → rdMany f xs.length (at_, 0) = (xs, at_ + (xs.flatMap enc).length, 0)
  | [], at_, t, _, _ => by simp [rdMany]
  | x :: xs, at_, t, hok, h => by
    rw [List.flatMap_cons, List.append_assoc] at h
    have h1 := hf x at_ _ (hok x (by simp)) h
    have h2 : c.drop (at_ + (enc x).length) = xs.flatMap enc ++ t := by rw [← List.drop_drop, h, List.drop_left]
    have ih := rdMany_put c f enc ok hf xs _ t (fun y hy => hok y (by simp [hy])) h2
    show ((f (at_, 0)).1 :: (rdMany f xs.length (f (at_, 0)).2).1, (rdMany f xs.length (f (at_, 0)).2).2) = _
    rw [h1, ih, List.flatMap_cons, List.length_append, Nat.add_assoc]
def stopOk (s : Stp) : Prop := 0 ≤ s.x ∧ s.x < 67108864 ∧ 0 ≤ s.y ∧ s.y < 67108864
def linkOk (l : Lnk) : Prop := 0 ≤ l.a ∧ l.a < 4096 ∧ 0 ≤ l.b ∧ l.b < 4096 ∧ 0 ≤ l.w ∧ l.w < 1048576
theorem rdN_step {c : List Int} {most : Int} {at_ : Nat} {n : Int} {t : List Int} (hb : c.drop at_ = putV n.toNat ++ t) (h0 : 0 ≤ n) (hn : n ≤ most) (h2 : n ≤ 4611686018427387904) :
    rdN c most at_ 0 = (n, at_ + (putV n.toNat).length, 0) ∧ c.drop (at_ + (putV n.toNat).length) = t := by
  have h := rdN_put (most := most) hb (by omega) (by omega)
  rw [h]
  refine ⟨by congr 1; omega, ?_⟩
  rw [← List.drop_drop, hb, List.drop_left]
theorem rdStop_put (c : List Int) (x : Stp) (at_ : Nat) (t : List Int) (ho : stopOk x) (h : c.drop at_ = (putV x.x.toNat ++ putV x.y.toNat) ++ t) : rdStop c (at_, 0) = (x, at_ + (putV x.x.toNat ++ putV x.y.toNat).length, 0) := by
  obtain ⟨h1, h2, h3, h4⟩ := ho
  rw [List.append_assoc] at h
  obtain ⟨e1, e2⟩ := rdN_step (most := 67108863) h h1 (by omega) (by omega)
  obtain ⟨e3, e4⟩ := rdN_step (most := 67108863) e2 h3 (by omega) (by omega)
  unfold rdStop
  simp only [e1, e3, List.length_append, Nat.add_assoc]
theorem rdLink_put (c : List Int) (x : Lnk) (at_ : Nat) (t : List Int) (ho : linkOk x) (h : c.drop at_ = (putV x.a.toNat ++ putV x.b.toNat ++ putV x.w.toNat) ++ t) : rdLink c (at_, 0) = (x, at_ + (putV x.a.toNat ++ putV x.b.toNat ++ putV x.w.toNat).length, 0) := by
  obtain ⟨h1, h2, h3, h4, h5, h6⟩ := ho
  rw [List.append_assoc, List.append_assoc] at h
  obtain ⟨e1, e2⟩ := rdN_step (most := 4095) h h1 (by omega) (by omega)
  obtain ⟨e3, e4⟩ := rdN_step (most := 4095) e2 h3 (by omega) (by omega)
  obtain ⟨e5, e6⟩ := rdN_step (most := 1048575) e4 h5 (by omega) (by omega)
  unfold rdLink
  simp only [e1, e3, e5]
  simp only [List.length_append, Nat.add_assoc]
/-- What is put is read. -/
theorem rdNet_put (n : Net) (h1 : 0 ≤ n.ver ∧ n.ver ≤ 1048576) (h2 : n.stops.length ≤ 4096) (h3 : n.links.length ≤ 16384) (hs : ∀ s ∈ n.stops, stopOk s) (hl : ∀ l ∈ n.links, linkOk l) :
    rdNet (putNet n) = (n, (putNet n).length, 0) := by
  obtain ⟨c, hc⟩ : ∃ c, putNet n = c := ⟨_, rfl⟩
  have h0 : c.drop 0 = putV n.ver.toNat ++ (putV (n.stops.length : Int).toNat ++ ((n.stops.flatMap fun s => putV s.x.toNat ++ putV s.y.toNat) ++ (putV (n.links.length : Int).toNat ++ ((n.links.flatMap fun l => putV l.a.toNat ++ putV l.b.toNat ++ putV l.w.toNat) ++ [])))) := by
    rw [← hc]; unfold putNet; simp
  obtain ⟨e1, e2⟩ := rdN_step (most := 1048576) h0 h1.1 h1.2 (by omega)
  obtain ⟨e3, e4⟩ := rdN_step (most := 4096) e2 (by omega) (by omega) (by omega)
  have e5 := rdMany_put c (rdStop c) _ stopOk (fun x a t => rdStop_put c x a t) n.stops _ _ hs e4
  have e6 := drop_app e4
  obtain ⟨e7, e8⟩ := rdN_step (most := 16384) e6 (by omega) (by omega) (by omega)
  have e9 := rdMany_put c (rdLink c) _ linkOk (fun x a t => rdLink_put c x a t) n.links _ _ hl e8
  have hlen : c.length = 0 + (putV n.ver.toNat).length + (putV (n.stops.length : Int).toNat).length + (n.stops.flatMap fun s => putV s.x.toNat ++ putV s.y.toNat).length + (putV (n.links.length : Int).toNat).length + (n.links.flatMap fun l => putV l.a.toNat ++ putV l.b.toNat ++ putV l.w.toNat).length := by
    have := congrArg List.length h0
    simp only [List.drop_zero, List.length_append, List.length_nil] at this
    omega
  rw [hc]
  unfold rdNet
  simp only [e1, e3, Int.toNat_natCast] at e5 e7 e9 ⊢
  rw [e5]
  simp only [e7, Int.toNat_natCast]
  rw [e9]
  simp only [hlen, Int.toNat_natCast]
end Go.Proofs.Ytnjgonplojpcnaa.Ne
