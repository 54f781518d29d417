/- Tariffs as bytes: plain laws. -/
import Derived.Test.YtbdkhgenkekioaaWiJ
import Derived.Test.YtbdkhgenkekioaaFaPlain
namespace Go.Proofs.Ytbdkhgenkekioaa.Pb
open Go.V Go.Proofs.Ytbdkhgenkekioaa.Wi

def enP (p : Pair) : List Int := putV p.a.toNat ++ putV p.b.toNat
def enI (x : Int) : List Int := putV x.toNat
def putTar (t : Tar) : List Int :=
  putV t.ver.toNat ++ putV t.bands.length ++ t.bands.flatMap enP ++ putV t.over.toNat ++ putV t.full.toNat ++ putV t.shares.length ++ t.shares.flatMap enI ++ putV t.unit.toNat ++ putV t.window.toNat ++ putV t.chain.toNat ++ putV t.rungs.length ++ t.rungs.flatMap enP
def rdPair (c : List Int) (m1 m2 : Int) (s : Rs) : Pair × Rs :=
  let x := rdN c m1 s.1 s.2
  let y := rdN c m2 x.2.1 x.2.2
  (⟨x.1, y.1⟩, y.2)
def rdInt (c : List Int) (m : Int) (s : Rs) : Int × Rs := rdN c m s.1 s.2
def rdTar (c : List Int) : Tar × Rs :=
  let v := rdN c 1048576 0 0
  let k := rdN c 64 v.2.1 v.2.2
  let bs := rdMany (rdPair c 4294967296 16777216) k.1.toNat k.2
  let o := rdN c 16777216 bs.2.1 bs.2.2
  let f := rdN c 16777216 o.2.1 o.2.2
  let m := rdN c 16 f.2.1 f.2.2
  let ss := rdMany (rdInt c 1000) m.1.toNat m.2
  let u := rdN c 16777216 ss.2.1 ss.2.2
  let wn := rdN c 1099511627776 u.2.1 u.2.2
  let ch := rdN c 16 wn.2.1 wn.2.2
  let q := rdN c 16 ch.2.1 ch.2.2
  let rs := rdMany (rdPair c 281474976710656 1000) q.1.toNat q.2
  (⟨v.1, bs.1, o.1, f.1, ss.1, u.1, wn.1, ch.1, rs.1⟩, rs.2)
def tar0 : Tar := ⟨0, [], 0, 0, [], 0, 0, 0, []⟩
/-- The tariff of bytes, and why not. -/
def takeT (b : List Int) : Tar × Int :=
  if (wholeF 4 b).2 ≠ 0 then (tar0, (wholeF 4 b).2) else
  if doneE (wholeF 4 b).1 (rdTar (wholeF 4 b).1).2.1 (rdTar (wholeF 4 b).1).2.2 ≠ 0 then (tar0, doneE (wholeF 4 b).1 (rdTar (wholeF 4 b).1).2.1 (rdTar (wholeF 4 b).1).2.2) else
  if tarOk (rdTar (wholeF 4 b).1).1 = false then (tar0, 2) else ((rdTar (wholeF 4 b).1).1, 0)
theorem takeT_of {b c : List Int} {ce : Int} (h : wholeF 4 b = (c, ce)) : takeT b = if ce ≠ 0 then (tar0, ce) else
  if doneE c (rdTar c).2.1 (rdTar c).2.2 ≠ 0 then (tar0, doneE c (rdTar c).2.1 (rdTar c).2.2) else if tarOk (rdTar c).1 = false then (tar0, 2) else ((rdTar c).1, 0) := by
  unfold takeT; rw [h]
theorem rdTar_of {c : List Int} {v o f u wn ch : Int × Rs} {K M Q : Nat} {ks bs ms ss qs rs : Rs} {B : List Pair} {S : List Int} {R : List Pair} (h1 : rdN c 1048576 0 0 = v) (h2 : rdN c 64 v.2.1 v.2.2 = ((K : Int), ks)) (h3 : rdMany (rdPair c 4294967296 16777216) K ks = (B, bs))
    (h4 : rdN c 16777216 bs.1 bs.2 = o) (h5 : rdN c 16777216 o.2.1 o.2.2 = f) (h6 : rdN c 16 f.2.1 f.2.2 = ((M : Int), ms)) (h7 : rdMany (rdInt c 1000) M ms = (S, ss)) (h8 : rdN c 16777216 ss.1 ss.2 = u) (h9 : rdN c 1099511627776 u.2.1 u.2.2 = wn) (h10 : rdN c 16 wn.2.1 wn.2.2 = ch)
    (h11 : rdN c 16 ch.2.1 ch.2.2 = ((Q : Int), qs)) (h12 : rdMany (rdPair c 281474976710656 1000) Q qs = (R, rs)) : rdTar c = (⟨v.1, B, o.1, f.1, S, u.1, wn.1, ch.1, R⟩, rs) := by
  unfold rdTar
  simp only [h1, h2, Int.toNat_natCast, h3, h4, h5, h6, h7, h8, h9, h10, h11, h12]

theorem rdPair_put (c : List Int) (m1 m2 : Int) (g1 : m1 ≤ 4611686018427387904) (g2 : m2 ≤ 4611686018427387904) (x : Pair) (at_ : Nat) (t : List Int) (ho : 0 ≤ x.a ∧ x.a ≤ m1 ∧ 0 ≤ x.b ∧ x.b ≤ m2) (h : c.drop at_ = enP x ++ t) : rdPair c m1 m2 (at_, 0) = (x, at_ + (enP x).length, 0) := by
  obtain ⟨h1, h2, h3, h4⟩ := ho
  unfold enP at h ⊢
  rw [List.append_assoc] at h
  obtain ⟨e1, e2⟩ := rdN_step (most := m1) h h1 h2 (by omega)
  obtain ⟨e3, e4⟩ := rdN_step (most := m2) e2 h3 h4 (by omega)
  unfold rdPair
  simp only [e1, e3, List.length_append, Nat.add_assoc]
theorem rdInt_put (c : List Int) (m : Int) (g : m ≤ 4611686018427387904) (x : Int) (at_ : Nat) (t : List Int) (ho : 0 ≤ x ∧ x ≤ m) (h : c.drop at_ = enI x ++ t) : rdInt c m (at_, 0) = (x, at_ + (enI x).length, 0) := by
  unfold rdInt enI at *
  exact (rdN_step h ho.1 ho.2 (by omega)).1

structure TarFit (t : Tar) : Prop where
  ver : 0 ≤ t.ver ∧ t.ver ≤ 1048576
  nb : t.bands.length ≤ 64
  bands : ∀ p ∈ t.bands, 0 ≤ p.a ∧ p.a ≤ 4294967296 ∧ 0 ≤ p.b ∧ p.b ≤ 16777216
  over : 0 ≤ t.over ∧ t.over ≤ 16777216
  full : 0 ≤ t.full ∧ t.full ≤ 16777216
  ns : t.shares.length ≤ 16
  shares : ∀ x ∈ t.shares, 0 ≤ x ∧ x ≤ 1000
  unit : 0 ≤ t.unit ∧ t.unit ≤ 16777216
  window : 0 ≤ t.window ∧ t.window ≤ 1099511627776
  chain : 0 ≤ t.chain ∧ t.chain ≤ 16
  nr : t.rungs.length ≤ 16
  rungs : ∀ p ∈ t.rungs, 0 ≤ p.a ∧ p.a ≤ 281474976710656 ∧ 0 ≤ p.b ∧ p.b ≤ 1000
theorem bandGo_fit : ∀ (l : List Pair) (last : Pair) (over : Int), bandGo last l over = true → -1 ≤ last.a → 0 ≤ last.b → (∀ p ∈ l, 0 ≤ p.a ∧ p.a ≤ 4294967296 ∧ 0 ≤ p.b ∧ p.b ≤ 16777216) ∧ 0 ≤ over ∧ over ≤ 16777216
  | [], last, over, h, _, h2 => by
    unfold bandGo at h
    have := of_decide_eq_true h
    exact ⟨fun p hp => (nomatch hp), by omega⟩
  | x :: l, last, over, h, h1, h2 => by
    unfold bandGo at h
    rw [Bool.and_eq_true] at h
    have h3 := of_decide_eq_true h.1
    obtain ⟨h4, h5⟩ := bandGo_fit l x over h.2 (by omega) (by omega)
    refine ⟨fun p hp => ?_, h5⟩
    rcases List.mem_cons.1 hp with rfl | hp
    · omega
    · exact h4 p hp
theorem rungGo_fit : ∀ (l : List Pair) (last : Pair), rungGo last l = true → -1 ≤ last.a → last.b ≤ 1000 → ∀ p ∈ l, 0 ≤ p.a ∧ p.a ≤ 281474976710656 ∧ 0 ≤ p.b ∧ p.b ≤ 1000
  | [], _, _, _, _ => fun p hp => (nomatch hp)
  | x :: l, last, h, h1, h2 => by
    unfold rungGo at h
    rw [Bool.and_eq_true] at h
    have h3 := of_decide_eq_true h.1
    have h4 := rungGo_fit l x h.2 (by omega) (by omega)
    intro p hp
    rcases List.mem_cons.1 hp with rfl | hp
    · omega
    · exact h4 p hp
theorem fit_of_ok {t : Tar} (h : tarOk t = true) : TarFit t := by
  unfold tarOk at h
  simp only [Bool.and_eq_true] at h
  obtain ⟨⟨⟨⟨⟨⟨⟨h1, h2⟩, h3⟩, h4⟩, h5⟩, h6⟩, h7⟩, h8⟩ := h
  unfold wB at h1 h3 h5 h6 h7
  have g1 := of_decide_eq_true h1
  have g3 := of_decide_eq_true h3
  have g5 := of_decide_eq_true h5
  have g6 := of_decide_eq_true h6
  have g7 := of_decide_eq_true h7
  unfold bandOk at h2
  unfold sharesOk at h4
  unfold rungsOk at h8
  simp only [Bool.and_eq_true] at h2 h8
  have g2 := of_decide_eq_true h2.1
  obtain ⟨b1, b2⟩ := bandGo_fit _ _ _ h2.2 (by simp) (by simp)
  have g4 := of_decide_eq_true h4
  have g8 := of_decide_eq_true h8.1.1
  exact ⟨by omega, g2, b1, b2, g3, g4.2.1, g4.2.2.2, by omega, g6, by omega, g8, rungGo_fit _ _ h8.1.2 (by simp) (by simp)⟩
theorem putTar_byt {t : Tar} (h : TarFit t) : Byt (putTar t) := by
  have nb := h.nb
  have ns := h.ns
  have nr := h.nr
  have g1 := h.ver
  have g2 := h.over
  have g3 := h.full
  have g4 := h.unit
  have g5 := h.window
  have g6 := h.chain
  unfold putTar
  refine ((((((((((((putV_byt _ ?_).app (putV_byt _ ?_)).app (flat_byt _ _ fun p hp => ?_)).app (putV_byt _ ?_)).app (putV_byt _ ?_)).app (putV_byt _ ?_)).app (flat_byt _ _ fun x hx => ?_)).app (putV_byt _ ?_)).app (putV_byt _ ?_)).app (putV_byt _ ?_)).app (putV_byt _ ?_)).app (flat_byt _ _ fun p hp => ?_)) <;> try omega
  · have := h.bands p hp
    exact (putV_byt _ (by omega)).app (putV_byt _ (by omega))
  · have := h.shares x hx
    exact putV_byt _ (by omega)
  · have := h.rungs p hp
    exact (putV_byt _ (by omega)).app (putV_byt _ (by omega))
theorem putTar_len {t : Tar} (h : TarFit t) : (putTar t).length ≤ 3000 := by
  have nb := h.nb
  have ns := h.ns
  have nr := h.nr
  have g1 := h.ver
  have g2 := h.over
  have g3 := h.full
  have g4 := h.unit
  have g5 := h.window
  have g6 := h.chain
  have e1 := putV_10 t.ver.toNat (by omega)
  have e2 := putV_10 t.bands.length (by omega)
  have e3 := putV_10 t.over.toNat (by omega)
  have e4 := putV_10 t.full.toNat (by omega)
  have e5 := putV_10 t.shares.length (by omega)
  have e6 := putV_10 t.unit.toNat (by omega)
  have e7 := putV_10 t.window.toNat (by omega)
  have e8 := putV_10 t.chain.toNat (by omega)
  have e9 := putV_10 t.rungs.length (by omega)
  have s1 := sum_le enP 20 t.bands (fun p hp => by
    have := h.bands p hp
    have a1 := putV_10 p.a.toNat (by omega)
    have a2 := putV_10 p.b.toNat (by omega)
    unfold enP; rw [List.length_append]; omega)
  have s2 := sum_le enI 10 t.shares (fun p hp => by
    have := h.shares p hp
    exact putV_10 _ (by omega))
  have s3 := sum_le enP 20 t.rungs (fun p hp => by
    have := h.rungs p hp
    have a1 := putV_10 p.a.toNat (by omega)
    have a2 := putV_10 p.b.toNat (by omega)
    unfold enP; rw [List.length_append]; omega)
  unfold putTar
  simp only [List.length_append]
  omega
/-- What is put is taken. -/
theorem rdTar_put {t : Tar} (h : TarFit t) : rdTar (putTar t) = (t, (putTar t).length, 0) := by
  obtain ⟨c, hc⟩ : ∃ c, putTar t = c := ⟨_, rfl⟩
  have h0 : c.drop 0 = putV t.ver.toNat ++ (putV (t.bands.length : Int).toNat ++ (t.bands.flatMap enP ++ (putV t.over.toNat ++ (putV t.full.toNat ++ (putV (t.shares.length : Int).toNat ++ (t.shares.flatMap enI ++ (putV t.unit.toNat ++ (putV t.window.toNat ++ (putV t.chain.toNat ++ (putV (t.rungs.length : Int).toNat ++ (t.rungs.flatMap enP ++ []))))))))))) := by
    rw [← hc]; unfold putTar; simp
  have nb := h.nb
  have ns := h.ns
  have nr := h.nr
  obtain ⟨e1, f1⟩ := rdN_step (most := 1048576) h0 h.ver.1 h.ver.2 (by have := h.ver; omega)
  obtain ⟨e2, f2⟩ := rdN_step (most := 64) f1 (by omega) (by omega) (by omega)
  have e3 := rdMany_put c (rdPair c 4294967296 16777216) enP _ (fun x a t => rdPair_put c 4294967296 16777216 (by omega) (by omega) x a t) t.bands _ _ h.bands f2
  have f3 := drop_app f2
  obtain ⟨e4, f4⟩ := rdN_step (most := 16777216) f3 h.over.1 h.over.2 (by have := h.over; omega)
  obtain ⟨e5, f5⟩ := rdN_step (most := 16777216) f4 h.full.1 h.full.2 (by have := h.full; omega)
  obtain ⟨e6, f6⟩ := rdN_step (most := 16) f5 (by omega) (by omega) (by omega)
  have e7 := rdMany_put c (rdInt c 1000) enI _ (fun x a t => rdInt_put c 1000 (by omega) x a t) t.shares _ _ h.shares f6
  have f7 := drop_app f6
  obtain ⟨e8, f8⟩ := rdN_step (most := 16777216) f7 h.unit.1 h.unit.2 (by have := h.unit; omega)
  obtain ⟨e9, f9⟩ := rdN_step (most := 1099511627776) f8 h.window.1 h.window.2 (by have := h.window; omega)
  obtain ⟨e10, f10⟩ := rdN_step (most := 16) f9 h.chain.1 h.chain.2 (by have := h.chain; omega)
  obtain ⟨e11, f11⟩ := rdN_step (most := 16) f10 (by omega) (by omega) (by omega)
  have e12 := rdMany_put c (rdPair c 281474976710656 1000) enP _ (fun x a t => rdPair_put c 281474976710656 1000 (by omega) (by omega) x a t) t.rungs _ _ h.rungs f11
  have hlen : c.length = 0 + (putV t.ver.toNat).length + (putV (t.bands.length : Int).toNat).length + (t.bands.flatMap enP).length + (putV t.over.toNat).length + (putV t.full.toNat).length + (putV (t.shares.length : Int).toNat).length + (t.shares.flatMap enI).length + (putV t.unit.toNat).length + (putV t.window.toNat).length + (putV t.chain.toNat).length + (putV (t.rungs.length : Int).toNat).length + (t.rungs.flatMap enP).length := by
    have := congrArg List.length h0
    simp only [List.drop_zero, List.length_append, List.length_nil] at this
    omega
  rw [hc, rdTar_of e1 e2 e3 e4 e5 e6 e7 e8 e9 e10 e11 e12, hlen]
theorem take_putT {t : Tar} (h : tarOk t = true) : takeT (frameE 4 (putTar t)) = (t, 0) := by
  have hf := fit_of_ok h
  have hl := putTar_len hf
  rw [takeT_of (whole_put 4 (putTar t) (by omega)), if_neg (by simp), rdTar_put hf]
  simp only []
  have hd : doneE (putTar t) (putTar t).length 0 = 0 := by unfold doneE; rw [if_neg (by omega)]
  rw [hd, if_neg (by simp), h, if_neg (by simp)]
end Go.Proofs.Ytbdkhgenkekioaa.Pb
