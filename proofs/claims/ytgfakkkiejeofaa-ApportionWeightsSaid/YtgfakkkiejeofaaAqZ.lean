/- Apportion: dues, settled: plain. -/
/- Apportion: dues, settled: walked. -/
/- Shares: the example; the law walked. -/
/- Apportion: rides' weights are the document's, and dues are settled one by one: the law walked. -/
/- Apportion: dues, opened. -/
/- ApportionWeights answers true, whatever comes in, and what came in reads as it did; no condition. -/
import Derived.Test.YtgfakkkiejeofaaAqX
import Derived.Test.YtgfakkkiejeofaaApY
import Derived.Test.YtgfakkkiejeofaaIs
import Derived.Test.YtgfakkkiejeofaaNeN
import Derived.Test.YtgfakkkiejeofaaRows
namespace Go.Proofs.Ytgfakkkiejeofaa.Aq
open Go.RowKit Go.V Go.Proofs Go.Sort
open Go.Proofs.Ytgfakkkiejeofaa.Ne
open Go.Proofs.Ytgfakkkiejeofaa.Ap (shMay shareE shareE_ok ShareOk may_ok)

structure Du where
  f : Int
  t : Int
  amt : Int
deriving Inhabited
def Du.enc (d : Du) : List Value := [.int .i64 d.f, .int .i64 d.t, .int .i64 d.amt]
def ducod : Cod Du := ⟨3, Du.enc, fun _ => rfl, by simp [Du.enc, Value.oneCell']⟩
/-- A ride's weights; none where there are none. -/
def wvE (n : Net) (k : Nat) (os : List Int) (d : Du) : List Int := if werrE n k os d.f d.t = 0 then weightsE n k os d.f d.t else []
def addL : List Int → List Int → List Int
  | x :: xs, y :: ys => (x + y) :: addL xs ys
  | xs, [] => xs
  | [], _ :: _ => []
/-- One due: the error, and what is then. -/
def dueE (n : Net) (k : Nat) (os : List Int) (d : Du) (s : List Int × Int) : Int × List Int × Int :=
  if werrE n k os d.f d.t ≠ 0 ∧ werrE n k os d.f d.t ≠ 30 then (werrE n k os d.f d.t, s)
  else if 0 ≤ d.amt ∧ d.amt ≤ 34359738368 then (if shMay d.amt (wvE n k os d) = true then (0, addL s.1 (shareE d.amt (wvE n k os d)), s.2) else (0, s.1, s.2 + d.amt))
  else (2, s)
def settleGo (n : Net) (k : Nat) (os : List Int) : List Du → List Int × Int → Int × List Int × Int
  | [], s => (0, s)
  | d :: ds, s => if (dueE n k os d s).1 = 0 then settleGo n k os ds (dueE n k os d s).2 else ((dueE n k os d s).1, [], 0)
def settleE (n : Net) (k : Nat) (os : List Int) (ds : List Du) : Int × List Int × Int := if opE n os = 0 then settleGo n k os ds (List.replicate (manyE os 0).toNat 0, 0) else (opE n os, [], 0)

theorem addL_len : ∀ xs ys : List Int, (addL xs ys).length = xs.length
  | [], [] => rfl
  | [], _ :: _ => rfl
  | _ :: _, [] => rfl
  | x :: xs, y :: ys => by show _ + 1 = _ + 1; rw [addL_len xs ys]
theorem addL_sum : ∀ xs ys : List Int, ys.length ≤ xs.length → (addL xs ys).sum = xs.sum + ys.sum
  | [], [], _ => rfl
  | [], _ :: _, h => by simp at h
  | _ :: _, [], _ => by simp [addL]
  | x :: xs, y :: ys, h => by
    show (x + y) + (addL xs ys).sum = _
    rw [addL_sum xs ys (by simpa using h), List.sum_cons, List.sum_cons]; omega
theorem addL_in {B C : Int} : ∀ xs ys : List Int, (∀ x ∈ xs, 0 ≤ x ∧ x ≤ B) → (∀ y ∈ ys, 0 ≤ y ∧ y ≤ C) → 0 ≤ C → ∀ z ∈ addL xs ys, 0 ≤ z ∧ z ≤ B + C
  | [], [], _, _, _, z, h => nomatch h
  | [], _ :: _, _, _, _, z, h => nomatch h
  | x :: xs, [], h1, _, h0, z, h => by have := h1 z h; omega
  | x :: xs, y :: ys, h1, h2, h0, z, h => by
    rcases List.mem_cons.1 (show z ∈ (x + y) :: addL xs ys from h) with e | e
    · have a := h1 x (by simp)
      have b := h2 y (by simp)
      omega
    · exact addL_in xs ys (fun x hx => h1 x (by simp [hx])) (fun y hy => h2 y (by simp [hy])) h0 z e
theorem addL_nil (xs : List Int) : addL xs [] = xs := by cases xs <;> rfl
/-- The first i are added. -/
theorem addL_step : ∀ (xs ys : List Int) (i : Nat) (x y : Int), xs[i]? = some x → ys[i]? = some y → (addL xs (ys.take i)).set i (x + y) = addL xs (ys.take (i + 1)) ∧ (addL xs (ys.take i))[i]? = some x
  | [], _, i, x, y, h, _ => by simp at h
  | a :: xs, [], i, x, y, _, h => by simp at h
  | a :: xs, b :: ys, 0, x, y, h1, h2 => by
    simp at h1 h2
    subst h1; subst h2
    rw [List.take_zero, addL_nil]
    refine ⟨?_, rfl⟩
    show (a + b) :: xs = (a + b) :: addL xs (ys.take 0)
    rw [List.take_zero, addL_nil]
  | a :: xs, b :: ys, i + 1, x, y, h1, h2 => by
    obtain ⟨i1, i2⟩ := addL_step xs ys i x y (by simpa using h1) (by simpa using h2)
    rw [List.take_succ_cons, List.take_succ_cons]
    refine ⟨?_, ?_⟩
    · show ((a + b) :: addL xs (ys.take i)).set (i + 1) (x + y) = (a + b) :: addL xs (ys.take (i + 1))
      rw [List.set_cons_succ, i1]
    · show ((a + b) :: addL xs (ys.take i))[i + 1]? = _
      rw [List.getElem?_cons_succ]; exact i2

/-- What is so far. -/
structure St (m : Nat) (B : Int) (s : List Int × Int) : Prop where
  len : s.1.length = m
  out : ∀ x ∈ s.1, 0 ≤ x ∧ x ≤ B
  rest : 0 ≤ s.2 ∧ s.2 ≤ B
theorem wv_len {n : Net} {k : Nat} {os : List Int} {d : Du} (h : shMay d.amt (wvE n k os d) = true) : werrE n k os d.f d.t = 0 ∧ (wvE n k os d).length = (manyE os 0).toNat := by
  by_cases h0 : werrE n k os d.f d.t = 0
  · refine ⟨h0, ?_⟩
    unfold wvE
    rw [if_pos h0, weightsE_len]
  · exfalso
    obtain ⟨-, -, -, h4⟩ := may_ok h
    unfold wvE at h4
    rw [if_neg h0] at h4
    simp at h4
theorem share_in {amount : Int} {ws : List Int} (h : shMay amount ws = true) : ∀ y ∈ shareE amount ws, 0 ≤ y ∧ y ≤ 34359738369 := by
  have hs := shareE_ok h
  obtain ⟨-, -, h3, -⟩ := may_ok h
  intro y hy
  obtain ⟨i, hi⟩ := List.mem_iff_getElem?.1 hy
  have hl : i < ws.length := by have := (List.getElem?_eq_some_iff.1 hi).1; rw [hs.len] at this; exact this
  obtain ⟨x, _, h1, -, h2, h4, -⟩ := hs.mono h hl hl
  rw [hi] at h1
  cases h1
  omega
theorem St.due {n : Net} {k m : Nat} {os : List Int} {B : Int} {s : List Int × Int} (h : St m B s) (d : Du) (h0 : (dueE n k os d s).1 = 0) : St m (B + 34359738369) (dueE n k os d s).2 := by
  unfold dueE at h0 ⊢
  split at h0
  · next hh => exact absurd h0 hh.1
  next hh =>
  rw [if_neg hh]
  split at h0
  · next h2 =>
    rw [if_pos h2]
    split
    · next h3 => exact ⟨(addL_len _ _).trans h.len, addL_in _ _ h.out (share_in h3) (by omega), by have := h.rest; show 0 ≤ s.2 ∧ s.2 ≤ _; omega⟩
    · next h3 => exact ⟨h.len, fun x hx => by have := h.out x hx; omega, by have := h.rest; show 0 ≤ s.2 + d.amt ∧ s.2 + d.amt ≤ _; omega⟩
  · simp at h0
theorem due_sum {n : Net} {k m : Nat} {os : List Int} {s : List Int × Int} (hl : s.1.length = m) (hm : m = (manyE os 0).toNat) (d : Du) (h0 : (dueE n k os d s).1 = 0) : (dueE n k os d s).2.1.sum + (dueE n k os d s).2.2 = s.1.sum + s.2 + d.amt := by
  unfold dueE at h0 ⊢
  split at h0
  · next hh => exact absurd h0 hh.1
  next hh =>
  rw [if_neg hh]
  split at h0
  · next h2 =>
    rw [if_pos h2]
    split
    · next h3 =>
      have hs := shareE_ok h3
      show (addL _ _).sum + s.2 = _
      rw [addL_sum _ _ (by rw [hs.len, (wv_len h3).2, hl, hm]; exact Nat.le_refl _), hs.sum]
      omega
    · next h3 => show s.1.sum + (s.2 + d.amt) = _; omega
  · simp at h0
theorem settle_sum {n : Net} {k m : Nat} {os : List Int} (hm : m = (manyE os 0).toNat) : ∀ (ds : List Du) (B : Int) (s : List Int × Int), St m B s → (settleGo n k os ds s).1 = 0 →
    (settleGo n k os ds s).2.1.sum + (settleGo n k os ds s).2.2 = s.1.sum + s.2 + (ds.map Du.amt).sum ∧ St m (B + ds.length * 34359738369) (settleGo n k os ds s).2 ∧ ∀ d ∈ ds, 0 ≤ d.amt ∧ d.amt ≤ 34359738368
  | [], B, s, hs, _ => by
    refine ⟨by simp [settleGo], ?_, (fun d hd => nomatch hd)⟩
    simpa [settleGo] using hs
  | d :: ds, B, s, hs, h => by
    unfold settleGo at h ⊢
    split at h
    · next h0 =>
      rw [if_pos h0]
      obtain ⟨i1, i2, i3⟩ := settle_sum hm ds (B + 34359738369) _ (hs.due d h0) h
      have hd := due_sum hs.len hm d h0
      refine ⟨?_, ?_, fun x hx => ?_⟩
      · rw [i1, hd, List.map_cons, List.sum_cons]; omega
      · have e : B + ((d :: ds).length : Int) * 34359738369 = B + 34359738369 + (ds.length : Int) * 34359738369 := by simp; omega
        rw [e]; exact i2
      · rcases List.mem_cons.1 hx with e | e
        · subst e
          unfold dueE at h0
          split at h0
          · next hh => exact absurd h0 hh.1
          · split at h0
            · next h2 => exact h2
            · simp at h0
        · exact i3 x e
    · next h0 => exact absurd h h0
end Go.Proofs.Ytgfakkkiejeofaa.Aq

namespace Go.Proofs.Ytgfakkkiejeofaa.Aq
open Go.RowKit Go.V Go.Proofs Go.Sort
open Go.Proofs.Ytgfakkkiejeofaa.Ne
open Go.Proofs.Ytgfakkkiejeofaa.Ap (shMay shareE shareE_ok ShareOk Whole Pty ltP sortP sortP_perm sortP_whole may_ok shares_any rshares_any)

theorem whole_eq {S T : List Pty} {n : Nat} (hS : Whole S n) (hT : Whole T n) (h : S.Perm T) : S = T := by
  have hp : ∀ {U : List Pty}, Whole U n → U.Pairwise ltP := fun {U} hU => by
    rw [List.pairwise_iff_getElem]
    intro i j hi hj hij
    exact hU.sorted i j _ _ (List.getElem?_eq_getElem hi) (List.getElem?_eq_getElem hj) hij
  exact List.Perm.eq_of_pairwise (le := ltP) (fun a b _ _ x y => by unfold ltP at x y; omega) (hp hS) (hp hT) h
theorem ashare_gen (amount : Int) (a : Option Addr) (n cap : Nat) (ws : List Int) (w : World) (hn : n ≤ 200) (h : Sl icod w a n cap ws) :
    Calls Try.prog 14 #[.int .i64 amount, .slice a n cap] w fun e w' => (shMay amount ws = false → e = .returned (.tuple #[.slice none 0 0, .int .i64 2])) ∧
      (shMay amount ws = true → ∃ v, e = .returned (.tuple #[v, .int .i64 0]) ∧ Go.V.Own 3 icod w.heap.size w' v (shareE amount ws)) ∧ Below w.heap.size w w' := by
  have hl : n = ws.length := h.hlen
  refine (shares_any amount a n cap ws w hn h).mono fun e w' hh => ?_
  obtain ⟨h1, h2, h3⟩ := hh
  refine ⟨h1, fun hm => ?_, h3⟩
  obtain ⟨v, out, S, e1, ho, hP, hW, hF⟩ := h2 hm
  have hs := shareE_ok hm
  rw [hl] at hW hF
  have hS : S = sortP amount ws.sum ws := whole_eq hW hs.whole (hP.trans (sortP_perm _ _ _).symm)
  subst hS
  have he := hF.same hs.whole hs.fill
  subst he
  exact ⟨v, e1, ho⟩
theorem rshare_gen (amount : Int) (a : Option Addr) (n cap : Nat) (ws : List Int) (w : World) (h : Sl icod w a n cap ws) (hm : shMay amount ws = true) :
    Calls Try.prog 13 #[.int .i64 amount, .slice a n cap] w fun e w' => ∃ v, e = .returned v ∧ Go.V.Own 3 icod w.heap.size w' v (shareE amount ws) ∧ Below w.heap.size w w' := by
  have hl : n = ws.length := h.hlen
  have hs := shareE_ok hm
  refine (rshares_any amount a n cap ws (sortP amount ws.sum ws) w h hm (sortP_perm _ _ _) (by rw [hl]; exact hs.whole)).mono fun e w' hh => ?_
  obtain ⟨v, out, e1, ho, hF, hb⟩ := hh
  rw [hl] at hF
  have he := hF.same hs.whole hs.fill
  subst he
  exact ⟨v, e1, ho, hb⟩
theorem sl_nil {α : Type} {c : Cod α} (w : World) : Sl c w none 0 0 ([] : List α) := ⟨rfl, Nat.le_refl _, Nat.zero_le _, (fun _ => ⟨rfl, rfl⟩), fun _ hd => nomatch hd⟩
/-- A ride's weights, in one form. -/
theorem aw_gen (n : Net) (hs hl : Hdr) (a : Option Addr) (on oc : Nat) (os : List Int) (d : Du) (w : World) (h60 : hs.n ≤ 60) (h120 : hl.n ≤ 120) (h : NetIn w n hs hl) (ho : Sl icod w a on oc os) :
    Calls Try.prog 9 #[n.val hs hl, .slice a on oc, .int .i64 d.f, .int .i64 d.t] w fun e w' => ∃ va vn vc, e = .returned (.tuple #[.slice va vn vc, .int .i64 (werrE n hs.n os d.f d.t)]) ∧ Sl icod w' va vn vc (wvE n hs.n os d) ∧ Below w.heap.size w w' := by
  refine (aweights_any n hs hl a on oc os d.f d.t w h60 h120 h ho).mono fun e w' hh => ?_
  obtain ⟨h1, h2, h3⟩ := hh
  by_cases h0 : werrE n hs.n os d.f d.t = 0
  · obtain ⟨v, e1, hv⟩ := h2 h0
    obtain ⟨va, vc, rfl, hs', -⟩ := hv.slice
    refine ⟨va, _, vc, by rw [h0]; exact e1, ?_, h3⟩
    unfold wvE; rw [if_pos h0]; exact hs'
  · refine ⟨none, 0, 0, h1 h0, ?_, h3⟩
    unfold wvE; rw [if_neg h0]; exact sl_nil _
theorem rw_gen (n : Net) (hs hl : Hdr) (a : Option Addr) (on oc : Nat) (os : List Int) (d : Du) (w : World) (h60 : hs.n ≤ 60) (h120 : hl.n ≤ 120) (h : NetIn w n hs hl) (ho : Sl icod w a on oc os) :
    Calls Try.prog 10 #[n.val hs hl, .slice a on oc, .int .i64 d.f, .int .i64 d.t] w fun e w' => ∃ va vn vc, e = .returned (.tuple #[.slice va vn vc, .int .i64 (werrE n hs.n os d.f d.t)]) ∧ Sl icod w' va vn vc (wvE n hs.n os d) ∧ Below w.heap.size w w' := by
  refine (rweights_any n hs hl a on oc os d.f d.t w h60 h120 h ho).mono fun e w' hh => ?_
  obtain ⟨h1, h2, h3⟩ := hh
  by_cases h0 : werrE n hs.n os d.f d.t = 0
  · obtain ⟨v, e1, hv⟩ := h2 h0
    obtain ⟨va, vc, rfl, hs', -⟩ := hv.slice
    refine ⟨va, _, vc, by rw [h0]; exact e1, ?_, h3⟩
    unfold wvE; rw [if_pos h0]; exact hs'
  · refine ⟨none, 0, 0, h1 h0, ?_, h3⟩
    unfold wvE; rw [if_neg h0]; exact sl_nil _
theorem du_at {w : World} {a : Option Addr} {n cap : Nat} {l : List Du} (h : Sl ducod w a n cap l) {i : Nat} (hi : i < n) :
   ∃ b off r, a = some ⟨b, off, none⟩ ∧ b < w.heap.size ∧ l[i]? = some r ∧ w.cell? ⟨b, off + i * 3, none⟩ = some (.int .i64 r.f) ∧ w.cell? ⟨b, off + i * 3 + 1, none⟩ = some (.int .i64 r.t) ∧ w.cell? ⟨b, off + i * 3 + 2, none⟩ = some (.int .i64 r.amt) := by
  obtain ⟨b, off, rfl, hb, r, hr, hc⟩ := h.some hi
  exact ⟨b, off, r, rfl, hb, hr, hc 0 _ rfl, hc 1 _ rfl, hc 2 _ rfl⟩
theorem wv_len200 {n : Net} {k : Nat} {os : List Int} {d : Du} (h : opE n os = 0) : (wvE n k os d).length ≤ 64 := by
  unfold wvE
  split
  · rw [weightsE_len]
    have := manyE_in os 0 (opE_ok h).2.2 (by omega) (by omega)
    omega
  · show 0 ≤ 64; omega

set_option maxHeartbeats 8000000 in
set_option maxRecDepth 100000 in
theorem settle_any (n : Net) (hs hl : Hdr) (a : Option Addr) (on oc : Nat) (os : List Int) (da : Option Addr) (dn dc : Nat) (ds : List Du) (w : World) (h60 : hs.n ≤ 60) (h120 : hl.n ≤ 120) (hd15 : dn ≤ 15) (h : NetIn w n hs hl) (ho : Sl icod w a on oc os) (hd : Sl ducod w da dn dc ds) :
    Calls Try.prog 7 #[n.val hs hl, .slice a on oc, .slice da dn dc] w fun e w' => ∃ va vn vc, e = .returned (.tuple #[.slice va vn vc, .int .i64 (settleE n hs.n os ds).2.2, .int .i64 (settleE n hs.n os ds).1]) ∧ Sl icod w' va vn vc (settleE n hs.n os ds).2.1 ∧ Below w.heap.size w w' := by
  obtain ⟨sa, k, sc⟩ := hs
  obtain ⟨la, m, lc⟩ := hl
  have h60 : k ≤ 60 := h60
  have h120 : m ≤ 120 := h120
  have HX0 := Lib.hid (box_new w (n.box ⟨sa, k, sc⟩ ⟨la, m, lc⟩))
  have HB0 : Hid (Below w.heap.size w (w.alloc (n.box ⟨sa, k, sc⟩ ⟨la, m, lc⟩))) := (Below.refl _ _).alloc (Nat.le_refl _) _
  have HH := Lib.hid (h.below HB0.out)
  have HO := Lib.hid (ho.below HB0.out)
  have HD := Lib.hid (hd.below HB0.out)
  have HDN : Hid (dn = ds.length) := hd.hlen
  have HM : Hid (k ≤ 1000000 ∧ m ≤ 1000000) := ⟨by omega, by omega⟩
  obtain ⟨RES, hRES⟩ : ∃ RES, settleE n k os ds = RES := ⟨_, rfl⟩
  have HRES := Lib.hid hRES
  show Calls _ _ _ _ fun e w' => ∃ va vn vc, e = .returned (.tuple #[.slice va vn vc, .int .i64 (settleE n k os ds).2.2, .int .i64 (settleE n k os ds).1]) ∧ Sl icod w' va vn vc (settleE n k os ds).2.1 ∧ Below w.heap.size w w'
  rw [hRES]
  obtain ⟨oe, hoe⟩ : ∃ oe, opE n os = oe := ⟨_, rfl⟩
  have HOE := Lib.hid hoe
  clear h ho hd hRES hoe
  obtain ⟨c0, c1, c2, -, -, -⟩ := box3_cells HX0.out
  by_cases h0 : oe = 0
  case neg =>
    have hz : (oe, ([] : List Int), (0 : Int)) = RES := by rw [← HRES.out]; unfold settleE; rw [HOE.out, if_neg h0]
    subst hz
    have h0b : (oe != 0) = true := by simpa using h0
    clear h0
    go_enter Try.func7, Try.ntmps7
    go_wp2_with (go_at_call 15; go_loud (refine (amay_any n ⟨sa, k, sc⟩ ⟨la, m, lc⟩ a on oc os _ HM.out HH.out HO.out).mono ?_); rintro e w1 ⟨rfl, hb1⟩; rw [HOE.out]; have HB1 := Lib.hid (HB0.out.trans (hb1.mono HB0.out.size)); clear hb1)
    go_ret3
    exact ⟨none, 0, 0, rfl, sl_nil _, HB1.out⟩
  subst h0
  obtain ⟨ok1, ok2, ok3⟩ := opE_ok HOE.out
  have HOB := Lib.hid ok3
  obtain ⟨mm1, mm2, mm3⟩ := manyE_in os 0 HOB.out (Int.le_refl _) (by omega)
  obtain ⟨mz, hmz⟩ : ∃ mz : Nat, manyE os 0 = mz := ⟨(manyE os 0).toNat, by omega⟩
  rw [hmz] at mm2 mm3
  have HMZ := Lib.hid hmz
  have hm64 : mz ≤ 64 := by omega
  have HRW : Hid (settleGo n k os ds (List.replicate mz 0, 0) = RES) := by
    have := HRES.out
    unfold settleE at this
    rw [HOE.out, if_pos rfl, hmz, Int.toNat_natCast] at this
    exact this
  have hmk := Ir.make_any mz (by omega)
  clear ok1 ok2 ok3 mm1 mm2 mm3 hmz HRES
  go_enter Try.func7, Try.ntmps7
  go_upto_region 7 with (first
    | (go_at_call 15; go_loud (refine (amay_any n ⟨sa, k, sc⟩ ⟨la, m, lc⟩ a on oc os _ HM.out HH.out HO.out).mono ?_); rintro e w1 ⟨rfl, hb1⟩; rw [HOE.out]; have HB1 := Lib.hid (HB0.out.trans (hb1.mono HB0.out.size)); have HH1 := Lib.hid (HH.out.below hb1); have HO1 := Lib.hid (HO.out.below hb1); have HD1 := Lib.hid (HD.out.below hb1); have HX1 := Lib.hid (box_below HX0.out hb1); clear hb1)
    | (go_at_call 16; go_loud (refine (amany_any a on oc os _ HO1.out HOB.out).mono ?_); rintro e w2 ⟨rfl, rfl⟩; rw [HMZ.out]))
  obtain ⟨W, rfl⟩ : ∃ W : World, W = w1 := ⟨_, rfl⟩
  have HOW : Hid (Go.V.Own 3 icod w.heap.size (W.alloc (.cells (madeCells #[.int .i64 0] mz) 3)) (.slice (some ⟨W.heap.size, 0, none⟩) mz mz) (List.replicate mz 0)) := Ir.own_made W mz w.heap.size HB1.out.size (by unfold maxLen; omega)
  have HK3 : Hid (Below W.heap.size W (W.alloc (.cells (madeCells #[.int .i64 0] mz) 3))) := (Below.refl _ _).alloc (Nat.le_refl _) _
  obtain ⟨W3, hW3⟩ : ∃ W3, W.alloc (.cells (madeCells #[.int .i64 0] mz) 3) = W3 := ⟨_, rfl⟩
  rw [hW3] at HOW HK3 ⊢
  obtain ⟨ob, hob⟩ : ∃ ob, W.heap.size = ob := ⟨_, rfl⟩
  rw [hob] at HOW ⊢
  have HOBK := Lib.hid hob
  have HW3S : Hid (W3.heap.size = ob + 1) := by show _ = _; rw [← hW3, ← hob]; simp
  clear hW3 hob hmk c0 c1 c2 HX0 HB0 HH HO HD
  go_wp2_with fail
  go_loopw [11, 33] (fun v i wr => ∃ (j : Nat) (out : List Int) (nb : Int), i = .int .i64 (j : Nat) ∧ v = .int .i64 nb ∧ j ≤ dn ∧ Hid (Go.V.Own 3 icod w.heap.size wr (.slice (some ⟨ob, 0, none⟩) mz mz) out) ∧ Hid (St mz ((j : Int) * 34359738369) (out, nb)) ∧ Hid (settleGo n k os (ds.drop j) (out, nb) = RES) ∧ Hid (Below W.heap.size W wr) ∧ Hid (ob + 1 ≤ wr.heap.size)) (fun _ i _ => dn - (intOf i).toNat)
  case atStart => exact ⟨0, List.replicate mz 0, 0, by go_num, rfl, by omega, HOW.out, ⟨List.length_replicate, fun x hx => by rw [List.eq_of_mem_replicate hx]; omega, by omega⟩, by rw [List.drop_zero]; exact HRW.out, HK3.out, Nat.le_of_eq HW3S.out.symm⟩
  case round =>
    clear HOW HK3
    obtain ⟨j, out, nb, rfl, rfl, hj, HOW, HST, HGO, HBK, HZS⟩ := hrel
    obtain ⟨V, rfl⟩ : ∃ V : World, V = wr := ⟨_, rfl⟩
    have HBW : Hid (Below w.heap.size w V) := HB1.out.trans (HBK.out.mono HB1.out.size)
    have hnb := HST.out.rest
    by_cases hlt : j < dn
    case neg =>
      have hjn : dn = j := by omega
      subst hjn
      have hz := HGO.out
      rw [List.drop_of_length_le (by rw [← HDN.out]; exact Nat.le_refl _)] at hz
      have hz : ((0 : Int), out, nb) = RES := hz
      subst hz
      go_wp2_with fail
      go_ret3
      exact ⟨_, _, _, rfl, own_to HOW.out, HBW.out⟩
    have HX2 := Lib.hid (box_below HX1.out HBK.out)
    obtain ⟨c0, c1, c2, -, -, -⟩ := box3_cells HX2.out
    have hzw : w.heap.size < V.heap.size := box_lt HX2.out
    obtain ⟨db, dq, d, rfl, hbl, hd, d0, d1, d2⟩ := du_at (HD1.out.below HBK.out) hlt
    have hji : (j : Int) < (dn : Int) := by omega
    obtain ⟨f, t, amt⟩ := d
    have hgo := HGO.out
    rw [drop_at hd] at hgo
    have hgo : (if (dueE n k os ⟨f, t, amt⟩ (out, nb)).1 = 0 then settleGo n k os (ds.drop (j + 1)) (dueE n k os ⟨f, t, amt⟩ (out, nb)).2 else ((dueE n k os ⟨f, t, amt⟩ (out, nb)).1, [], 0)) = RES := hgo
    have HDUE := Lib.hid hgo
    clear hgo hd
    obtain ⟨we, hwe⟩ : ∃ we, werrE n k os f t = we := ⟨_, rfl⟩
    have HWE := Lib.hid hwe
    clear hwe
    have HXD := Lib.hid (box_new V (.cells #[.int .i64 f, .int .i64 t, .int .i64 amt] 35))
    have HBX : Hid (Below V.heap.size V (V.alloc (.cells #[.int .i64 f, .int .i64 t, .int .i64 amt] 35))) := (Below.refl _ _).alloc (Nat.le_refl _) _
    go_upto_region 12 with (go_at_call 9; go_loud (refine (aw_gen n ⟨sa, k, sc⟩ ⟨la, m, lc⟩ a on oc os ⟨f, t, amt⟩ _ h60 h120 ((HH1.out.below HBK.out).below HBX.out) ((HO1.out.below HBK.out).below HBX.out)).mono ?_); rintro e w4 ⟨va, vn, vc, rfl, hs4, hb4⟩; rw [show werrE n (Hdr.mk sa k sc).n os (Du.mk f t amt).f (Du.mk f t amt).t = we from HWE.out]; have HB4 := Lib.hid (HBX.out.trans (hb4.mono HBX.out.size)); have HXD4 := Lib.hid (box_below HXD.out hb4); have HS4 : Hid (Sl icod w4 va vn vc (wvE n k os ⟨f, t, amt⟩)) := hs4; clear hb4 hs4)
    clear c0 c1 c2 d0 d1 d2
    have HOW4 := Lib.hid (HOW.out.below HB4.out)
    have HBK4 := Lib.hid (HBK.out.trans (HB4.out.mono HBK.out.size))
    have HBW4 := Lib.hid (HBW.out.trans (HB4.out.mono HBW.out.size))
    obtain ⟨x0, x1, x2⟩ : w4.cell? ⟨V.heap.size, 0, none⟩ = some (.int .i64 f) ∧ w4.cell? ⟨V.heap.size, 1, none⟩ = some (.int .i64 t) ∧ w4.cell? ⟨V.heap.size, 2, none⟩ = some (.int .i64 amt) := ⟨(box_cell HXD4.out 0).1, (box_cell HXD4.out 1).1, (box_cell HXD4.out 2).1⟩
    have hvs : V.heap.size < w4.heap.size := box_lt HXD4.out
    by_cases q1 : we ≠ 0 ∧ we ≠ 30
    · have hz : (we, ([] : List Int), (0 : Int)) = RES := by
        have hde : dueE n k os ⟨f, t, amt⟩ (out, nb) = (we, out, nb) := by
          unfold dueE
          rw [if_pos (by show werrE n k os f t ≠ 0 ∧ werrE n k os f t ≠ 30; rw [HWE.out]; exact q1)]
          show (werrE n k os f t, _) = _
          rw [HWE.out]
        have := HDUE.out
        rw [hde] at this
        exact (if_neg (show ¬ ((we, out, nb) : Int × List Int × Int).1 = 0 from q1.1)).symm.trans this
      subst hz
      have e1 : (we != 0) = true := by simpa using q1.1
      have e2 : (we != 30) = true := by simpa using q1.2
      clear q1
      go_wp2_with fail
      go_ret3
      exact ⟨none, 0, 0, rfl, sl_nil _, HBW4.out⟩
    have HQ1 := Lib.hid q1
    clear q1
    go_cut [52] (fun v wx => v = .bool false ∧ w4 = wx)
    case first =>
      by_cases e1 : we = 0
      · have e1b : (we != 0) = false := by simp [e1]
        clear e1
        go_wp2_with fail
        go_meet
        exact ⟨rfl, rfl⟩
      · have e1b : (we != 0) = true := by simpa using e1
        have e2b : (we != 30) = false := by
          by_cases e2 : we = 30
          · simp [e2]
          · exact absurd ⟨e1, e2⟩ HQ1.out
        clear e1
        go_wp2_with fail
        go_meet
        exact ⟨rfl, rfl⟩
    obtain ⟨rfl, rfl⟩ := hcut
    have HD1' : Hid (∀ s : List Int × Int, dueE n k os ⟨f, t, amt⟩ s = if 0 ≤ amt ∧ amt ≤ 34359738368 then (if shMay amt (wvE n k os ⟨f, t, amt⟩) = true then (0, addL s.1 (shareE amt (wvE n k os ⟨f, t, amt⟩)), s.2) else (0, s.1, s.2 + amt)) else (2, s)) := by
      intro s
      unfold dueE
      rw [if_neg (by show ¬ (werrE n k os f t ≠ 0 ∧ werrE n k os f t ≠ 30); rw [HWE.out]; exact HQ1.out)]
    by_cases q2 : 0 ≤ amt ∧ amt ≤ 34359738368
    case neg =>
      have hz : ((2 : Int), ([] : List Int), (0 : Int)) = RES := by
        have := HDUE.out
        rw [show dueE n k os ⟨f, t, amt⟩ (out, nb) = (2, out, nb) from by rw [HD1'.out, if_neg q2]] at this
        exact (if_neg (show ¬ ((2, out, nb) : Int × List Int × Int).1 = 0 from by simp)).symm.trans this
      subst hz
      have HQ2 : Hid (decide (0 ≤ amt ∧ amt ≤ 34359738368) = false) := decide_eq_false q2
      clear q2
      go_wp2_with (go_at_call 17; refine (awith_any amt 0 34359738368 _).mono ?_; rintro e w5 ⟨rfl, rfl⟩; rw [HQ2.out])
      go_ret3
      exact ⟨none, 0, 0, rfl, sl_nil _, HBW4.out⟩
    have HQ2 : Hid (decide (0 ≤ amt ∧ amt ≤ 34359738368) = true) := decide_eq_true q2
    obtain ⟨q2a, q2b⟩ := q2
    obtain ⟨ws, hws⟩ : ∃ ws, wvE n k os ⟨f, t, amt⟩ = ws := ⟨_, rfl⟩
    have hwl : ws.length ≤ 64 := by rw [← hws]; exact wv_len200 HOE.out
    rw [hws] at HS4 HD1'
    have HVN : Hid (vn = ws.length) := HS4.out.hlen
    have hvn200 : vn ≤ 200 := by have := HVN.out; omega
    have HWS := Lib.hid hws
    obtain ⟨sm, hsm⟩ : ∃ sm, shMay amt ws = sm := ⟨_, rfl⟩
    have HSM := Lib.hid hsm
    clear hws hsm
    cases sm with
    | false =>
      have hz : settleGo n k os (ds.drop (j + 1)) (out, nb + amt) = RES := by
        have := HDUE.out
        rw [show dueE n k os ⟨f, t, amt⟩ (out, nb) = (0, out, nb + amt) from by rw [HD1'.out, if_pos ⟨q2a, q2b⟩, if_neg (by rw [HSM.out]; simp)]] at this
        exact (if_pos (show ((0, out, nb + amt) : Int × List Int × Int).1 = 0 from rfl)).symm.trans this
      have HZ := Lib.hid hz
      have hst : St mz (((j + 1 : Nat) : Int) * 34359738369) (out, nb + amt) := by
        refine ⟨HST.out.len, fun x hx => ?_, ?_⟩
        · have := HST.out.out x hx; omega
        · have := HST.out.rest; show 0 ≤ nb + amt ∧ nb + amt ≤ _; omega
      have HST2 := Lib.hid hst
      clear hz hst
      go_upto_region 17 with (first
        | (go_at_call 17; refine (awith_any amt 0 34359738368 _).mono ?_; rintro e w5 ⟨rfl, rfl⟩; rw [HQ2.out])
        | (go_at_call 14; go_loud (refine (ashare_gen amt va vn vc ws _ hvn200 HS4.out).mono ?_); rintro e w5 ⟨h1, -, hb5⟩; have he5 := h1 HSM.out; subst he5; have HB5 := Lib.hid hb5; have HXD5 := Lib.hid (box_below HXD4.out hb5); clear h1 hb5))
      clear x0 x1 x2
      have x2 : w5.cell? ⟨V.heap.size, 2, none⟩ = some (.int .i64 amt) := (box_cell HXD5.out 2).1
      have hvs5 : V.heap.size < w5.heap.size := box_lt HXD5.out
      have hwr : IntKind.i64.wrap (nb + amt) = nb + amt := by have := HST.out.rest; rw [IntKind.wrap_i64]; omega
      go_wp2_with fail
      go_roundw
      case rel => exact ⟨j + 1, out, nb + amt, by go_num, by go_num, by omega, HOW4.out.below HB5.out, HST2.out, HZ.out, HBK4.out.trans (HB5.out.mono HBK4.out.size), by have := HZS.out; have := HB5.out.size; show _ ≤ _; omega⟩
      case measure => simp [intOf]; omega
    | true =>
      obtain ⟨sh, hsh⟩ : ∃ sh, shareE amt ws = sh := ⟨_, rfl⟩
      have hz : settleGo n k os (ds.drop (j + 1)) (addL out sh, nb) = RES := by
        have := HDUE.out
        rw [show dueE n k os ⟨f, t, amt⟩ (out, nb) = (0, addL out sh, nb) from by rw [HD1'.out, if_pos ⟨q2a, q2b⟩, if_pos HSM.out, hsh]] at this
        exact (if_pos (show ((0, addL out sh, nb) : Int × List Int × Int).1 = 0 from rfl)).symm.trans this
      have hin := share_in HSM.out
      rw [hsh] at hin
      have hsl : sh.length = mz := by
        have h1 := (shareE_ok HSM.out).len
        have h2 := (wv_len (n := n) (k := k) (os := os) (d := ⟨f, t, amt⟩) (by rw [HWS.out]; exact HSM.out)).2
        rw [HWS.out, HMZ.out] at h2
        rw [← hsh, h1, h2]; simp
      have hst : St mz (((j + 1 : Nat) : Int) * 34359738369) (addL out sh, nb) := by
        refine ⟨(addL_len _ _).trans HST.out.len, fun x hx => ?_, ?_⟩
        · have := addL_in _ _ HST.out.out hin (by omega) x hx; omega
        · have := HST.out.rest; show 0 ≤ nb ∧ nb ≤ _; omega
      have HST2 := Lib.hid hst
      have HZ := Lib.hid hz
      have HIN := Lib.hid hin
      have HSH := Lib.hid hsh
      have HSLN := Lib.hid hsl
      clear hz hst hin hsh hsl
      go_upto_region 20 with (first
        | (go_at_call 17; refine (awith_any amt 0 34359738368 _).mono ?_; rintro e w5 ⟨rfl, rfl⟩; rw [HQ2.out])
        | (go_at_call 14; go_loud (refine (ashare_gen amt va vn vc ws _ hvn200 HS4.out).mono ?_); rintro e w5 ⟨-, h1, hb5⟩; obtain ⟨v, he5, ho5⟩ := h1 HSM.out; obtain ⟨sa5, sc5, rfl, -, -⟩ := ho5.slice; subst he5; rw [HSH.out, HSLN.out] at ho5; rw [HSH.out, HSLN.out]; have HO5 := Lib.hid ho5; have HB5 := Lib.hid hb5; clear h1 hb5 ho5))
      clear x0 x1 x2
      have HV5 : Hid (Go.V.Own 3 icod (ob + 1) w5 (.slice sa5 mz sc5) sh) := HO5.out.lower (by have := HZS.out; have := HB4.out.size; omega)
      have HOW5 := Lib.hid (HOW4.out.below HB5.out)
      have HBK5 := Lib.hid (HBK4.out.trans (HB5.out.mono HBK4.out.size))
      have HZ5 : Hid (ob + 1 ≤ w5.heap.size) := by have := HZS.out; have := HB4.out.size; have := HB5.out.size; show _ ≤ _; omega
      have HOL : Hid (out.length = mz) := HST.out.len
      have hj15 : ((j : Nat) : Int) * 34359738369 ≤ 515396075535 := by omega
      clear HOW4 HO5 HS4 HXD4 HXD
      go_loopw [73] (fun i wr => ∃ (c : Nat), i = .int .i64 (c : Nat) ∧ c ≤ mz ∧ Hid (Go.V.Own 3 icod w.heap.size wr (.slice (some ⟨ob, 0, none⟩) mz mz) (addL out (sh.take c))) ∧ Hid (Go.V.Own 3 icod (ob + 1) wr (.slice sa5 mz sc5) sh) ∧ Hid (Below W.heap.size W wr) ∧ Hid (ob + 1 ≤ wr.heap.size)) (fun i _ => mz - (intOf i).toNat)
      case atStart => exact ⟨0, by go_num, by omega, by rw [List.take_zero, addL_nil]; exact HOW5.out, HV5.out, HBK5.out, HZ5.out⟩
      case round =>
        clear HOW5 HV5 HBK5 HZ5
        obtain ⟨c, rfl, hc, HOW5, HV5, HBK5, HZ5⟩ := hrel
        by_cases hcl : c < mz
        case neg =>
          have hcm : c = mz := by omega
          subst hcm
          have ha := HOW5.out
          rw [List.take_of_length_le (by rw [HSLN.out]; exact Nat.le_refl _)] at ha
          have HA := Lib.hid ha
          clear ha
          go_wp2_with fail
          go_roundw
          case rel => exact ⟨j + 1, addL out sh, nb, by go_num, rfl, by omega, HA.out, HST2.out, HZ.out, HBK5.out, HZ5.out⟩
          case measure => simp [intOf]; omega
        obtain ⟨b1, o1, y, rfl, hbl1, hy, y0⟩ := int_at (own_to HV5.out) hcl
        obtain ⟨x, hx⟩ : ∃ x, out[c]? = some x := ⟨_, List.getElem?_eq_getElem (by have := HOL.out; omega)⟩
        obtain ⟨s1, s2⟩ := addL_step out sh c x y hx hy
        have hln : mz = (addL out (sh.take c)).length := by rw [addL_len]; exact HOL.out.symm
        obtain ⟨x', hx', r0, r1, hobw⟩ := Ir.icells HOW5.out hln hcl
        have hxe := Option.some.inj (hx'.symm.trans s2)
        subst hxe
        have hxb := HST.out.out x' (List.mem_of_getElem? hx)
        have hyb := HIN.out y (List.mem_of_getElem? hy)
        have hci : (c : Int) < (mz : Int) := by omega
        have hwr : IntKind.i64.wrap (x' + y) = x' + y := by rw [IntKind.wrap_i64]; omega
        obtain ⟨hset, hgrow⟩ := Ir.iset HOW5.out hln c (x' + y)
        rw [s1] at hset
        have HSET := Lib.hid hset
        have HVS := Lib.hid (own_off HV5.out hgrow)
        have HBF : Hid (Below W.heap.size W (wr.setCell ⟨ob, c, none⟩ (.int .i64 (x' + y)))) := HBK5.out.grown hgrow HBK5.out.size (fun g e => by have := Option.some.inj e; have := HOBK.out; omega)
        clear hx s1 s2 hx' hln hset hgrow hy hxb hyb
        go_wp2_with fail
        go_roundw
        case rel => exact ⟨c + 1, by go_num, by omega, HSET.out, HVS.out, HBF.out, by have := HZ5.out; show _ ≤ _; simpa using this⟩
        case measure => simp [intOf]; omega
end Go.Proofs.Ytgfakkkiejeofaa.Aq

namespace Go.Proofs.Ytgfakkkiejeofaa.Ap
open Go.RowKit Go.V Go.Proofs Go.Sort Go.Shelf
open Go.Proofs.Ytgfakkkiejeofaa.Ne (icod int_at box_new box_cell)
open Go.Proofs.Ytgfakkkiejeofaa.Ir Go.Proofs.Ytgfakkkiejeofaa.Is

theorem ex_filled {S : List Pty} {out : List Int} (hP : S.Perm (ptys 10 3 [1, 1, 1])) (hW : Whole S 3) (hF : Filled S 3 1 out) : out = [4, 3, 3] := by
  have hall : ∀ (i : Nat) (p : Pty), S[i]? = some p → p.share = 3 ∧ p.rest = 1 := by
    intro i p hi
    have hm := hP.mem_iff.1 (List.mem_of_getElem? hi)
    have e : ptys 10 3 [1, 1, 1] = [⟨0, 3, 1⟩, ⟨1, 3, 1⟩, ⟨2, 3, 1⟩] := by simp [ptys, ptyAt, List.mapIdx_cons]
    rw [e] at hm
    simp at hm
    rcases hm with h | h | h <;> subst h <;> exact ⟨rfl, rfl⟩
  have h0 : ∀ (i : Nat) (p : Pty), S[i]? = some p → p.place = 0 → i = 0 := by
    intro i p hi hp
    rcases Nat.eq_zero_or_pos i with h | h
    · exact h
    · exfalso
      have hl := (List.getElem?_eq_some_iff.1 hi).1
      have hq : S[0]? = some S[0] := List.getElem?_eq_getElem (by omega)
      have hs := hW.sorted 0 i _ p hq hi h
      obtain ⟨l0, -, -⟩ := hW.low 0 _ hq
      have r1 := (hall 0 _ hq).2
      have r2 := (hall i p hi).2
      unfold ltP at hs; omega
  refine hF.same hW ⟨rfl, fun i p hi => ?_⟩
  obtain ⟨p0, p1, -⟩ := hW.low i p hi
  obtain ⟨s1, -⟩ := hall i p hi
  rw [s1]
  have hcase : p.place = 0 ∨ p.place = 1 ∨ p.place = 2 := by omega
  have hi0 : p.place ≠ 0 → ¬ i < 1 := by
    intro hne hlt
    obtain ⟨j, q, hj, hq⟩ := hW.all 0 (by omega)
    have := h0 j q hj hq
    have : i = j := by omega
    subst this
    rw [hj] at hi; cases hi
    exact hne (by omega)
  rcases hcase with e | e | e
  · rw [e, h0 i p hi e]; rfl
  · rw [e, if_neg (hi0 (by omega))]; rfl
  · rw [e, if_neg (hi0 (by omega))]; rfl

set_option maxHeartbeats 1000000 in
theorem awake55_any (w : World) : Calls Try.prog 5 #[] w fun e w' => e = .returned (.bool true) ∧ RowKit.Below w.heap.size w w' := by
  have HS0 := Lib.hid (sl_new (c := icod) w #[.int .i64 1, .int .i64 1, .int .i64 1] 3 [1, 1, 1] 3 rfl (by unfold maxLen; omega) rfl)
  have HB0 : Hid (RowKit.Below w.heap.size w (w.alloc (.cells #[.int .i64 1, .int .i64 1, .int .i64 1] 3))) := (Below.refl _ _).alloc (Nat.le_refl _) _
  have HM : Hid (shMay 10 [1, 1, 1] = true) := by show _ = _; decide
  go_enter Try.func5, Try.ntmps5
  go_upto_region 2 with (go_at_call 14; go_loud (refine (shares_any 10 (some ⟨w.heap.size, 0, none⟩) 3 3 [1, 1, 1] _ (by omega) HS0.out).mono ?_); rintro e w1 ⟨-, hy, hb⟩; obtain ⟨v, out, S, rfl, ho, hP, hW, hF⟩ := hy HM.out; have he := ex_filled hP hW hF; subst he; have HO := Lib.hid ho; have HB1 := Lib.hid (HB0.out.trans (hb.mono HB0.out.size)); clear hy hb ho hP hW hF)
  obtain ⟨a, c, hv, hs, -⟩ := HO.out.slice
  subst hv
  have HSL := Lib.hid hs
  clear hs
  go_wp2_with (go_at_call 11; go_loud (refine (isame_any a 3 c [4, 3, 3] _ _ _ [4, 3, 3] _ (HSL.out.below ((Below.refl _ _).alloc (Nat.le_refl _) _)) (sl_new (c := icod) _ #[.int .i64 4, .int .i64 3, .int .i64 3] 3 [4, 3, 3] 3 rfl (by unfold maxLen; omega) rfl)).mono ?_); rintro e w2 ⟨rfl, hb2⟩; have HB2 := Lib.hid ((HB1.out.alloc HB1.out.size (.cells #[.int .i64 4, .int .i64 3, .int .i64 3] 3)).trans (hb2.mono (by have := HB1.out.size; simp; omega))); clear hb2)
  go_ret
  exact ⟨rfl, HB2.out⟩

end Go.Proofs.Ytgfakkkiejeofaa.Ap

namespace Go.Proofs.Ytgfakkkiejeofaa.Aq
open Go.RowKit Go.V Go.Proofs Go.Sort
open Go.Proofs.Ytgfakkkiejeofaa.Ne
open Go.Proofs.Ytgfakkkiejeofaa.Ap (shMay shareE shareE_ok ShareOk may_ok rmay_any awake55_any)

set_option maxHeartbeats 8000000 in
set_option maxRecDepth 100000 in
theorem aweights_law (n : Net) (hs hl : Hdr) (a : Option Addr) (on oc : Nat) (os : List Int) (da : Option Addr) (dn dc : Nat) (ds : List Du) (w : World) (h : NetIn w n hs hl) (ho : Sl icod w a on oc os) (hd : Sl ducod w da dn dc ds) :
    Calls Try.prog 3 #[n.val hs hl, .slice a on oc, .slice da dn dc] w fun e w' => e = .returned (.bool true) ∧ Below w.heap.size w w' := by
  obtain ⟨sa, k, sc⟩ := hs
  obtain ⟨la, m, lc⟩ := hl
  have HX0 := Lib.hid (box_new w (n.box ⟨sa, k, sc⟩ ⟨la, m, lc⟩))
  have HB0 : Hid (Below w.heap.size w (w.alloc (n.box ⟨sa, k, sc⟩ ⟨la, m, lc⟩))) := (Below.refl _ _).alloc (Nat.le_refl _) _
  have HH := Lib.hid (h.below HB0.out)
  have HO := Lib.hid (ho.below HB0.out)
  have HD := Lib.hid (hd.below HB0.out)
  have HON : Hid (on = os.length) := ho.hlen
  have HDN : Hid (dn = ds.length) := hd.hlen
  have ho9 : on ≤ 9223372036854775807 := by have h1 : on ≤ oc := ho.hcap; have h2 : oc ≤ maxLen := ho.hmax; unfold maxLen at h2; omega
  have hd9 : dn ≤ 9223372036854775807 := by have h1 : dn ≤ dc := hd.hcap; have h2 : dc ≤ maxLen := hd.hmax; unfold maxLen at h2; omega
  clear h ho hd
  obtain ⟨fb, hfb⟩ : ∃ fb, decide (k ≤ 60 ∧ m ≤ 120) = fb := ⟨_, rfl⟩
  have HFB := Lib.hid hfb
  clear hfb
  go_enter Try.func3, Try.ntmps3
  go_upto_region 3 with (go_at_call 5; refine (awake55_any _).mono ?_; rintro e w1 ⟨rfl, hb1⟩; have HB1 := Lib.hid (HB0.out.trans (hb1.mono HB0.out.size)); have HX1 := Lib.hid (box_below HX0.out hb1); have HH1 := Lib.hid (HH.out.below hb1); have HO1 := Lib.hid (HO.out.below hb1); have HD1 := Lib.hid (HD.out.below hb1); clear hb1)
  obtain ⟨c0, c1, c2, -, -, -⟩ := box3_cells HX1.out
  clear HX0 HB0 HH HO HD
  cases fb with
  | false =>
    go_wp2_with (go_at_call 6; refine (few_any n ⟨sa, k, sc⟩ ⟨la, m, lc⟩ _).mono ?_; rintro e w2 ⟨rfl, hb2⟩; rw [HFB.out]; have HB2 := Lib.hid (HB1.out.trans (hb2.mono HB1.out.size)); clear hb2)
    go_ret
    exact ⟨rfl, HB2.out⟩
  | true =>
  obtain ⟨k60, m120⟩ := of_decide_eq_true HFB.out
  by_cases ho2 : (200 : Int) < (on : Int)
  · go_wp2_with (go_at_call 6; refine (few_any n ⟨sa, k, sc⟩ ⟨la, m, lc⟩ _).mono ?_; rintro e w2 ⟨rfl, hb2⟩; rw [HFB.out]; have HB2 := Lib.hid (HB1.out.trans (hb2.mono HB1.out.size)); clear hb2)
    go_ret
    exact ⟨rfl, HB2.out⟩
  have ho2b : decide ((200 : Int) < (on : Int)) = false := decide_eq_false ho2
  by_cases hd2 : (15 : Int) < (dn : Int)
  · go_wp2_with (go_at_call 6; refine (few_any n ⟨sa, k, sc⟩ ⟨la, m, lc⟩ _).mono ?_; rintro e w2 ⟨rfl, hb2⟩; rw [HFB.out]; have HB2 := Lib.hid (HB1.out.trans (hb2.mono HB1.out.size)); clear hb2)
    go_ret
    exact ⟨rfl, HB2.out⟩
  have hd2b : decide ((15 : Int) < (dn : Int)) = false := decide_eq_false hd2
  have hd15 : dn ≤ 15 := by omega
  have HM : Hid (k ≤ 1000000 ∧ m ≤ 1000000) := ⟨by omega, by omega⟩
  obtain ⟨E, SS, NN, hRES⟩ : ∃ E SS NN, settleE n k os ds = (E, SS, NN) := ⟨_, _, _, rfl⟩
  have HRES := Lib.hid hRES
  clear hRES
  go_upto_region 5 with (go_at_call 6; refine (few_any n ⟨sa, k, sc⟩ ⟨la, m, lc⟩ _).mono ?_; rintro e w2 ⟨rfl, hb2⟩; rw [HFB.out]; have HB2 := Lib.hid (HB1.out.trans (hb2.mono HB1.out.size)); have HX2 := Lib.hid (box_below HX1.out hb2); have HH2 := Lib.hid (HH1.out.below hb2); have HO2 := Lib.hid (HO1.out.below hb2); have HD2 := Lib.hid (HD1.out.below hb2); clear hb2)
  clear c0 c1 c2 ho2 hd2 ho2b hd2b
  obtain ⟨c0, c1, c2, -, -, -⟩ := box3_cells HX2.out
  obtain ⟨oe, hoe⟩ : ∃ oe, opE n os = oe := ⟨_, rfl⟩
  have HOE := Lib.hid hoe
  clear hoe
  go_upto_region 8 with (first
    | (go_at_call 7; go_loud (refine (settle_any n ⟨sa, k, sc⟩ ⟨la, m, lc⟩ a on oc os da dn dc ds _ k60 m120 hd15 HH2.out HO2.out HD2.out).mono ?_); rintro e w3 ⟨va, vn, vc, rfl, hs3, hb3⟩; rw [show settleE n (Hdr.mk sa k sc).n os ds = (E, SS, NN) from HRES.out] at hs3 ⊢; have HS3 : Hid (Sl icod w3 va vn vc SS) := hs3; have HB3 := Lib.hid (HB2.out.trans (hb3.mono HB2.out.size)); have HX3 := Lib.hid (box_below HX2.out hb3); have HH3 := Lib.hid (HH2.out.below hb3); have HO3 := Lib.hid (HO2.out.below hb3); have HD3 := Lib.hid (HD2.out.below hb3); obtain ⟨d0, d1, d2, -, -, -⟩ := box3_cells HX3.out; clear hb3 hs3)
    | (go_at_call 8; go_loud (refine (roper_any n ⟨sa, k, sc⟩ ⟨la, m, lc⟩ a on oc os _ HM.out HH3.out HO3.out).mono ?_); rintro e w4 ⟨rfl, hb4⟩; rw [HOE.out]; have HS4 := Lib.hid (HS3.out.below hb4); have HB4 := Lib.hid (HB3.out.trans (hb4.mono HB3.out.size)); have HX4 := Lib.hid (box_below HX3.out hb4); have HH4 := Lib.hid (HH3.out.below hb4); have HO4 := Lib.hid (HO3.out.below hb4); have HD4 := Lib.hid (HD3.out.below hb4); clear hb4))
  clear c0 c1 c2 d0 d1 d2 HX1 HX2 HX3 HB1 HB2 HB3 HH1 HH2 HH3 HO1 HO2 HO3 HD1 HD2 HD3 HS3
  obtain ⟨mz, hmz⟩ : ∃ mz : Nat, (if oe = 0 then manyE os 0 else 0) = mz := by
    by_cases h0 : oe = 0
    · rw [if_pos h0]
      have := manyE_in os 0 (opE_ok (HOE.out.trans h0)).2.2 (Int.le_refl _) (by omega)
      exact ⟨(manyE os 0).toNat, by omega⟩
    · rw [if_neg h0]; exact ⟨0, rfl⟩
  have hm64 : mz ≤ 64 := by
    by_cases h0 : oe = 0
    · rw [if_pos h0] at hmz
      have := manyE_in os 0 (opE_ok (HOE.out.trans h0)).2.2 (Int.le_refl _) (by omega)
      omega
    · rw [if_neg h0] at hmz; omega
  have HMZ := Lib.hid hmz
  clear hmz
  go_upto_if 51 with fail
  go_cut [11] (fun v wx => v = .int .i64 (mz : Int) ∧ w4 = wx)
  case first =>
    by_cases h0 : oe = 0
    case neg =>
      have h0b : (oe == 0) = false := by simpa using h0
      have hz : mz = 0 := by have := HMZ.out; rw [if_neg h0] at this; omega
      subst hz
      clear h0
      go_wp2_with fail
      go_meet
      exact ⟨rfl, rfl⟩
    have h0b : (oe == 0) = true := by simpa using h0
    have HOB := Lib.hid (opE_ok (HOE.out.trans h0)).2.2
    have HMM : Hid (manyE os 0 = (mz : Int)) := by have := HMZ.out; rw [if_pos h0] at this; exact this
    clear h0
    go_wp2_with fail
    go_loopw [11, 54] (fun v i wr => ∃ (j : Nat) (mm : Int), i = .int .i64 j ∧ v = .int .i64 mm ∧ j ≤ on ∧ 0 ≤ mm ∧ mm ≤ 64 ∧ Hid (manyE (os.drop j) mm = (mz : Int)) ∧ Hid (w4 = wr)) (fun _ i _ => on - (intOf i).toNat)
    case atStart => exact ⟨0, 0, by go_num, rfl, by omega, by omega, by omega, by rw [List.drop_zero]; exact HMM.out, rfl⟩
    case round =>
      obtain ⟨j, mm, rfl, rfl, hj, m0, m1, HMJ, HWW⟩ := hrel
      have hww := HWW.out
      clear HWW
      subst hww
      by_cases hlt : j < on
      · obtain ⟨b, off, o, rfl, hbl, hr, q0⟩ := int_at HO4.out hlt
        have hji : (j : Int) < (on : Int) := by omega
        have hob : 0 ≤ o ∧ o ≤ 63 := of_decide_eq_true (List.all_eq_true.1 HOB.out o (List.mem_of_getElem? hr))
        have hz := HMJ.out
        rw [drop_at hr] at hz
        have hz : manyE (os.drop (j + 1)) (if mm < o + 1 then o + 1 else mm) = (mz : Int) := hz
        clear hr
        by_cases hm : mm < o + 1
        · rw [if_pos hm] at hz
          have HZ := Lib.hid hz
          clear hz
          go_wp2_with fail
          go_roundw
          case rel => exact ⟨j + 1, o + 1, by go_num, by go_num, by omega, by omega, by omega, HZ.out, Lib.hid trivial⟩
          case measure => simp [intOf]; omega
        · rw [if_neg hm] at hz
          have HZ := Lib.hid hz
          clear hz
          go_wp2_with fail
          go_roundw
          case rel => exact ⟨j + 1, mm, by go_num, by go_num, by omega, by omega, by omega, HZ.out, Lib.hid trivial⟩
          case measure => simp [intOf]; omega
      have hjn : on = j := by omega
      subst hjn
      have hz := HMJ.out
      rw [List.drop_of_length_le (by rw [← HON.out]; exact Nat.le_refl _)] at hz
      have hz : mm = (mz : Int) := hz
      subst hz
      go_wp2_with fail
      go_meet
      exact ⟨rfl, rfl⟩
  obtain ⟨rfl, rfl⟩ := hcut
  obtain ⟨W, rfl⟩ : ∃ W : World, W = w4 := ⟨_, rfl⟩
  have hmk := Ir.make_any mz (by omega)
  have HOW : Hid (Go.V.Own 3 icod w.heap.size (W.alloc (.cells (madeCells #[.int .i64 0] mz) 3)) (.slice (some ⟨W.heap.size, 0, none⟩) mz mz) (List.replicate mz 0)) := Ir.own_made W mz w.heap.size HB4.out.size (by unfold maxLen; omega)
  have HK3 : Hid (Below W.heap.size W (W.alloc (.cells (madeCells #[.int .i64 0] mz) 3))) := (Below.refl _ _).alloc (Nat.le_refl _) _
  have HW3S : Hid ((W.alloc (.cells (madeCells #[.int .i64 0] mz) 3)).heap.size = W.heap.size + 1) := by show _ = _; simp
  obtain ⟨W3, hW3⟩ : ∃ W3, W.alloc (.cells (madeCells #[.int .i64 0] mz) 3) = W3 := ⟨_, rfl⟩
  have hmk2 : (Instr.makeSlice 26 (.int .i64 (mz : Int)) (.int .i64 (mz : Int))).run Try.prog W = .ok (.slice (some ⟨W.heap.size, 0, none⟩) mz mz) W3 := by rw [hmk W, hW3]
  rw [hW3] at HOW HK3 HW3S
  obtain ⟨ob, hob⟩ : ∃ ob, W.heap.size = ob := ⟨_, rfl⟩
  rw [hob] at HOW HW3S hmk2
  have HOBK := Lib.hid hob
  clear hW3 hob hmk
  go_wp2_with fail
  clear hmk2
  go_loopw [10, 12, 67] (fun wv rv i wr => ∃ (j : Nat) (wt rs : Int) (all : List Int), i = .int .i64 (j : Nat) ∧ wv = .int .i64 wt ∧ rv = .int .i64 rs ∧ j ≤ dn ∧ Hid (Go.V.Own 3 icod w.heap.size wr (.slice (some ⟨ob, 0, none⟩) mz mz) all) ∧ Hid (wt = 0 → opE n os = 0 ∧ St mz ((j : Int) * 34359738369) (all, rs) ∧ settleGo n k os (ds.drop j) (all, rs) = (E, SS, NN)) ∧ Hid (wt ≠ 0 → E = wt ∧ SS = [] ∧ NN = 0) ∧ Hid (Below W.heap.size W wr) ∧ Hid (ob + 1 ≤ wr.heap.size)) (fun _ _ i _ => dn - (intOf i).toNat)
  case atStart =>
    refine ⟨0, oe, 0, List.replicate mz 0, by go_num, rfl, rfl, by omega, HOW.out, fun h0 => ?_, fun h0 => ?_, HK3.out, Nat.le_of_eq HW3S.out.symm⟩
    · have hz := HMZ.out
      rw [if_pos h0] at hz
      refine ⟨HOE.out.trans h0, ⟨List.length_replicate, fun x hx => by rw [List.eq_of_mem_replicate hx]; omega, by omega⟩, ?_⟩
      have := HRES.out
      unfold settleE at this
      rw [if_pos (HOE.out.trans h0), hz, Int.toNat_natCast] at this
      rw [List.drop_zero]; exact this
    · have := HRES.out
      unfold settleE at this
      rw [if_neg (by rw [HOE.out]; exact h0), HOE.out] at this
      cases this
      exact ⟨rfl, rfl, rfl⟩
  case round =>
    clear HOW HK3
    obtain ⟨j, wt, rs, all, rfl, rfl, rfl, hj, HOW, HT0, HT1, HBK, HZS⟩ := hrel
    obtain ⟨V, rfl⟩ : ∃ V : World, V = wr := ⟨_, rfl⟩
    have HBW : Hid (Below w.heap.size w V) := HB4.out.trans (HBK.out.mono HB4.out.size)
    have HSV := Lib.hid (HS4.out.below HBK.out)
    by_cases hlt : j < dn
    case neg =>
      have hjn : dn = j := by omega
      subst hjn
      by_cases hw0 : wt = 0
      · subst hw0
        obtain ⟨-, hst, hz⟩ := HT0.out rfl
        rw [List.drop_of_length_le (by rw [← HDN.out]; exact Nat.le_refl _)] at hz
        have hz : ((0 : Int), all, rs) = (E, SS, NN) := hz
        cases hz
        go_wp2_with (go_at_call 11; go_loud (refine (Ne.isame_any va vn vc SS (some ⟨ob, 0, none⟩) mz mz SS _ HSV.out (own_to HOW.out)).mono ?_); rintro e w5 ⟨rfl, hb5⟩; rw [show decide (SS = SS) = true from decide_eq_true rfl]; have HB5 := Lib.hid (HBW.out.trans (hb5.mono HBW.out.size)); clear hb5)
        go_ret
        exact ⟨ret_bool (by simp), HB5.out⟩
      · obtain ⟨e1, e2, e3⟩ := HT1.out hw0
        subst e1; subst e2; subst e3
        have hvn0 : vn = 0 := HSV.out.hlen
        subst hvn0
        have hwb : (E != 0) = true := by simpa using hw0
        clear hw0
        go_wp2_with fail
        go_ret
        exact ⟨ret_bool (by simp), HBW.out⟩
    have HX5 := Lib.hid (box_below HX4.out HBK.out)
    obtain ⟨c0, c1, c2, -, -, -⟩ := box3_cells HX5.out
    have hzw : w.heap.size < V.heap.size := box_lt HX5.out
    obtain ⟨db, dq, d, rfl, hbl, hd, d0, d1, d2⟩ := du_at (HD4.out.below HBK.out) hlt
    have hji : (j : Int) < (dn : Int) := by omega
    obtain ⟨f, t, amt⟩ := d
    have HDJ : Hid (ds.drop j = ⟨f, t, amt⟩ :: ds.drop (j + 1)) := drop_at hd
    clear hd
    obtain ⟨we, hwe⟩ : ∃ we, werrE n k os f t = we := ⟨_, rfl⟩
    have HWE := Lib.hid hwe
    obtain ⟨ws, hws⟩ : ∃ ws, wvE n k os ⟨f, t, amt⟩ = ws := ⟨_, rfl⟩
    have HWS := Lib.hid hws
    clear hwe hws
    have HXD := Lib.hid (box_new V (.cells #[.int .i64 f, .int .i64 t, .int .i64 amt] 35))
    have HBX : Hid (Below V.heap.size V (V.alloc (.cells #[.int .i64 f, .int .i64 t, .int .i64 amt] 35))) := (Below.refl _ _).alloc (Nat.le_refl _) _
    go_upto_region 18 with fail
    obtain ⟨zb, hzb⟩ : ∃ zb, V.heap.size = zb := ⟨_, rfl⟩
    have HZB := Lib.hid hzb
    obtain ⟨X, hX⟩ : ∃ X, V.alloc (.cells #[.int .i64 f, .int .i64 t, .int .i64 amt] 35) = X := ⟨_, rfl⟩
    rw [hX] at HXD HBX ⊢
    rw [hzb] at HXD ⊢
    have HX6 := Lib.hid (box_below HX5.out HBX.out)
    clear hX hzb c0 c1 c2 d0 d1 d2
    obtain ⟨c0, c1, c2, -, -, -⟩ := box3_cells HX6.out
    obtain ⟨y0, y1, y2⟩ : X.cell? ⟨zb, 0, none⟩ = some (.int .i64 f) ∧ X.cell? ⟨zb, 1, none⟩ = some (.int .i64 t) ∧ X.cell? ⟨zb, 2, none⟩ = some (.int .i64 amt) := ⟨(box_cell HXD.out 0).1, (box_cell HXD.out 1).1, (box_cell HXD.out 2).1⟩
    have hxs : zb < X.heap.size := box_lt HXD.out
    have hws9 : w.heap.size < X.heap.size := box_lt HX6.out
    have HKX := Lib.hid (HBK.out.trans (HBX.out.mono HBK.out.size))
    go_upto_region 22 with (first
      | (go_at_call 9; go_loud (refine (aw_gen n ⟨sa, k, sc⟩ ⟨la, m, lc⟩ a on oc os ⟨f, t, amt⟩ _ k60 m120 (HH4.out.below HKX.out) (HO4.out.below HKX.out)).mono ?_); rintro e w6 ⟨ua, un, uc, rfl, hs6, hb6⟩; rw [show werrE n (Hdr.mk sa k sc).n os (Du.mk f t amt).f (Du.mk f t amt).t = we from HWE.out]; have HB6 := Lib.hid hb6; have HK6 := Lib.hid (HKX.out.trans (hb6.mono HKX.out.size)); have HXD6 := Lib.hid (box_below HXD.out hb6); have HX7 := Lib.hid (box_below HX6.out hb6); obtain ⟨z0, z1, z2⟩ : w6.cell? ⟨zb, 0, none⟩ = some (.int .i64 f) ∧ w6.cell? ⟨zb, 1, none⟩ = some (.int .i64 t) ∧ w6.cell? ⟨zb, 2, none⟩ = some (.int .i64 amt) := ⟨(box_cell HXD6.out 0).1, (box_cell HXD6.out 1).1, (box_cell HXD6.out 2).1⟩; obtain ⟨e0, e1, e2, -, -, -⟩ := box3_cells HX7.out; have hs6' : Sl icod w6 ua un uc ws := (by rw [← HWS.out]; exact hs6); have HS6 := Lib.hid hs6'; clear hb6 hs6 hs6')
      | (go_at_call 10; go_loud (refine (rw_gen n ⟨sa, k, sc⟩ ⟨la, m, lc⟩ a on oc os ⟨f, t, amt⟩ _ k60 m120 (HH4.out.below HK6.out) (HO4.out.below HK6.out)).mono ?_); rintro e w7 ⟨xa, xn, xc, rfl, hs7, hb7⟩; rw [show werrE n (Hdr.mk sa k sc).n os (Du.mk f t amt).f (Du.mk f t amt).t = we from HWE.out]; have HB7 := Lib.hid (HB6.out.trans (hb7.mono HB6.out.size)); have HK7 := Lib.hid (HK6.out.trans (hb7.mono HK6.out.size)); have HXD7 := Lib.hid (box_below HXD6.out hb7); have hs7' : Sl icod w7 xa xn xc ws := (by rw [← HWS.out]; exact hs7); have HS7 := Lib.hid hs7'; have HS67 := Lib.hid (HS6.out.below hb7); clear hb7 hs7 hs7')
      | (go_at_call 11; go_loud (refine (Ne.isame_any ua un uc ws xa xn xc ws _ HS67.out HS7.out).mono ?_); rintro e w8 ⟨rfl, hb8⟩; rw [show decide (ws = ws) = true from decide_eq_true rfl]; have HB8 := Lib.hid (HB7.out.trans (hb8.mono HB7.out.size)); have HK8 := Lib.hid (HK7.out.trans (hb8.mono HK7.out.size)); have HXD8 := Lib.hid (box_below HXD7.out hb8); have HS8 := Lib.hid (HS7.out.below hb8); clear hb8))
    clear c0 c1 c2 y0 y1 y2 z0 z1 z2 e0 e1 e2 hxs hws9
    have HOW8 : Hid (Go.V.Own 3 icod w.heap.size w8 (.slice (some ⟨ob, 0, none⟩) mz mz) all) := (HOW.out.below HBX.out).below HB8.out
    have HZ8 : Hid (ob + 1 ≤ w8.heap.size) := by have := HZS.out; have := HBX.out.size; have := HB8.out.size; show _ ≤ _; omega
    clear HOW HXD HXD6 HXD7 HS6 HS67 HS7 HK6 HK7 HKX HB6 HB7 HX5 HX6
    by_cases hw0 : wt = 0
    case neg =>
      have hwb : (wt != 0) = true := by simpa using hw0
      have HW0 := Lib.hid hw0
      clear hw0
      go_wp2_with fail
      go_roundw
      case rel => exact ⟨j + 1, wt, rs, all, by go_num, rfl, rfl, by omega, HOW8.out, fun h => absurd h HW0.out, HT1.out, HK8.out, HZ8.out⟩
      case measure => simp [intOf]; omega
    subst hw0
    obtain ⟨hop, hst, hgo⟩ := HT0.out rfl
    rw [HDJ.out] at hgo
    have hgo : (if (dueE n k os ⟨f, t, amt⟩ (all, rs)).1 = 0 then settleGo n k os (ds.drop (j + 1)) (dueE n k os ⟨f, t, amt⟩ (all, rs)).2 else ((dueE n k os ⟨f, t, amt⟩ (all, rs)).1, [], 0)) = (E, SS, NN) := hgo
    have HDUE := Lib.hid hgo
    have HOP := Lib.hid hop
    have HST := Lib.hid hst
    have hrs := hst.rest
    clear hgo hop hst HT0 HT1
    have HER : Hid (∀ er : Int, er ≠ 0 → dueE n k os ⟨f, t, amt⟩ (all, rs) = (er, all, rs) → E = er ∧ SS = [] ∧ NN = 0) := by
      intro er h0 hde
      have := HDUE.out
      rw [hde] at this
      have h9 := (if_neg (show ¬ ((er, all, rs) : Int × List Int × Int).1 = 0 from h0)).symm.trans this
      cases h9
      exact ⟨rfl, rfl, rfl⟩
    by_cases q1 : we ≠ 0 ∧ we ≠ 30
    · have hz := HER.out we q1.1 (by
        unfold dueE
        rw [if_pos (by show werrE n k os f t ≠ 0 ∧ werrE n k os f t ≠ 30; rw [HWE.out]; exact q1)]
        show (werrE n k os f t, _) = _
        rw [HWE.out])
      have HZ := Lib.hid hz
      have e1 : (we != 0) = true := by simpa using q1.1
      have e2 : (we != 30) = true := by simpa using q1.2
      have HQ := Lib.hid q1.1
      clear q1 hz
      go_wp2_with fail
      go_roundw
      case rel => exact ⟨j + 1, we, rs, all, by go_num, rfl, rfl, by omega, HOW8.out, fun h => absurd h HQ.out, fun _ => HZ.out, HK8.out, HZ8.out⟩
      case measure => simp [intOf]; omega
    have HQ1 := Lib.hid q1
    clear q1
    have HD1' : Hid (∀ s : List Int × Int, dueE n k os ⟨f, t, amt⟩ s = if 0 ≤ amt ∧ amt ≤ 34359738368 then (if shMay amt ws = true then (0, addL s.1 (shareE amt ws), s.2) else (0, s.1, s.2 + amt)) else (2, s)) := by
      intro s
      unfold dueE
      rw [if_neg (by show ¬ (werrE n k os f t ≠ 0 ∧ werrE n k os f t ≠ 30); rw [HWE.out]; exact HQ1.out), HWS.out]
    go_upto_region 23 with fail
    go_cut [107] (fun v wx => v = .bool false ∧ w8 = wx)
    case first =>
      by_cases e1 : we = 0
      · have e1b : (we != 0) = false := by simp [e1]
        clear e1
        go_wp2_with fail
        go_meet
        exact ⟨rfl, rfl⟩
      · have e1b : (we != 0) = true := by simpa using e1
        have e2b : (we != 30) = false := by
          by_cases e2 : we = 30
          · simp [e2]
          · exact absurd ⟨e1, e2⟩ HQ1.out
        clear e1
        go_wp2_with fail
        go_meet
        exact ⟨rfl, rfl⟩
    obtain ⟨rfl, rfl⟩ := hcut
    obtain ⟨x0, x1, x2⟩ : w8.cell? ⟨zb, 0, none⟩ = some (.int .i64 f) ∧ w8.cell? ⟨zb, 1, none⟩ = some (.int .i64 t) ∧ w8.cell? ⟨zb, 2, none⟩ = some (.int .i64 amt) := ⟨(box_cell HXD8.out 0).1, (box_cell HXD8.out 1).1, (box_cell HXD8.out 2).1⟩
    have hvs : zb < w8.heap.size := box_lt HXD8.out
    by_cases q2a : amt < 0
    · have HZ := Lib.hid (HER.out 2 (by omega) (by rw [HD1'.out, if_neg (by omega)]))
      go_wp2_with fail
      go_roundw
      case rel => exact ⟨j + 1, 2, rs, all, by go_num, rfl, rfl, by omega, HOW8.out, fun h => by omega, fun _ => HZ.out, HK8.out, HZ8.out⟩
      case measure => simp [intOf]; omega
    have d2a : decide (amt < 0) = false := decide_eq_false q2a
    by_cases q2b : 34359738368 < amt
    · have HZ := Lib.hid (HER.out 2 (by omega) (by rw [HD1'.out, if_neg (by omega)]))
      go_wp2_with fail
      go_roundw
      case rel => exact ⟨j + 1, 2, rs, all, by go_num, rfl, rfl, by omega, HOW8.out, fun h => by omega, fun _ => HZ.out, HK8.out, HZ8.out⟩
      case measure => simp [intOf]; omega
    have d2b : decide (34359738368 < amt) = false := decide_eq_false q2b
    have HQ2 : Hid (0 ≤ amt ∧ amt ≤ 34359738368) := ⟨by omega, by omega⟩
    have hwl : ws.length ≤ 64 := by rw [← HWS.out]; exact wv_len200 HOP.out
    have hxn200 : xn ≤ 200 := by have : xn = ws.length := HS8.out.hlen; omega
    obtain ⟨sm, hsm⟩ : ∃ sm, shMay amt ws = sm := ⟨_, rfl⟩
    have HSM := Lib.hid hsm
    clear hsm
    cases sm with
    | false =>
      have hz : settleGo n k os (ds.drop (j + 1)) (all, rs + amt) = (E, SS, NN) := by
        have := HDUE.out
        rw [show dueE n k os ⟨f, t, amt⟩ (all, rs) = (0, all, rs + amt) from by rw [HD1'.out, if_pos HQ2.out, if_neg (by rw [HSM.out]; simp)]] at this
        exact (if_pos (show ((0, all, rs + amt) : Int × List Int × Int).1 = 0 from rfl)).symm.trans this
      have HZ := Lib.hid hz
      have hst : St mz (((j + 1 : Nat) : Int) * 34359738369) (all, rs + amt) := by
        refine ⟨HST.out.len, fun x hx => ?_, ?_⟩
        · have := HST.out.out x hx; omega
        · have := HST.out.rest; show 0 ≤ rs + amt ∧ rs + amt ≤ _; omega
      have HST2 := Lib.hid hst
      clear hz hst
      go_upto_region 28 with (go_at_call 12; go_loud (refine (rmay_any amt xa xn xc ws _ hxn200 HS8.out).mono ?_); rintro e w9 ⟨rfl, rfl⟩; rw [HSM.out])
      have hwr : IntKind.i64.wrap (rs + amt) = rs + amt := by have := HST.out.rest; rw [IntKind.wrap_i64]; omega
      go_wp2_with fail
      go_roundw
      case rel => exact ⟨j + 1, 0, rs + amt, all, by go_num, rfl, by go_num, by omega, HOW8.out, fun _ => ⟨HOP.out, HST2.out, HZ.out⟩, fun h => absurd rfl h, HK8.out, HZ8.out⟩
      case measure => simp [intOf]; omega
    | true =>
      obtain ⟨sh, hsh⟩ : ∃ sh, shareE amt ws = sh := ⟨_, rfl⟩
      have hz : settleGo n k os (ds.drop (j + 1)) (addL all sh, rs) = (E, SS, NN) := by
        have := HDUE.out
        rw [show dueE n k os ⟨f, t, amt⟩ (all, rs) = (0, addL all sh, rs) from by rw [HD1'.out, if_pos HQ2.out, if_pos HSM.out, hsh]] at this
        exact (if_pos (show ((0, addL all sh, rs) : Int × List Int × Int).1 = 0 from rfl)).symm.trans this
      have hin := share_in HSM.out
      rw [hsh] at hin
      have hsl : sh.length = mz := by
        have h1 := (shareE_ok HSM.out).len
        have h2 := (wv_len (n := n) (k := k) (os := os) (d := ⟨f, t, amt⟩) (by rw [HWS.out]; exact HSM.out)).2
        have hz := HMZ.out
        rw [if_pos (by rw [← HOE.out]; exact HOP.out)] at hz
        rw [HWS.out, hz] at h2
        rw [← hsh, h1, h2]; simp
      have hst : St mz (((j + 1 : Nat) : Int) * 34359738369) (addL all sh, rs) := by
        refine ⟨(addL_len _ _).trans HST.out.len, fun x hx => ?_, ?_⟩
        · have := addL_in _ _ HST.out.out hin (by omega) x hx; omega
        · have := HST.out.rest; show 0 ≤ rs ∧ rs ≤ _; omega
      have HST2 := Lib.hid hst
      have HZ := Lib.hid hz
      have HIN := Lib.hid hin
      have HSH := Lib.hid hsh
      have HSLN := Lib.hid hsl
      clear hz hst hin hsh hsl
      go_upto_region 30 with (first
        | (go_at_call 12; go_loud (refine (rmay_any amt xa xn xc ws _ hxn200 HS8.out).mono ?_); rintro e w9 ⟨rfl, rfl⟩; rw [HSM.out])
        | (go_at_call 13; go_loud (refine (rshare_gen amt xa xn xc ws _ HS8.out HSM.out).mono ?_); rintro e w9 ⟨v9, rfl, ho9, hb9⟩; obtain ⟨sa5, sc5, rfl, -, -⟩ := ho9.slice; rw [HSH.out, HSLN.out] at ho9; rw [HSH.out, HSLN.out]; have HO9 := Lib.hid ho9; have HB9 := Lib.hid hb9; clear hb9 ho9))
      clear x0 x1 x2
      have HV5 : Hid (Go.V.Own 3 icod (ob + 1) w9 (.slice sa5 mz sc5) sh) := HO9.out.lower HZ8.out
      have HOW5 := Lib.hid (HOW8.out.below HB9.out)
      have HBK5 := Lib.hid (HK8.out.trans (HB9.out.mono HK8.out.size))
      have HZ5 : Hid (ob + 1 ≤ w9.heap.size) := by have := HZ8.out; have := HB9.out.size; show _ ≤ _; omega
      have HOL : Hid (all.length = mz) := HST.out.len
      have hj15 : ((j : Nat) : Int) * 34359738369 ≤ 515396075535 := by omega
      clear HOW8 HO9 HS8 HXD8
      go_loopw [131] (fun i wr => ∃ (c : Nat), i = .int .i64 (c : Nat) ∧ c ≤ mz ∧ Hid (Go.V.Own 3 icod w.heap.size wr (.slice (some ⟨ob, 0, none⟩) mz mz) (addL all (sh.take c))) ∧ Hid (Go.V.Own 3 icod (ob + 1) wr (.slice sa5 mz sc5) sh) ∧ Hid (Below W.heap.size W wr) ∧ Hid (ob + 1 ≤ wr.heap.size)) (fun i _ => mz - (intOf i).toNat)
      case atStart => exact ⟨0, by go_num, by omega, by rw [List.take_zero, addL_nil]; exact HOW5.out, HV5.out, HBK5.out, HZ5.out⟩
      case round =>
        clear HOW5 HV5 HBK5 HZ5
        obtain ⟨c, rfl, hc, HOW5, HV5, HBK5, HZ5⟩ := hrel
        by_cases hcl : c < mz
        case neg =>
          have hcm : c = mz := by omega
          subst hcm
          have ha := HOW5.out
          rw [List.take_of_length_le (by rw [HSLN.out]; exact Nat.le_refl _)] at ha
          have HA := Lib.hid ha
          clear ha
          go_wp2_with fail
          go_roundw
          case rel => exact ⟨j + 1, 0, rs, addL all sh, by go_num, rfl, rfl, by omega, HA.out, fun _ => ⟨HOP.out, HST2.out, HZ.out⟩, fun h => absurd rfl h, HBK5.out, HZ5.out⟩
          case measure => simp [intOf]; omega
        obtain ⟨b1, o1, y, rfl, hbl1, hy, y0⟩ := int_at (own_to HV5.out) hcl
        obtain ⟨x, hx⟩ : ∃ x, all[c]? = some x := ⟨_, List.getElem?_eq_getElem (by have := HOL.out; omega)⟩
        obtain ⟨s1, s2⟩ := addL_step all sh c x y hx hy
        have hln : mz = (addL all (sh.take c)).length := by rw [addL_len]; exact HOL.out.symm
        obtain ⟨x', hx', r0, r1, hobw⟩ := Ir.icells HOW5.out hln hcl
        have hxe := Option.some.inj (hx'.symm.trans s2)
        subst hxe
        have hxb := HST.out.out x' (List.mem_of_getElem? hx)
        have hyb := HIN.out y (List.mem_of_getElem? hy)
        have hci : (c : Int) < (mz : Int) := by omega
        have hwr : IntKind.i64.wrap (x' + y) = x' + y := by rw [IntKind.wrap_i64]; omega
        obtain ⟨hset, hgrow⟩ := Ir.iset HOW5.out hln c (x' + y)
        rw [s1] at hset
        have HSET := Lib.hid hset
        have HVS := Lib.hid (own_off HV5.out hgrow)
        have HBF : Hid (Below W.heap.size W (wr.setCell ⟨ob, c, none⟩ (.int .i64 (x' + y)))) := HBK5.out.grown hgrow HBK5.out.size (fun g e => by have := Option.some.inj e; have := HOBK.out; omega)
        clear hx s1 s2 hx' hln hset hgrow hy hxb hyb
        go_wp2_with fail
        go_roundw
        case rel => exact ⟨c + 1, by go_num, by omega, HSET.out, HVS.out, HBF.out, by have := HZ5.out; show _ ≤ _; simpa using this⟩
        case measure => simp [intOf]; omega
end Go.Proofs.Ytgfakkkiejeofaa.Aq

namespace Go.Proofs.Ytgfakkkiejeofaa.Ne
open Go.RowKit Go.V Go.Proofs Go.ChangeShapes Go.WideShapes Go.ChangeAt
open Go.Proofs.Ytgfakkkiejeofaa.Aq (Du ducod)

theorem due_opened {H : Type} {enc : TypeId × Value → H} {w : World} {b0 : Nat} {spare : Nat → Bool} {held : Bool} (n : Nat) (cs : List Value) (y : DataW H × List MemPlace) (h : DataW.trod enc Try.prog w b0 spare held n 35 cs = some y) : ∃ x, cs = ducod.enc x ∧ True := by
  obtain ⟨xs, m, -, rfl, hl, hlen, hf⟩ := DataW.trod_struct Try.underlying35 h
  have hc : Try.prog.cellsOf 3 = 1 := by kernel_rfl
  have hl' : cs.length = 3 := by rw [hl]; kernel_rfl
  obtain ⟨v0, v1, v2, rfl⟩ := list3 hl'
  have hx3 : xs.length = 3 := by rw [hlen]; rfl
  obtain ⟨y0, y1, y2, rfl⟩ := list3 hx3
  have k0 := hf 0 _ rfl
  have k1 := hf 1 _ rfl
  have k2 := hf 2 _ rfl
  simp [hc] at k0 k1 k2
  obtain ⟨n0, e0, -, w0⟩ := DataW.trod_int Try.underlying3 k0
  obtain ⟨n1, e1, -, w1⟩ := DataW.trod_int Try.underlying3 k1
  obtain ⟨n2, e2, -, w2⟩ := DataW.trod_int Try.underlying3 k2
  simp at e0 e1 e2
  subst e0; subst e1; subst e2
  exact ⟨⟨n0, n1, n2⟩, rfl, trivial⟩
set_option maxRecDepth 100000 in
theorem open_case {H : Type} {enc : TypeId × Value → H} {w : World} {b0 base : Nat} {spare : Nat → Bool} {held : Bool} {v : Value} {d : DataW H} {ps : List MemPlace} (hval : Value.okWide Try.prog w .any base 45 v) (h : DataW.Trod enc Try.prog w b0 spare held 45 v d ps) :
    ∃ (n : Net) (hs hl ho hd : Hdr) (os : List Int) (ds : List Du), v = .agg #[.int .i64 n.ver, .slice hs.a hs.n hs.cap, .slice hl.a hl.n hl.cap, .slice ho.a ho.n ho.cap, .slice hd.a hd.n hd.cap] ∧ NetIn w n hs hl ∧ Sl icod w ho.a ho.n ho.cap os ∧ Sl ducod w hd.a hd.n hd.cap ds := by
  simp only [Value.okWide, Try.underlying45] at hval
  obtain ⟨cs, rfl, hsz, ts, hts, -, hcell⟩ := hval
  obtain ⟨fuel, hf⟩ := h
  obtain ⟨xs, m, -, -, hl, hxl, hx⟩ := DataW.trod_struct Try.underlying45 hf
  have hc5 : Try.prog.cellsOf 45 = 5 := by kernel_rfl
  have hts' : Try.prog.cellTypes Try.prog.depth 45 = some [3, 22, 23, 26, 27] := by kernel_rfl
  rw [hts'] at hts
  cases hts
  have hc1 : Try.prog.cellsOf 3 = 1 := by kernel_rfl
  have hcs : Try.prog.cellsOf 22 = 1 := by kernel_rfl
  have hcl : Try.prog.cellsOf 23 = 1 := by kernel_rfl
  have hco : Try.prog.cellsOf 26 = 1 := by kernel_rfl
  have hcd : Try.prog.cellsOf 27 = 1 := by kernel_rfl
  have hcn : Try.prog.cellsOf 25 = 3 := by kernel_rfl
  obtain ⟨l⟩ := cs
  rw [hc5] at hsz
  have hl5 : l.length = 5 := by simpa using hsz
  obtain ⟨v0, v1, v2, v3, v4, rfl⟩ : ∃ a b c d e, l = [a, b, c, d, e] := by
    match l, hl5 with
    | [a, b, c, d, e], _ => exact ⟨a, b, c, d, e, rfl⟩
  have hx3 : xs.length = 3 := by rw [hxl]; rfl
  obtain ⟨y0, y1, y2, rfl⟩ := list3 hx3
  have g0 := hx 0 _ rfl
  have g1 := hx 1 _ rfl
  have g2 := hx 2 _ rfl
  simp [Value.cells, hcn, hco, hcd] at g0 g1 g2
  have k1 : Value.okWide Try.prog w .any base 22 v1 := by
    obtain ⟨u, hu, hk⟩ := hcell 1 v1 rfl
    cases hu
    exact slice_val Try.underlying22 hk
  have k2 : Value.okWide Try.prog w .any base 23 v2 := by
    obtain ⟨u, hu, hk⟩ := hcell 2 v2 rfl
    cases hu
    exact slice_val Try.underlying23 hk
  have k3 : Value.okWide Try.prog w .any base 26 v3 := by
    obtain ⟨u, hu, hk⟩ := hcell 3 v3 rfl
    cases hu
    exact slice_val Try.underlying26 hk
  have k4 : Value.okWide Try.prog w .any base 27 v4 := by
    obtain ⟨u, hu, hk⟩ := hcell 4 v4 rfl
    cases hu
    exact slice_val Try.underlying27 hk
  obtain ⟨xs', m', -, -, hl', hxl', hx'⟩ := DataW.trod_struct Try.underlying25 g0
  have hx3' : xs'.length = 3 := by rw [hxl']; rfl
  obtain ⟨z0, z1, z2, rfl⟩ := list3 hx3'
  have q0 := hx' 0 _ rfl
  have q1 := hx' 1 _ rfl
  have q2 := hx' 2 _ rfl
  simp [hc1, hcs, hcl] at q0 q1 q2
  obtain ⟨n0, e0, -, w0⟩ := DataW.trod_int Try.underlying3 q0
  simp at e0
  subst e0
  obtain ⟨a1, m1, p1, l1, rfl, s1, o1⟩ := open_sl (c := Stp.cod) (ok := Stp.ok) (d := z1.1) (ps := z1.2) Try.underlying22 (by kernel_rfl) (fun n cs y => stp_opened n cs y) k1 ⟨m', by obtain ⟨a, n, c, rfl⟩ := okWide_slice Try.underlying22 k1; exact q1⟩
  obtain ⟨a2, m2, p2, l2, rfl, s2, o2⟩ := open_sl (c := lcod) (ok := lok) (d := z2.1) (ps := z2.2) Try.underlying23 (by kernel_rfl) (fun n cs y => lnk_opened n cs y) k2 ⟨m', by obtain ⟨a, n, c, rfl⟩ := okWide_slice Try.underlying23 k2; exact q2⟩
  obtain ⟨a3, m3, p3, l3, rfl, s3, o3⟩ := open_sl (c := icod) (ok := Iok) (d := y1.1) (ps := y1.2) Try.underlying26 (by kernel_rfl) (fun n cs y => int_opened n cs y) k3 ⟨m, by obtain ⟨a, n, c, rfl⟩ := okWide_slice Try.underlying26 k3; exact g1⟩
  obtain ⟨a4, m4, p4, l4, rfl, s4, o4⟩ := open_sl (c := ducod) (ok := fun _ => True) (d := y2.1) (ps := y2.2) Try.underlying27 (by kernel_rfl) (fun n cs y => due_opened n cs y) k4 ⟨m, by obtain ⟨a, n, c, rfl⟩ := okWide_slice Try.underlying27 k4; exact g2⟩
  exact ⟨⟨n0, l1, l2⟩, ⟨a1, m1, p1⟩, ⟨a2, m2, p2⟩, ⟨a3, m3, p3⟩, ⟨a4, m4, p4⟩, l3, l4, rfl, ⟨s1, s2⟩, s3, s4⟩
end Go.Proofs.Ytgfakkkiejeofaa.Ne

namespace Go.Proofs.Ytgfakkkiejeofaa.lawApportionWeights
open Go.ChangeShapes Go.WideShapes Go.ChangeAt Go.RowKit Go.V Go.Proofs.Ytgfakkkiejeofaa.Ne

theorem own : ownKnob Try.prog.godebug = none := by kernel_rfl
theorem laidOut : laidOutB Try.prog = true := by kernel_rfl

set_option maxRecDepth 100000 in
theorem lifted (os : Os) (started : os.Started) (H : Type) (enc : TypeId × Value → H) :
    ReturnsInHanded {} Try.checked os 3 .any (Rows.apportionWeightsSpec.pre6 enc Try.prog Try.f3 Rows.apportionWeightsRow.domain false) (Rows.apportionWeightsSpec.post enc Try.prog Try.f3 false true false false) := by
  refine returnsInHanded_of_change (C := Try.checked) own started (by kernel_rfl) Try.func3
    (ChangeSpec.witness6 (enc := enc) (C := Try.checked) false ⟨#[], #[.agg #[.int .i64 0, .slice none 0 0, .slice none 0 0], .slice none 0 0, .slice none 0 0], []⟩ 8 (by kernel_rfl) (by kernel_rfl) (by kernel_rfl) (by kernel_rfl)) ?_
  intro W base args ds gs before hval0 hW hcnd _
  have hval : ∀ (j : Nat) t v, Try.f3.params[j]? = some t → args[j]? = some v → Value.okWide Try.prog W .any base t v := hval0
  have hW' := hW
  obtain ⟨p, q, hA0, hV, rfl, hfz, hnd⟩ := hW
  have hA : DataW.TrodAll enc Try.prog W 0 (fun _ => true) true Try.f3.params.toList args.toList ds p := hA0
  rw [Try.params3] at hA hval
  obtain ⟨v0, vs0, d0, ds0, p0, q0, hargs, rfl, rfl, h0, r0⟩ := trodAll_cons hA
  obtain ⟨v1, vs1, d1, ds1, p1, q1, rfl, rfl, rfl, h1, r1⟩ := trodAll_cons r0
  obtain ⟨v2, vs2, d2, ds2, p2, q2, rfl, rfl, rfl, h2, r2⟩ := trodAll_cons r1
  obtain ⟨rfl, rfl, rfl⟩ := trodAll_nil r2
  obtain rfl : args = #[v0, v1, v2] := by cases args; simp_all
  obtain ⟨rfl, rfl⟩ := trodVars_none hV
  have k0 := h0
  have lt0 : ∀ x ∈ p0, x.block < W.heap.size := by obtain ⟨m, hm⟩ := k0; exact DataW.trod_lt m _ _ _ hm
  have k1 := h1
  have lt1 : ∀ x ∈ p1, x.block < W.heap.size := by obtain ⟨m, hm⟩ := k1; exact DataW.trod_lt m _ _ _ hm
  have k2 := h2
  have lt2 : ∀ x ∈ p2, x.block < W.heap.size := by obtain ⟨m, hm⟩ := k2; exact DataW.trod_lt m _ _ _ hm
  obtain ⟨nt, hs, hl, rfl, hnt, -, -, -⟩ := open_net (hval 0 25 v0 rfl rfl) h0
  obtain ⟨ba, bn, bc, xs, rfl, hsl, -⟩ := open_sl (c := icod) (ok := Iok) Try.underlying26 (by kernel_rfl) (fun n cs y => int_opened n cs y) (hval 1 26 v1 rfl rfl) h1
  obtain ⟨du, dn, dc, dl, rfl, hdl, -⟩ := open_sl (c := Aq.ducod) (ok := fun _ => True) Try.underlying27 (by kernel_rfl) (fun n cs y => due_opened n cs y) (hval 2 27 v2 rfl rfl) h2
  clear hA0 hval0
  refine (Aq.aweights_law nt hs hl ba bn bc xs du dn dc dl W hnt hsl hdl).mono fun e W' ⟨he, bel⟩ => ?_
  subst he
  exact ⟨_, rfl, _, _, _, [], _, [], hW', trodAll_mk1 (shut_bool Try.underlying4 _), (trodAll_cons_mk (Below.trod laidOut (by kernel_rfl) (of_decide_eq_true (by kernel_rfl)) k0 bel lt0) (trodAll_cons_mk (Below.trod laidOut (by kernel_rfl) (of_decide_eq_true (by kernel_rfl)) k1 bel lt1) (trodAll_cons_mk (Below.trod laidOut (by kernel_rfl) (of_decide_eq_true (by kernel_rfl)) k2 bel lt2) trodAll_mk0))), rfl, bel.frame _, fun h => by cases h⟩

theorem over : Rows.apportionWeightsRow.holds Try.pinned (OpenSpec.ofChange Rows.apportionWeightsSpec) :=
  OpenClaim.holds_of_wide 3 Try.f3 rfl rfl rfl rfl rfl rfl rfl ⟨rfl, rfl, rfl, rfl, rfl⟩ rfl rfl rfl rfl rfl (by kernel_rfl) Try.func3 (by kernel_rfl)
    (of_decide_eq_true (by kernel_rfl)) (by unfold Func.isWrapper; first | (rw [if_pos (by decide +kernel)]; kernel_rfl) | (rw [if_neg (by decide +kernel)]; exact ⟨rfl, rfl⟩))
    (fun os started H enc _ => lifted os started H enc)

theorem proved : Rows.ApportionWeightsSaid := over
#print axioms proved
end Go.Proofs.Ytgfakkkiejeofaa.lawApportionWeights
