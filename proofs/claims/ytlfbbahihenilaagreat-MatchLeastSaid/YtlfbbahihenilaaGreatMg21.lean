/- Costs: a sequence's cost in a table, walked. -/
/- Networks: viterbi: whether rows may be, walked. -/
import Derived.Test.YtlfbbahihenilaaGreatMg20
import Derived.Deep.RegionHeld3
namespace Go.Proofs.YtlfbbahihenilaaGreat.Ne
open Go.RowKit Go.V Go.Proofs Go.Sort Go.Maps

def hcod : Cod Hdr := ⟨1, fun h => [.slice h.a h.n h.cap], fun _ => rfl, by simp [Value.oneCell']⟩
/-- Rows of points. -/
def PtsIn (w : World) (a : Option Addr) (n cap : Nat) (gs : List (List Pnt)) : Prop := ∃ hs : List Hdr, SlQ hcod w a n cap hs ∧ hs.length = gs.length ∧ ∀ (i : Nat) (h : Hdr) (g : List Pnt), hs[i]? = some h → gs[i]? = some g → SlQ pcod w h.a h.n h.cap g
theorem PtsIn.below {w w' : World} {a : Option Addr} {n cap : Nat} {gs : List (List Pnt)} (h : PtsIn w a n cap gs) (hb : Below w.heap.size w w') : PtsIn w' a n cap gs := by
  obtain ⟨hs, h1, h2, h3⟩ := h
  exact ⟨hs, h1.below hb, h2, fun i x g hx hg => (h3 i x g hx hg).below hb⟩
theorem PtsIn.len {w : World} {a : Option Addr} {n cap : Nat} {gs : List (List Pnt)} (h : PtsIn w a n cap gs) : n = gs.length ∧ n ≤ 9223372036854775807 := by
  obtain ⟨hs, h1, h2, h3⟩ := h
  refine ⟨by rw [← h2]; exact h1.hlen, ?_⟩
  have := h1.hcap; have := h1.hmax; unfold maxLen at this; omega
theorem PtsIn.at {w : World} {a : Option Addr} {n cap : Nat} {gs : List (List Pnt)} (h : PtsIn w a n cap gs) {i : Nat} (hi : i < n) :
    ∃ (b off : Nat) (h : Hdr) (g : List Pnt), a = some ⟨b, off, none⟩ ∧ b < w.heap.size ∧ gs[i]? = some g ∧ w.cell? ⟨b, off + i, none⟩ = some (.slice h.a h.n h.cap) ∧ SlQ pcod w h.a h.n h.cap g := by
  obtain ⟨hs, h1, h2, h3⟩ := h
  obtain ⟨b, off, rfl, hb, x, hx, hc⟩ := (h1.hat (by omega)).some hi
  have hlt : i < gs.length := by rw [← h2]; exact (List.getElem?_eq_some_iff.1 hx).1
  have hg := List.getElem?_eq_getElem hlt
  refine ⟨b, off, x, _, rfl, hb, hg, ?_, h3 i x _ hx hg⟩
  have := hc 0 _ rfl
  simpa [hcod] using this
theorem int_atq {w : World} {a : Option Addr} {n cap : Nat} {l : List Int} (h : SlQ icod w a n cap l) {i : Nat} (hi : i < n) :
   ∃ b off r, a = some ⟨b, off, none⟩ ∧ b < w.heap.size ∧ l[i]? = some r ∧ w.cell? ⟨b, off + i, none⟩ = some (.int .i64 r) := int_at (h.hat (by omega)) hi

/-- What can be read does not lie where a map lies: it is kept where the map alone turns. -/
def MapAt (w : World) (mg : Nat) : Prop := ∀ o, w.cell? ⟨mg, o, none⟩ = none
theorem cell_chgm {w W : World} {mg b o : Nat} {v : Value} (hm : MapAt w mg) (hc : Chg w W mg none) (h : w.cell? ⟨b, o, none⟩ = some v) : W.cell? ⟨b, o, none⟩ = some v := by
  have hb : b < w.heap.size := World.block_lt_of_cell? w _ h
  have hne : b ≠ mg := by
    rintro rfl
    rw [hm o] at h; cases h
  have e := hc.block b hb hne (by simp)
  have : W.cell? ⟨b, o, none⟩ = w.cell? ⟨b, o, none⟩ := by simp [World.cell?, e]
  rw [this]; exact h
theorem sl_chgm {α : Type} {c : Cod α} {w W : World} {mg : Nat} {a : Option Addr} {n cap : Nat} {xs : List α} (hm : MapAt w mg) (hc : Chg w W mg none) (h : Sl c w a n cap xs) : Sl c W a n cap xs :=
  ⟨h.hlen, h.hcap, h.hmax, h.hnil, fun d hd h0 => by
    obtain ⟨h1, h2, h3⟩ := h.hat d hd h0
    exact ⟨h1, Nat.lt_of_lt_of_le h2 hc.size, fun j u hu => cell_chgm hm hc (h3 j u hu)⟩⟩
theorem slq_chgm {α : Type} {c : Cod α} {w W : World} {mg : Nat} {a : Option Addr} {n cap : Nat} {xs : List α} (hm : MapAt w mg) (hc : Chg w W mg none) (h : SlQ c w a n cap xs) : SlQ c W a n cap xs := ⟨h.hlen, h.hcap, h.hmax, fun hn => sl_chgm hm hc (h.hat hn)⟩
theorem pts_chgm {w W : World} {mg : Nat} {a : Option Addr} {n cap : Nat} {gs : List (List Pnt)} (hm : MapAt w mg) (hc : Chg w W mg none) (h : PtsIn w a n cap gs) : PtsIn W a n cap gs := by
  obtain ⟨hs, h1, h2, h3⟩ := h
  exact ⟨hs, slq_chgm hm hc h1, h2, fun i x g hx hg => slq_chgm hm hc (h3 i x g hx hg)⟩
theorem TabIn.mapAt {w : World} {base tg mg N : Nat} {n : Net} {hs hl : Hdr} (h : TabIn w base tg mg N n hs hl) : MapAt w mg := by
  obtain ⟨D, ⟨es, c, h1, -⟩, -⟩ := h.map
  intro o
  simp [World.cell?, h1]
theorem mapAt_new {w : World} {mg : Nat} (h : w.heap.size ≤ mg) : MapAt w mg := fun o => by
  cases hc : w.cell? ⟨mg, o, none⟩ with
  | none => rfl
  | some v => have := World.block_lt_of_cell? w _ hc; have : mg < w.heap.size := this; omega

/-! ### What it costs -/
def ptE (g : List Pnt) (s : Int) : Int := if (sqE g s).2 = true ∧ 0 ≤ (sqE g s).1 ∧ (sqE g s).1 ≤ 1099511627776 then (sqE g s).1 else -1
def wayE (n : Net) (k : Nat) (x : Wgh) (ss : List Int) (i : Nat) : Int := if i = 0 then 0 else stepE n k x (ss.getD (i - 1) 0) (ss.getD i 0)
def costAt (n : Net) (k : Nat) (x : Wgh) (gs : List (List Pnt)) (ss : List Int) (i : Nat) : Int :=
  if ptE (gs.getD i []) (ss.getD i 0) < 0 then -1 else if wayE n k x ss i < 0 then -1 else ptE (gs.getD i []) (ss.getD i 0) + wayE n k x ss i
def sumGo (f : Nat → Int) : Nat → Nat → Int → Int
  | 0, _, all => all
  | c + 1, i, all => if f i < 0 then -1 else sumGo f c (i + 1) (all + f i)
def seqE (n : Net) (k : Nat) (x : Wgh) (gs : List (List Pnt)) (ss : List Int) : Int :=
  if gs.length = ss.length ∧ gs.length ≤ 2048 ∧ mayW x = true then sumGo (costAt n k x gs ss) ss.length 0 0 else -1
theorem ptE_in (g : List Pnt) (s : Int) : -1 ≤ ptE g s ∧ ptE g s ≤ 1099511627776 := by
  unfold ptE; split <;> omega
theorem wayE_in {n : Net} {k : Nat} (hok : checkE n = 0) (hk : k = n.stops.length) (h60 : k ≤ 60) (h120 : n.links.length ≤ 120) (x : Wgh) (ss : List Int) (i : Nat) : -1 ≤ wayE n k x ss i ∧ wayE n k x ss i ≤ 15461868568576 := by
  unfold wayE
  split
  · omega
  · exact stepE_in hok hk h60 h120 x _ _
theorem costAt_in {n : Net} {k : Nat} (hok : checkE n = 0) (hk : k = n.stops.length) (h60 : k ≤ 60) (h120 : n.links.length ≤ 120) (x : Wgh) (gs : List (List Pnt)) (ss : List Int) (i : Nat) : -1 ≤ costAt n k x gs ss i ∧ costAt n k x gs ss i ≤ 16561380196352 := by
  have h1 := ptE_in (gs.getD i []) (ss.getD i 0)
  have h2 := wayE_in hok hk h60 h120 x ss i
  unfold costAt
  repeat' split
  all_goals omega
theorem sumGo_neg {f : Nat → Int} {n i : Nat} {all r : Int} (h : sumGo f (n - i) i all = r) (hi : i < n) (hf : f i < 0) : r = -1 := by
  have e : n - i = (n - (i + 1)) + 1 := by omega
  rw [e] at h
  have h : (if f i < 0 then -1 else sumGo f (n - (i + 1)) (i + 1) (all + f i)) = r := h
  rw [if_pos hf] at h; exact h.symm
theorem sumGo_go {f : Nat → Int} {n i : Nat} {all r : Int} (h : sumGo f (n - i) i all = r) (hi : i < n) (hf : ¬ f i < 0) : sumGo f (n - (i + 1)) (i + 1) (all + f i) = r := by
  have e : n - i = (n - (i + 1)) + 1 := by omega
  rw [e] at h
  have h : (if f i < 0 then -1 else sumGo f (n - (i + 1)) (i + 1) (all + f i)) = r := h
  rw [if_neg hf] at h; exact h
theorem sumGo_end {f : Nat → Int} {n : Nat} {all r : Int} (h : sumGo f (n - n) n all = r) : all = r := by
  rw [Nat.sub_self] at h; exact h
theorem costAt_neg1 {n : Net} {k : Nat} {x : Wgh} {gs : List (List Pnt)} {ss : List Int} {i : Nat} (h : ptE (gs.getD i []) (ss.getD i 0) < 0) : costAt n k x gs ss i = -1 := by
  unfold costAt; rw [if_pos h]
theorem costAt_neg2 {n : Net} {k : Nat} {x : Wgh} {gs : List (List Pnt)} {ss : List Int} {i : Nat} (h : wayE n k x ss i < 0) : costAt n k x gs ss i = -1 := by
  unfold costAt
  rw [if_pos h]
  split <;> rfl
theorem costAt_pos {n : Net} {k : Nat} {x : Wgh} {gs : List (List Pnt)} {ss : List Int} {i : Nat} (h : ¬ ptE (gs.getD i []) (ss.getD i 0) < 0) (h2 : ¬ wayE n k x ss i < 0) : costAt n k x gs ss i = ptE (gs.getD i []) (ss.getD i 0) + wayE n k x ss i := by
  unfold costAt; rw [if_neg h, if_neg h2]
theorem getD_of {α : Type} {l : List α} {i : Nat} {x d : α} (h : l[i]? = some x) : l.getD i d = x := by
  rw [List.getD_eq_getElem?_getD, h]; rfl

/-! ### Walked -/
/-- What the function that sums has caught. -/
structure SeqIn (w : World) (gl gt gw gss tg : Nat) (x : Wgh) (hp hq : Hdr) : Prop where
  l : w.heap[gl]? = some (.cells #[.slice hp.a hp.n hp.cap] 63 (0, 0))
  t : w.heap[gt]? = some (.cells #[.pointer (some ⟨tg, 0, none⟩)] 47 (0, 0))
  x : w.heap[gw]? = some x.box
  s : w.heap[gss]? = some (.cells #[.slice hq.a hq.n hq.cap] 35 (0, 0))
theorem SeqIn.chg {w w' : World} {gl gt gw gss tg mg : Nat} {x : Wgh} {hp hq : Hdr} (h : SeqIn w gl gt gw gss tg x hp hq) (hc : Chg w w' mg none) (h1 : gl ≠ mg ∧ gt ≠ mg ∧ gw ≠ mg ∧ gss ≠ mg) : SeqIn w' gl gt gw gss tg x hp hq :=
  ⟨hc.box h.l h1.1 (by simp), hc.box h.t h1.2.1 (by simp), hc.box h.x h1.2.2.1 (by simp), hc.box h.s h1.2.2.2 (by simp)⟩
theorem SeqIn.below {w w' : World} {gl gt gw gss tg : Nat} {x : Wgh} {hp hq : Hdr} (h : SeqIn w gl gt gw gss tg x hp hq) (hb : Below w.heap.size w w') : SeqIn w' gl gt gw gss tg x hp hq :=
  ⟨box_below h.l hb, box_below h.t hb, box_below h.x hb, box_below h.s hb⟩

set_option maxHeartbeats 8000000 in
set_option maxRecDepth 100000 in
theorem cseq1_any (w W0 : World) (base tg mg N : Nat) (n : Net) (hs hl : Hdr) (x : Wgh) (hp hq : Hdr) (gs : List (List Pnt)) (ss : List Int) (gl gt gw gss : Nat) (i : Nat) (s : Int)
    (h : TabIn w base tg mg N n hs hl) (hok : checkE n = 0) (h60 : hs.n ≤ 60) (h120 : hl.n ≤ 120) (hN : N ≤ 1000000) (hne : tg ≠ mg)
    (hsq : SeqIn w gl gt gw gss tg x hp hq) (hgm : gl ≠ mg ∧ gt ≠ mg ∧ gw ≠ mg ∧ gss ≠ mg)
    (hW : Chg W0 w mg none) (hP : PtsIn W0 hp.a hp.n hp.cap gs) (hS : SlQ icod W0 hq.a hq.n hq.cap ss) (hip : i < hp.n) (hiq : i < hq.n) (hm0 : MapAt W0 mg) (hs_ : ss[i]? = some s) :
    Calls Tryz.prog 55 #[.int .i64 i, .int .i64 s, .pointer (some ⟨gl, 0, none⟩), .pointer (some ⟨gt, 0, none⟩), .pointer (some ⟨gw, 0, none⟩), .pointer (some ⟨gss, 0, none⟩)] w fun e w' => e = .returned (.int .i64 (costAt n hs.n x gs ss i)) ∧ TabIn w' base tg mg (N + 1) n hs hl ∧ Chg w w' mg none := by
  have hkn : hs.n = n.stops.length := h.netIn.s.hlen
  have hln : hl.n = n.links.length := h.netIn.l.hlen
  have hi9 : hp.n ≤ 9223372036854775807 := hP.len.2
  have hq9 : hq.n ≤ 9223372036854775807 := by have := hS.hcap; have := hS.hmax; unfold maxLen at this; omega
  obtain ⟨xr, xm, xf, xc⟩ := x
  obtain ⟨pa, pn, pc⟩ := hp
  obtain ⟨qa, qn, qc⟩ := hq
  obtain ⟨pb, po, ph, g, e1, hpl, hg, hpc, hpq⟩ := (pts_chgm hm0 hW hP).at hip
  obtain ⟨pha, phn, phc⟩ := ph
  have e1 : pa = some ⟨pb, po, none⟩ := e1
  subst e1
  have hip : i < pn := hip
  have hiq : i < qn := hiq
  have hi9 : pn ≤ 9223372036854775807 := hi9
  have hq9 : qn ≤ 9223372036854775807 := hq9
  have hpc : w.cell? ⟨pb, po + i, none⟩ = some (.slice pha phn phc) := hpc
  have HPQ := Lib.hid hpq
  have hpt : ptE (gs.getD i []) (ss.getD i 0) = ptE g s := by rw [getD_of hg, getD_of hs_]
  have HPT := Lib.hid hpt
  have HT := Lib.hid h
  have HOK := Lib.hid hok
  have HSQ := Lib.hid hsq
  have HGM := Lib.hid hgm
  have HW := Lib.hid hW
  have HS := Lib.hid hS
  have HSI := Lib.hid hs_
  have HWI := Lib.hid (wayE_in hok hkn h60 (by omega) ⟨xr, xm, xf, xc⟩ ss i)
  have z0 : w.cell? ⟨gl, 0, none⟩ = some (.slice (some ⟨pb, po, none⟩) pn pc) := (box_cell hsq.l 0).1
  obtain ⟨⟨qq, qb⟩, hqq⟩ : ∃ q, sqE g s = q := ⟨_, rfl⟩
  have HQ := Lib.hid hqq
  have hptq : ptE g s = if qb = true ∧ 0 ≤ qq ∧ qq ≤ 1099511627776 then qq else -1 := by unfold ptE; rw [hqq]
  have HPQ2 := Lib.hid hptq
  have hi0 : (0 : Int) ≤ (i : Int) := by omega
  have hi1 : (i : Int) < (pn : Int) := by omega
  clear h hok hsq hgm hW hS hs_ hpt hpq hqq hptq hP hg hkn hln
  go_enter Tryz.func55, Tryz.ntmps55
  go_upto_region 2 with (go_at_call 56; go_loud (refine (csquare_any pha phn phc g s _ HPQ.out).mono ?_); rintro e w1 ⟨rfl, hb1⟩; rw [HQ.out]; have HB1 := Lib.hid hb1; have HT1 := Lib.hid (HT.out.below hb1); have HSQ1 := Lib.hid (HSQ.out.below hb1); have HC1 : Hid (Chg w w1 mg none) := Chg.of_below hb1 mg none; clear hb1)
  have fin : ptE g s < 0 → (Ending.returned (.int .i64 (-1)) = Ending.returned (Value.int .i64 (costAt n hs.n ⟨xr, xm, xf, xc⟩ gs ss i))) ∧ TabIn w1 base tg mg (N + 1) n hs hl ∧ Chg w w1 mg none := fun hlt => ⟨by rw [costAt_neg1 (by rw [HPT.out]; exact hlt)], HT1.out.mono, HC1.out⟩
  have HFI := Lib.hid fin
  clear fin
  cases qb with
  | false =>
    have hlt : ptE g s < 0 := by rw [HPQ2.out]; simp
    have HLT := Lib.hid hlt
    clear hlt
    go_wp2_with fail
    go_ret
    exact HFI.out HLT.out
  | true =>
    by_cases c1 : qq < 0
    · have hlt : ptE g s < 0 := by rw [HPQ2.out, if_neg (by omega)]; omega
      have HLT := Lib.hid hlt
      clear hlt
      go_wp2_with fail
      go_ret
      exact HFI.out HLT.out
    · have d1 : decide (qq < 0) = false := decide_eq_false c1
      by_cases c2 : 1099511627776 < qq
      · have hlt : ptE g s < 0 := by rw [HPQ2.out, if_neg (by omega)]; omega
        have HLT := Lib.hid hlt
        clear hlt
        go_wp2_with fail
        go_ret
        exact HFI.out HLT.out
      · have d2 : decide (1099511627776 < qq) = false := decide_eq_false c2
        have hpe : ptE g s = qq := by rw [HPQ2.out, if_pos ⟨rfl, by omega, by omega⟩]
        have HPE := Lib.hid hpe
        clear hpe HFI
        by_cases c0 : i = 0
        · subst c0
          have hw : wayE n hs.n ⟨xr, xm, xf, xc⟩ ss 0 = 0 := rfl
          have HWW := Lib.hid hw
          clear hw
          go_wp2_with fail
          go_ret
          refine ⟨?_, HT1.out.mono, HC1.out⟩
          rw [costAt_pos (by rw [HPT.out, HPE.out]; omega) (by rw [HWW.out]; omega), HPT.out, HPE.out, HWW.out]
          simp
        · obtain ⟨j, hj⟩ : ∃ j, i = j + 1 := ⟨i - 1, by omega⟩
          subst hj
          have di : decide (0 < ((j : Int) + 1)) = true := decide_eq_true (by omega)
          have hW1 : Hid (Chg W0 w1 mg none) := HW.out.trans (Chg.of_below HB1.out mg none) (.inl rfl)
          obtain ⟨qb, qo, s', e2, hql, hs', hqc0⟩ := int_atq HS.out (i := j) (by show j < qn; omega)
          have hqc : w1.cell? ⟨qb, qo + j, none⟩ = some (.int .i64 s') := cell_chgm hm0 hW1.out hqc0
          have HQ0 := Lib.hid hqc0
          clear hqc0
          have e2 : qa = some ⟨qb, qo, none⟩ := e2
          subst e2
          obtain ⟨t0, -⟩ := box_cell HSQ1.out.t 0
          obtain ⟨x0, x1, x2, x3⟩ := box4_cells HSQ1.out.x
          obtain ⟨s0, -⟩ := box_cell HSQ1.out.s 0
          have t0 : w1.cell? ⟨gt, 0, none⟩ = some (.pointer (some ⟨tg, 0, none⟩)) := t0
          have s0 : w1.cell? ⟨gss, 0, none⟩ = some (.slice (some ⟨qb, qo, none⟩) qn qc) := s0
          have x0 : w1.cell? ⟨gw, 0, none⟩ = some (.int .i64 xr) := x0
          have x1 : w1.cell? ⟨gw, 1, none⟩ = some (.int .i64 xm) := x1
          have x2 : w1.cell? ⟨gw, 2, none⟩ = some (.int .i64 xf) := x2
          have x3 : w1.cell? ⟨gw, 3, none⟩ = some (.int .i64 xc) := x3
          have hjq : (j : Int) < (qn : Int) := by omega
          have hj0 : (0 : Int) ≤ (j : Int) := by omega
          have hj9 : (j : Int) + 1 ≤ 9223372036854775807 := by omega
          have hwj : IntKind.i64.wrap (j : Int) = (j : Int) := IntWalk.i64_in _ (by omega)
          have hwe : wayE n hs.n ⟨xr, xm, xf, xc⟩ ss (j + 1) = stepE n hs.n ⟨xr, xm, xf, xc⟩ s' s := by unfold wayE; rw [if_neg c0, getD_of (show ss[j + 1 - 1]? = some s' by rw [Nat.add_sub_cancel]; exact hs'), getD_of HSI.out]
          obtain ⟨st, hst⟩ : ∃ st, stepE n hs.n ⟨xr, xm, xf, xc⟩ s' s = st := ⟨_, rfl⟩
          rw [hst] at hwe
          have HST := Lib.hid hst
          have HWE := Lib.hid hwe
          have hsti : -1 ≤ st ∧ st ≤ 15461868568576 := by rw [← hwe]; exact HWI.out
          clear hs' hst hwe
          go_upto_region 6 with fail
          go_region_held3 (fun w' => w'.cell? ⟨gt, 0, none⟩ = some (.pointer (some ⟨tg, 0, none⟩)) ∧ w'.cell? ⟨gss, 0, none⟩ = some (.slice (some ⟨qb, qo, none⟩) qn qc) ∧ w'.cell? ⟨gw, 0, none⟩ = some (.int .i64 xr) ∧ w'.cell? ⟨gw, 1, none⟩ = some (.int .i64 xm) ∧ w'.cell? ⟨gw, 2, none⟩ = some (.int .i64 xf) ∧ w'.cell? ⟨gw, 3, none⟩ = some (.int .i64 xc) ∧ w'.cell? ⟨qb, qo + j, none⟩ = some (.int .i64 s'))
            (first | go_keep | (exact ⟨t1, s1, y0, y1, y2, y3, q1⟩))
            (first
              | (go_at_call 57; go_loud (refine (cstep_any _ base tg mg N n hs hl ⟨xr, xm, xf, xc⟩ s' s (HT1.out.below (Below.drew (Below.refl _ _))) HOK.out h60 h120 hN hne).mono ?_); rintro e w2 ⟨rfl, ht2, hc2⟩; rw [HST.out]; have HT2 := Lib.hid ht2; have HC2 : Hid (Chg w1 w2 mg none) := (Chg.of_below (Below.drew (Below.refl _ _)) mg none).trans hc2 (.inl rfl); have HSQ2 := Lib.hid (HSQ1.out.chg HC2.out HGM.out); have t1 : w2.cell? ⟨gt, 0, none⟩ = some (.pointer (some ⟨tg, 0, none⟩)) := (box_cell HSQ2.out.t 0).1; have s1 : w2.cell? ⟨gss, 0, none⟩ = some (.slice (some ⟨qb, qo, none⟩) qn qc) := (box_cell HSQ2.out.s 0).1; obtain ⟨y0, y1, y2, y3⟩ := box4_cells HSQ2.out.x; have hW2 : Chg W0 w2 mg none := hW1.out.trans HC2.out (.inl rfl); have q1 : w2.cell? ⟨qb, qo + j, none⟩ = some (.int .i64 s') := cell_chgm hm0 hW2 HQ0.out; clear ht2 hc2))
          all_goals
            by_cases c3 : st < 0
            · go_wp2_with fail
              go_ret
              refine ⟨?_, HT2.out, HC1.out.trans HC2.out (.inl rfl)⟩
              rw [costAt_neg2 (by rw [HWE.out]; exact c3)]; rfl
            · have d3 : decide (st < 0) = false := decide_eq_false c3
              go_wp2_with fail
              go_ret
              refine ⟨?_, HT2.out, HC1.out.trans HC2.out (.inl rfl)⟩
              rw [costAt_pos (by rw [HPT.out, HPE.out]; omega) (by rw [HWE.out]; omega), HPT.out, HPE.out, HWE.out]; rfl

set_option maxHeartbeats 8000000 in
set_option maxRecDepth 100000 in
theorem csum_any (w W0 : World) (base tg mg : Nat) (N : Nat) (n : Net) (hs hl : Hdr) (x : Wgh) (hp hq : Hdr) (gs : List (List Pnt)) (ss : List Int) (gl gt gw gss : Nat)
    (h : TabIn w base tg mg N n hs hl) (hok : checkE n = 0) (h60 : hs.n ≤ 60) (h120 : hl.n ≤ 120) (hN : N ≤ 900000) (hne : tg ≠ mg)
    (hsq : SeqIn w gl gt gw gss tg x hp hq) (hgm : gl ≠ mg ∧ gt ≠ mg ∧ gw ≠ mg ∧ gss ≠ mg)
    (hW : Chg W0 w mg none) (hP : PtsIn W0 hp.a hp.n hp.cap gs) (hS : SlQ icod W0 hq.a hq.n hq.cap ss) (hpq : hp.n = hq.n) (h2k : hq.n ≤ 2048) (hm0 : MapAt W0 mg) :
    Calls Tryz.prog 54 #[.slice hq.a hq.n hq.cap, .func (.func 55) #[] #[.pointer (some ⟨gl, 0, none⟩), .pointer (some ⟨gt, 0, none⟩), .pointer (some ⟨gw, 0, none⟩), .pointer (some ⟨gss, 0, none⟩)]] w fun e w' => e = .returned (.int .i64 (sumGo (costAt n hs.n x gs ss) hq.n 0 0)) ∧ TabIn w' base tg mg (N + 2048) n hs hl ∧ Chg w w' mg none := by
  have hkn : hs.n = n.stops.length := h.netIn.s.hlen
  have hln : hl.n = n.links.length := h.netIn.l.hlen
  obtain ⟨qa, qn, qc⟩ := hq
  have h2k : qn ≤ 2048 := h2k
  have hpq : hp.n = qn := hpq
  obtain ⟨r, hr⟩ : ∃ r, sumGo (costAt n hs.n x gs ss) (qn - 0) 0 0 = r := ⟨_, rfl⟩
  have HR := Lib.hid hr
  have HRE : Hid (sumGo (costAt n hs.n x gs ss) qn 0 0 = r) := hr
  have HT := Lib.hid h
  have HOK := Lib.hid hok
  have HSQ := Lib.hid hsq
  have HGM := Lib.hid hgm
  have HW := Lib.hid hW
  have HP := Lib.hid hP
  have HS := Lib.hid hS
  have HCI := Lib.hid (fun i => costAt_in hok hkn h60 (by omega) x gs ss i)
  clear hkn hln h hok hsq hgm hW hP hS hr
  go_enter Tryz.func54, Tryz.ntmps54
  go_wp2_with fail
  go_loopw [5, 11] (fun va i wr => ∃ (j : Nat) (all : Int), i = .int .i64 j ∧ j ≤ qn ∧ va = .int .i64 all ∧ 0 ≤ all ∧ all ≤ (j : Int) * 16561380196352 ∧ Hid (sumGo (costAt n hs.n x gs ss) (qn - j) j all = r) ∧ Hid (TabIn wr base tg mg (N + j) n hs hl) ∧ Hid (Chg w wr mg none)) (fun _ i _ => qn - (intOf i).toNat)
  case atStart => exact ⟨0, 0, by go_num, by omega, rfl, by omega, by omega, HR.out, HT.out, Chg.refl _ _ _⟩
  case round =>
    obtain ⟨j, all, rfl, hj, rfl, ha1, ha2, HRJ, HTJ, HCJ⟩ := hrel
    by_cases hlt : j < qn
    · have HWJ : Hid (Chg W0 wr mg none) := HW.out.trans HCJ.out (.inl rfl)
      obtain ⟨qb, qo, s, e2, hql, hs', hqc⟩ := int_atq (slq_chgm hm0 HWJ.out HS.out) (i := j) hlt
      have e2 : qa = some ⟨qb, qo, none⟩ := e2
      subst e2
      have HSI := Lib.hid hs'
      have HSJ := Lib.hid (HSQ.out.chg HCJ.out HGM.out)
      obtain ⟨c, hc⟩ : ∃ c, costAt n hs.n x gs ss j = c := ⟨_, rfl⟩
      have HC := Lib.hid hc
      have hci : -1 ≤ c ∧ c ≤ 16561380196352 := by rw [← hc]; exact HCI.out j
      clear hs' hc
      by_cases c0 : c < 0
      · have HRN := Lib.hid (sumGo_neg HRJ.out hlt (by rw [HC.out]; exact c0))
        go_wp2_with (go_at_call 55; go_loud (refine (cseq1_any _ W0 base tg mg (N + j) n hs hl x hp ⟨some ⟨qb, qo, none⟩, qn, qc⟩ gs ss gl gt gw gss j s HTJ.out HOK.out h60 h120 (by omega) hne HSJ.out HGM.out HWJ.out HP.out HS.out (by omega) hlt hm0 HSI.out).mono ?_); rintro e w2 ⟨rfl, ht2, hc2⟩; rw [HC.out]; have HT2 := Lib.hid ht2; have HC2 := Lib.hid (HCJ.out.trans hc2 (.inl rfl)); clear ht2 hc2)
        go_ret
        exact ⟨by rw [HRE.out, HRN.out]; rfl, HT2.out.upto (by omega), HC2.out⟩
      · have d0 : decide (c < 0) = false := decide_eq_false c0
        have hb2 : (j : Int) * 16561380196352 ≤ 33917706642128896 := by omega
        have HGO := Lib.hid (sumGo_go HRJ.out hlt (by rw [HC.out]; exact c0))
        go_wp2_with (go_at_call 55; go_loud (refine (cseq1_any _ W0 base tg mg (N + j) n hs hl x hp ⟨some ⟨qb, qo, none⟩, qn, qc⟩ gs ss gl gt gw gss j s HTJ.out HOK.out h60 h120 (by omega) hne HSJ.out HGM.out HWJ.out HP.out HS.out (by omega) hlt hm0 HSI.out).mono ?_); rintro e w2 ⟨rfl, ht2, hc2⟩; rw [HC.out]; have HT2 := Lib.hid ht2; have HC2 := Lib.hid (HCJ.out.trans hc2 (.inl rfl)); clear ht2 hc2)
        go_roundw
        case rel => exact ⟨j + 1, all + c, by go_num, by omega, by go_num, by omega, by rw [Int.natCast_add, Int.add_mul]; omega, by have := HGO.out; rw [HC.out] at this; exact this, HT2.out, HC2.out⟩
        case measure => simp [intOf]; omega
    · have hjk : qn = j := by omega
      subst hjk
      have HEN := Lib.hid (sumGo_end HRJ.out)
      go_wp2_with fail
      go_ret
      exact ⟨by rw [HRE.out, ← HEN.out]; rfl, HTJ.out.upto (by omega), HCJ.out⟩

set_option maxHeartbeats 8000000 in
set_option maxRecDepth 100000 in
theorem cseq_gen (w W0 : World) (base tg mg : Nat) (N : Nat) (n : Net) (hs hl : Hdr) (x : Wgh) (hp hq : Hdr) (gs : List (List Pnt)) (ss : List Int)
    (h : TabIn w base tg mg N n hs hl) (hok : checkE n = 0) (h60 : hs.n ≤ 60) (h120 : hl.n ≤ 120) (hN : N ≤ 900000) (hne : tg ≠ mg)
    (hW : Chg W0 w mg none) (hP : PtsIn W0 hp.a hp.n hp.cap gs) (hS : SlQ icod W0 hq.a hq.n hq.cap ss) (hm0 : MapAt W0 mg) :
    Calls Tryz.prog 19 #[.pointer (some ⟨tg, 0, none⟩), x.val, .slice hp.a hp.n hp.cap, .slice hq.a hq.n hq.cap] w fun e w' => e = .returned (.int .i64 (seqE n hs.n x gs ss)) ∧ TabIn w' base tg mg (N + 2048) n hs hl ∧ Chg w w' mg none := by
  obtain ⟨xr, xm, xf, xc⟩ := x
  obtain ⟨pa, pn, pc⟩ := hp
  obtain ⟨qa, qn, qc⟩ := hq
  have hpl : pn = gs.length := hP.len.1
  have hp9 : pn ≤ 9223372036854775807 := hP.len.2
  have hql : qn = ss.length := hS.hlen
  have hq9 : qn ≤ 9223372036854775807 := by have h1 : qn ≤ qc := hS.hcap; have h2 : qc ≤ maxLen := hS.hmax; unfold maxLen at h2; omega
  have hmb := h.mg_lt
  obtain ⟨W, hWe⟩ : ∃ W, (((w.alloc (.cells #[.pointer (some ⟨tg, 0, none⟩)] 47)).alloc (Wgh.mk xr xm xf xc).box).alloc (.cells #[.slice pa pn pc] 63)).alloc (.cells #[.slice qa qn qc] 35) = W := ⟨_, rfl⟩
  have HB : Hid (Below w.heap.size w W) := by
    rw [← hWe]
    exact ((((Below.refl _ _).alloc (Nat.le_refl _) _).alloc (by simp) _).alloc (by simp; omega) _).alloc (by simp; omega) _
  have HSQ : Hid (SeqIn W (w.heap.size + 2) w.heap.size (w.heap.size + 1) (w.heap.size + 3) tg ⟨xr, xm, xf, xc⟩ ⟨pa, pn, pc⟩ ⟨qa, qn, qc⟩) := by
    rw [← hWe]
    refine ⟨box_alloc ?_, box_alloc (box_alloc (box_alloc (box_new _ _))), box_alloc (box_alloc ?_), ?_⟩
    · have := box_new ((w.alloc (.cells #[.pointer (some ⟨tg, 0, none⟩)] 47)).alloc (Wgh.mk xr xm xf xc).box) (.cells #[.slice pa pn pc] 63)
      simpa using this
    · have := box_new (w.alloc (.cells #[.pointer (some ⟨tg, 0, none⟩)] 47)) (Wgh.mk xr xm xf xc).box
      simpa using this
    · have := box_new (((w.alloc (.cells #[.pointer (some ⟨tg, 0, none⟩)] 47)).alloc (Wgh.mk xr xm xf xc).box).alloc (.cells #[.slice pa pn pc] 63)) (.cells #[.slice qa qn qc] 35)
      simpa using this
  have l0 : W.cell? ⟨w.heap.size + 2, 0, none⟩ = some (.slice pa pn pc) := (box_cell HSQ.out.l 0).1
  have s0 : W.cell? ⟨w.heap.size + 3, 0, none⟩ = some (.slice qa qn qc) := (box_cell HSQ.out.s 0).1
  obtain ⟨x0, x1, x2, x3⟩ := box4_cells HSQ.out.x
  have HT := Lib.hid (h.below HB.out)
  have HOK := Lib.hid hok
  have HW := Lib.hid (hW.trans (Chg.of_below HB.out mg none) (.inl rfl))
  have HP := Lib.hid hP
  have HS := Lib.hid hS
  clear h hok hW hP hS
  have HPL := Lib.hid hpl
  have HQL := Lib.hid hql
  have HSE : Hid (seqE n hs.n ⟨xr, xm, xf, xc⟩ gs ss = if pn = qn ∧ pn ≤ 2048 ∧ mayW ⟨xr, xm, xf, xc⟩ = true then sumGo (costAt n hs.n ⟨xr, xm, xf, xc⟩ gs ss) qn 0 0 else -1) := by show _ = _; unfold seqE; rw [← hpl, ← hql]
  clear hpl hql
  go_enter Tryz.func19, Tryz.ntmps19
  by_cases c1 : pn = qn
  case neg =>
    have c1i : (pn : Int) ≠ (qn : Int) := by omega
    have d1 : ((pn : Int) == (qn : Int)) = false := by simpa using c1i
    have HE : Hid (seqE n hs.n ⟨xr, xm, xf, xc⟩ gs ss = -1) := by show _ = _; rw [HSE.out, if_neg (fun q => c1 q.1)]
    go_wp2_with fail
    go_ret
    exact ⟨by rw [HE.out]; rfl, HT.out.upto (by omega), Chg.of_below HB.out mg none⟩
  case pos =>
    subst c1
    by_cases c2 : 2048 < pn
    · have d2 : decide (2048 < (pn : Int)) = true := decide_eq_true (by omega)
      have HE : Hid (seqE n hs.n ⟨xr, xm, xf, xc⟩ gs ss = -1) := by show _ = _; rw [HSE.out, if_neg (fun q => by omega)]
      go_wp2_with fail
      go_ret
      exact ⟨by rw [HE.out]; rfl, HT.out.upto (by omega), Chg.of_below HB.out mg none⟩
    · have d2 : decide (2048 < (pn : Int)) = false := decide_eq_false (by omega)
      obtain ⟨bm, hbm⟩ : ∃ bm, mayW ⟨xr, xm, xf, xc⟩ = bm := ⟨_, rfl⟩
      have HBM := Lib.hid hbm
      clear hbm
      cases bm with
      | false =>
        have HE : Hid (seqE n hs.n ⟨xr, xm, xf, xc⟩ gs ss = -1) := by show _ = _; rw [HSE.out, if_neg (fun q => by rw [HBM.out] at q; simp at q)]
        go_wp2_with (go_at_call 29; refine (cmay_any ⟨xr, xm, xf, xc⟩ _).mono ?_; rintro e w3 ⟨rfl, hb3⟩; rw [HBM.out]; have HT3 := Lib.hid (HT.out.below hb3); have HC3 : Hid (Chg w w3 mg none) := (Chg.of_below HB.out mg none).trans (Chg.of_below hb3 mg none) (.inl rfl); clear hb3)
        go_ret
        exact ⟨by rw [HE.out]; rfl, HT3.out.upto (by omega), HC3.out⟩
      | true =>
        have HE : Hid (seqE n hs.n ⟨xr, xm, xf, xc⟩ gs ss = sumGo (costAt n hs.n ⟨xr, xm, xf, xc⟩ gs ss) pn 0 0) := by show _ = _; rw [HSE.out, if_pos ⟨rfl, by omega, HBM.out⟩]
        go_wp2_with (first
          | (go_at_call 29; refine (cmay_any ⟨xr, xm, xf, xc⟩ _).mono ?_; rintro e w3 ⟨rfl, hb3⟩; rw [HBM.out]; have HT3 := Lib.hid (HT.out.below hb3); have HS3 := Lib.hid (HSQ.out.below hb3); have s3 : w3.cell? ⟨w.heap.size + 3, 0, none⟩ = some (.slice qa pn qc) := (box_cell HS3.out.s 0).1; have HC3 : Hid (Chg w w3 mg none) := (Chg.of_below HB.out mg none).trans (Chg.of_below hb3 mg none) (.inl rfl); have HW3 := Lib.hid (HW.out.trans (Chg.of_below hb3 mg none) (.inl rfl)); clear hb3)
          | (go_at_call 54; go_loud (refine (csum_any _ W0 base tg mg N n hs hl ⟨xr, xm, xf, xc⟩ ⟨pa, pn, pc⟩ ⟨qa, pn, qc⟩ gs ss (w.heap.size + 2) w.heap.size (w.heap.size + 1) (w.heap.size + 3) HT3.out HOK.out h60 h120 hN hne HS3.out (by omega) HW3.out HP.out HS.out rfl (by show pn ≤ 2048; omega) hm0).mono ?_); rintro e w4 ⟨rfl, ht4, hc4⟩; have HT4 := Lib.hid ht4; have HC4 := Lib.hid (HC3.out.trans hc4 (.inl rfl)); clear ht4 hc4))
        go_ret
        exact ⟨by rw [HE.out]; rfl, HT4.out, HC4.out⟩
theorem cseq_any (w W0 : World) (base tg mg : Nat) (N : Nat) (n : Net) (hs hl : Hdr) (x : Wgh) (hp hq : Hdr) (gs : List (List Pnt)) (ss : List Int)
    (h : TabIn w base tg mg N n hs hl) (hok : checkE n = 0) (h60 : hs.n ≤ 60) (h120 : hl.n ≤ 120) (hN : N ≤ 900000) (hne : tg ≠ mg)
    (hW : Below W0.heap.size W0 w) (hP : PtsIn W0 hp.a hp.n hp.cap gs) (hS : SlQ icod W0 hq.a hq.n hq.cap ss) (hm0 : W0.heap.size ≤ mg) :
    Calls Tryz.prog 19 #[.pointer (some ⟨tg, 0, none⟩), x.val, .slice hp.a hp.n hp.cap, .slice hq.a hq.n hq.cap] w fun e w' => e = .returned (.int .i64 (seqE n hs.n x gs ss)) ∧ TabIn w' base tg mg (N + 2048) n hs hl ∧ Chg w w' mg none :=
  cseq_gen w W0 base tg mg N n hs hl x hp hq gs ss h hok h60 h120 hN hne (Chg.of_below hW mg none) hP hS (mapAt_new hm0)
end Go.Proofs.YtlfbbahihenilaaGreat.Ne

namespace Go.Proofs.YtlfbbahihenilaaGreat.Ne
open Go.RowKit Go.V Go.Proofs Go.Sort Go.Maps

def sqOk (p : Pnt) : Bool := decide (0 ≤ p.sq ∧ p.sq ≤ 1099511627776)
def rowOk (r : List Pnt) : Bool := decide (r.length ≤ 16) && r.all sqOk
def vmayE (x : Wgh) (gs : List (List Pnt)) : Int := if mayW x = true then (if 2048 < gs.length then 3 else if gs.all rowOk = true then (if gs.length = 0 then 31 else 0) else 2) else 2
theorem all_take_snoc {α : Type} {f : α → Bool} {xs : List α} {j : Nat} {x : α} (h : xs[j]? = some x) (hx : f x = true) (hh : (xs.take j).all f = true) : (xs.take (j + 1)).all f = true := by
  rw [take_at h, List.all_append, hh]; simp [hx]
theorem all_no {α : Type} {f : α → Bool} {xs : List α} {j : Nat} {x : α} (h : xs[j]? = some x) (hx : f x = false) : xs.all f = false := by
  rw [Bool.eq_false_iff]
  intro hh
  have := List.all_eq_true.1 hh x (List.mem_of_getElem? h)
  rw [hx] at this; cases this

set_option maxHeartbeats 2000000 in
set_option maxRecDepth 100000 in
theorem vmay_any (x : Wgh) (pa : Option Addr) (pn pc : Nat) (gs : List (List Pnt)) (w : World) (h : PtsIn w pa pn pc gs) :
    Calls Tryz.prog 74 #[x.val, .slice pa pn pc] w fun e w' => e = .returned (.int .i64 (vmayE x gs)) ∧ Below w.heap.size w w' := by
  have HP := Lib.hid h
  obtain ⟨hl, hn⟩ := h.len
  have HL := Lib.hid hl
  obtain ⟨xr, xm, xf, xc⟩ := x
  obtain ⟨mw, hmw⟩ : ∃ mw, mayW ⟨xr, xm, xf, xc⟩ = mw := ⟨_, rfl⟩
  obtain ⟨ve, hve⟩ : ∃ ve, vmayE ⟨xr, xm, xf, xc⟩ gs = ve := ⟨_, rfl⟩
  have HMW := Lib.hid hmw
  have HVE := Lib.hid hve
  rw [hve]
  clear h hl hmw hve
  have HX0 := Lib.hid (box_new w (Wgh.mk xr xm xf xc).box)
  have HB0 : Hid (Below w.heap.size w (w.alloc (Wgh.mk xr xm xf xc).box)) := (Below.refl _ _).alloc (Nat.le_refl _) _
  obtain ⟨c0, c1, c2, c3⟩ := box4_cells HX0.out
  cases mw with
  | false =>
    have hz : 2 = ve := by rw [← HVE.out]; exact (if_neg (by rw [HMW.out]; simp)).symm
    subst hz
    go_enter Tryz.func74, Tryz.ntmps74
    go_wp2_with (go_at_call 29; go_loud (refine (cmay_any ⟨xr, xm, xf, xc⟩ _).mono ?_); rintro e w1 ⟨rfl, hb1⟩; rw [HMW.out]; have HB1 := Lib.hid (HB0.out.trans (hb1.mono HB0.out.size)); clear hb1)
    go_ret
    exact ⟨rfl, HB1.out⟩
  | true =>
    by_cases hbig : (2048 : Int) < (pn : Int)
    · have hz : 3 = ve := by rw [← HVE.out]; unfold vmayE; rw [if_pos HMW.out, if_pos (by have := HL.out; omega)]
      subst hz
      go_enter Tryz.func74, Tryz.ntmps74
      go_wp2_with (go_at_call 29; go_loud (refine (cmay_any ⟨xr, xm, xf, xc⟩ _).mono ?_); rintro e w1 ⟨rfl, hb1⟩; rw [HMW.out]; have HB1 := Lib.hid (HB0.out.trans (hb1.mono HB0.out.size)); clear hb1)
      go_ret
      exact ⟨rfl, HB1.out⟩
    · have hp2 : pn ≤ 2048 := by omega
      have HEV : Hid (∀ b, gs.all rowOk = b → (if b = true then (if gs.length = 0 then 31 else 0) else 2) = ve) := by
        intro b hb
        rw [← HVE.out]; unfold vmayE
        have k1 : ¬ (2048 < gs.length) := by have := HL.out; omega
        rw [if_pos HMW.out, if_neg k1, hb]
      go_enter Tryz.func74, Tryz.ntmps74
      go_wp2_with (go_at_call 29; go_loud (refine (cmay_any ⟨xr, xm, xf, xc⟩ _).mono ?_); rintro e w1 ⟨rfl, hb1⟩; rw [HMW.out]; have HB1 := Lib.hid (HB0.out.trans (hb1.mono HB0.out.size)); clear hb1)
      go_loopw [19] (fun i wr => ∃ j : Nat, i = .int .i64 j ∧ j ≤ pn ∧ Hid (Below w.heap.size w wr) ∧ Hid ((gs.take j).all rowOk = true)) (fun i _ => pn - (intOf i).toNat)
      case atStart => exact ⟨0, by go_num, by omega, HB1.out, rfl⟩
      case round =>
        clear HB1 c0 c1 c2 c3
        obtain ⟨j, rfl, hj, HBr, HAL⟩ := hrel
        by_cases hlt : j < pn
        · obtain ⟨b, off, hd, g, e1, hbl, hg, p0, hsl⟩ := (HP.out.below HBr.out).at hlt
          have e1 : pa = _ := e1
          subst e1
          obtain ⟨ra, rn, rc⟩ := hd
          have hji : (j : Int) < (pn : Int) := by omega
          have HG := Lib.hid hg
          have HS := Lib.hid hsl
          have HRL : Hid (rn = g.length) := hsl.hlen
          clear hg hsl
          by_cases h16 : (16 : Int) < (rn : Int)
          · have hz : 2 = ve := by
              have := HEV.out false (all_no HG.out (by unfold rowOk; rw [decide_eq_false (by have := HRL.out; omega)]; rfl))
              exact this
            subst hz
            go_wp2_with fail
            go_ret
            exact ⟨rfl, HBr.out⟩
          · have hr16 : rn ≤ 16 := by omega
            go_wp2_with fail
            go_loopw [28] (fun i wq => ∃ k : Nat, i = .int .i64 k ∧ k ≤ rn ∧ Hid (Below wr.heap.size wr wq) ∧ Hid ((g.take k).all sqOk = true)) (fun i _ => rn - (intOf i).toNat)
            case atStart => exact ⟨0, by go_num, by omega, Below.refl _ _, rfl⟩
            case round =>
              obtain ⟨k, rfl, hk, HBq, HAK⟩ := hrel
              by_cases hltk : k < rn
              · obtain ⟨b2, off2, q, e2, hbl2, hq, q0, q1⟩ := pnt_at (HS.out.below HBq.out) hltk
                have e2 : ra = _ := e2
                subst e2
                have hki : (k : Int) < (rn : Int) := by omega
                have HQ := Lib.hid hq
                clear hq
                obtain ⟨st, sq⟩ := q
                have hbw := HBq.out.size
                have HBW : Hid (Below w.heap.size w _) := HBr.out.trans (HBq.out.mono HBr.out.size)
                have hbw2 := HBW.out.size
                by_cases x1 : sq < 0
                · have hz : 2 = ve := HEV.out false (all_no HG.out (by unfold rowOk; rw [all_no HQ.out (show sqOk ⟨st, sq⟩ = false from decide_eq_false (by show ¬ (0 ≤ sq ∧ sq ≤ _); omega))]; simp))
                  subst hz
                  go_wp2_with fail
                  go_ret
                  exact ⟨rfl, HBW.out.alloc hbw2 _⟩
                · by_cases x2 : 1099511627776 < sq
                  · have hz : 2 = ve := HEV.out false (all_no HG.out (by unfold rowOk; rw [all_no HQ.out (show sqOk ⟨st, sq⟩ = false from decide_eq_false (by show ¬ (0 ≤ sq ∧ sq ≤ _); omega))]; simp))
                    subst hz
                    go_wp2_with fail
                    go_ret
                    exact ⟨rfl, HBW.out.alloc hbw2 _⟩
                  · have HK : Hid (sqOk ⟨st, sq⟩ = true) := decide_eq_true (by show 0 ≤ sq ∧ sq ≤ _; omega)
                    go_wp2_with fail
                    go_roundw
                    case rel => exact ⟨k + 1, by go_num, by omega, HBq.out.alloc hbw _, all_take_snoc HQ.out HK.out HAK.out⟩
                    case measure => simp [intOf]; omega
              · have hkr : rn = k := by omega
                subst hkr
                have HRO : Hid (rowOk g = true) := by
                  have := HAK.out
                  rw [List.take_of_length_le (by rw [← HRL.out]; exact Nat.le_refl _)] at this
                  show _ = _
                  unfold rowOk; rw [decide_eq_true (by have := HRL.out; omega), this]; rfl
                have HBW := Lib.hid (HBr.out.trans (HBq.out.mono HBr.out.size))
                go_wp2_with fail
                go_roundw
                case rel => exact ⟨j + 1, by go_num, by omega, HBW.out, all_take_snoc HG.out HRO.out HAL.out⟩
                case measure => simp [intOf]; omega
        · have hjn : pn = j := by omega
          subst hjn
          have hall : gs.all rowOk = true := by
            have := HAL.out
            rwa [List.take_of_length_le (by rw [← HL.out]; exact Nat.le_refl _)] at this
          have HVA := Lib.hid (HEV.out true hall)
          by_cases h0 : pn = 0
          · have hz : 31 = ve := by rw [← HVA.out, if_pos rfl, if_pos (by have := HL.out; omega)]
            subst hz
            have h0b : ((pn : Int) == 0) = true := by simp; omega
            clear hall
            go_wp2_with fail
            go_ret
            exact ⟨rfl, HBr.out⟩
          · have hz : 0 = ve := by rw [← HVA.out, if_pos rfl, if_neg (by have := HL.out; omega)]
            subst hz
            have h0b : ((pn : Int) == 0) = false := by simp; omega
            clear hall
            go_wp2_with fail
            go_ret
            exact ⟨rfl, HBr.out⟩
end Go.Proofs.YtlfbbahihenilaaGreat.Ne
