/- Tariffs as bytes: numbers written by a closure, walked. -/
/- Tariffs as bytes: price.Put, walked (printed by gen_XPbC.py). -/
import Derived.Test.YtbdkhgenkekioaaPbP
import Derived.Test.YtbdkhgenkekioaaFaF
namespace Go.Proofs.Ytbdkhgenkekioaa.Pb
open Go.RowKit Go.V Go.Proofs Go.Sort Go.Proofs.Ytbdkhgenkekioaa.Wi
open Go.Proofs.Ytbdkhgenkekioaa.Ne (box_alloc box_new box_cell box_below box_lt)

/-- The slice's block is none that the writer changes. -/
def Slk (w : World) (g B : Nat) (a : Option Addr) : Prop := ∀ d, a = some d → ∃ ob, w.heap[d.block]? = some ob ∧ d.block ≠ g ∧ (d.block < B ∨ ∀ cur fr, ob ≠ .cells cur 5 fr)
theorem sl_wrto {α : Type} {c : Cod α} {w w' : World} {g B : Nat} {a : Option Addr} {n cap : Nat} {xs : List α} (h : Sl c w a n cap xs) (hk : Slk w g B a) (ht : WrTo g B w w') : Sl c w' a n cap xs :=
  ⟨h.hlen, h.hcap, h.hmax, h.hnil, fun d hd => by
    obtain ⟨h1, h2, h3⟩ := h.hat d hd
    obtain ⟨ob, k1, k2, k3⟩ := hk d hd
    have hb := ht.block _ ob k1 k2 k3
    refine ⟨h1, box_lt hb, fun j u hu => ?_⟩
    have h4 := h3 j u hu
    rw [← h4]
    have e : w'.heap[d.block]? = w.heap[d.block]? := by rw [hb, k1]
    simp [World.cell?, e]⟩
theorem slk_new (w : World) (g B : Nat) (cs : Array Value) (t : TypeId) (ht : t ≠ 5) (hg : g < w.heap.size) : Slk (w.alloc (.cells cs t)) g B (some ⟨w.heap.size, 0, none⟩) := fun d hd => by
  have hd := (Option.some.inj hd).symm
  subst hd
  exact ⟨_, box_new w _, by show w.heap.size ≠ g; omega, .inr (fun cur fr e => by simp at e; exact ht e.2.1)⟩
theorem slk_old {α : Type} {c : Cod α} {w : World} {g B : Nat} {a : Option Addr} {n cap : Nat} {xs : List α} (h : Sl c w a n cap xs) {W : World} (hb : Below w.heap.size w W) (h1 : w.heap.size ≤ g) (h2 : w.heap.size ≤ B) : Slk W g B a := fun d hd => by
  obtain ⟨g1, g2, -⟩ := h.hat d hd
  exact ⟨_, Array.getElem?_eq_getElem (Nat.lt_of_lt_of_le g2 hb.size), by omega, .inl (by omega)⟩

theorem pnum_len {ys : List Int} (h : ∀ y ∈ ys, 0 ≤ y ∧ y < 9223372036854775808) (i : Nat) : ((ys.take i).flatMap enI).length ≤ 10 * ys.length := by
  have h1 := sum_le enI 10 (ys.take i) (fun y hy => by
    have := h y (List.mem_of_mem_take hy)
    exact putV_10 _ (by omega))
  have h2 : (ys.take i).length ≤ ys.length := by rw [List.length_take]; omega
  omega

set_option maxHeartbeats 4000000 in
theorem pnum_any (g B gv : Nat) (xs : List Int) (a : Option Addr) (n cap : Nat) (ys : List Int) (w : World) (h : Wr w g B xs) (hB : B ≤ w.heap.size) (hgv : w.heap[gv]? = some (.cells #[.pointer (some ⟨g, 0, none⟩)] 89 (0, 0))) (hgg : gv ≠ g) (hs : Sl icod w a n cap ys) (hk : Slk w g B a)
    (hy : ∀ y ∈ ys, 0 ≤ y ∧ y < 9223372036854775808) (hn : n ≤ 1000000) (hm : xs.length + 10 * n ≤ 800000000) :
    Calls Try.prog 74 #[.slice a n cap, .pointer (some ⟨gv, 0, none⟩)] w fun e w' => (∃ u, e = .returned u) ∧ Wr w' g B (xs ++ ys.flatMap enI) ∧ WrTo g B w w' := by
  have HLN : Hid (n = ys.length) := hs.hlen
  have HS := Lib.hid hs
  have HK := Lib.hid hk
  have HW := Lib.hid h
  have HGV := Lib.hid hgv
  have HY := Lib.hid hy
  have HBB := Lib.hid hB
  have hc := (box_cell hgv 0).1
  replace hc : w.cell? ⟨gv, 0, none⟩ = some (.pointer (some ⟨g, 0, none⟩)) := hc
  clear h hgv hs hk hy hB
  go_enter Try.func74, Try.ntmps74
  go_wp2_with fail
  go_loopw [7] (fun vi wr => ∃ i : Nat, vi = .int .i64 ((i : Nat) : Int) ∧ i ≤ n ∧ Hid (Wr wr g B (xs ++ (ys.take i).flatMap enI)) ∧ Hid (WrTo g B w wr)) (fun vi _ => n - (intOf vi).toNat)
  case atStart => exact ⟨0, rfl, Nat.zero_le _, by have := HW.out; show Wr _ _ _ _; simpa using this, WrTo.refl _ _ _⟩
  case round =>
    obtain ⟨i, rfl, hi, HWI, HTI⟩ := hrel
    by_cases hlt : i < n
    · have hii : (i : Int) < (n : Int) := by omega
      obtain ⟨b, off, x, e1, hbl, hx, hc1⟩ := int_at (sl_wrto HS.out HK.out HTI.out) hlt
      subst e1
      have hxr := HY.out x (List.mem_of_getElem? hx)
      obtain ⟨hx0, hx1⟩ := hxr
      have hv := (box_cell (HTI.out.block gv _ HGV.out hgg (.inr (fun cur fr e => by simp at e))) 0).1
      replace hv : wr.cell? ⟨gv, 0, none⟩ = some (.pointer (some ⟨g, 0, none⟩)) := hv
      have HFT := Lib.hid (flat_take enI hx)
      have HPL : Hid ((xs ++ (ys.take i).flatMap enI).length ≤ 900000000) := by
        have := pnum_len HY.out i
        have h2 := HLN.out
        show _ ≤ _
        rw [List.length_append]; omega
      have HSZ : Hid (B ≤ wr.heap.size) := Nat.le_trans HBB.out HTI.out.size
      clear hx
      go_wp2_with (go_at_call 55; go_loud (refine (wnum_any g B (xs ++ (ys.take i).flatMap enI) x wr HWI.out HSZ.out hx0 hx1 HPL.out).mono ?_); rintro e w2 ⟨⟨u, rfl⟩, hw2, ht2⟩; have HW2 := Lib.hid hw2; have HT2 := Lib.hid ht2; clear hw2 ht2)
      go_roundw
      case rel => exact ⟨i + 1, by go_num, by omega, by show Wr _ _ _ _; rw [HFT.out, ← List.append_assoc]; exact HW2.out, HTI.out.trans HT2.out⟩
      case measure => simp [intOf]; omega
    · have hie : i = n := by omega
      subst hie
      have hii : ¬ (i : Int) < (i : Int) := by omega
      go_wp2_with fail
      refine bodyPost_end (results_none rfl _ _ _) rfl ?_
      exact ⟨⟨_, rfl⟩, by have := HWI.out; rwa [List.take_of_length_le (by rw [← HLN.out]; exact Nat.le_refl _)] at this, HTI.out⟩
end Go.Proofs.Ytbdkhgenkekioaa.Pb

namespace Go.Proofs.Ytbdkhgenkekioaa.Pb
open Go.RowKit Go.V Go.Proofs Go.Sort Go.Proofs.Ytbdkhgenkekioaa.Wi
open Go.Proofs.Ytbdkhgenkekioaa.Ne (box_alloc box_new box_cell box_below box_lt)

/-- What price.Put has in memory. -/
structure PP (w : World) (t : Tar) (hb hs hr : Hdr) (g gv : Nat) (xs : List Int) (m : Nat) (W : World) : Prop where
  wr : Wr W g (g + 1) xs
  vb : W.heap[gv]? = some (.cells #[.pointer (some ⟨g, 0, none⟩)] 89 (0, 0))
  bx : TarBox 61 W w.heap.size t hb hs hr
  inn : TarIn w t hb hs hr
  bl : Below w.heap.size w W
  gs : w.heap.size < g
  gg : gv ≠ g
  sz : g + 1 ≤ W.heap.size
  len : xs.length ≤ m
  mm : m ≤ 700000000
theorem PP.step {w : World} {t : Tar} {hb hs hr : Hdr} {g gv : Nat} {xs ys : List Int} {m : Nat} {W W' : World} (h : PP w t hb hs hr g gv xs m W) (ht : WrTo g (g + 1) W W') (hw : Wr W' g (g + 1) ys) (m' : Nat) (hl2 : ys.length ≤ m') (hm : m' ≤ 700000000) : PP w t hb hs hr g gv ys m' W' := by
  have hb0 : Below g W W' := ht.below (by have := h.sz; omega) (by omega)
  have hb2 : Below w.heap.size W W' := ⟨hb0.os, hb0.tape, hb0.output, hb0.size, fun k hk => hb0.block k (by have := h.gs; omega)⟩
  exact ⟨hw, ht.block gv _ h.vb h.gg (.inr (fun cur fr e => by simp at e)), (hb0.block _ h.gs).trans h.bx, h.inn, h.bl.trans hb2, h.gs, h.gg, by have := h.sz; have := hb0.size; omega, hl2, hm⟩
theorem PP.alloc {w : World} {t : Tar} {hb hs hr : Hdr} {g gv : Nat} {xs : List Int} {m : Nat} {W : World} (h : PP w t hb hs hr g gv xs m W) (ob : Obj) : PP w t hb hs hr g gv xs m (W.alloc ob) :=
  ⟨h.wr.below ((Below.refl _ _).alloc (Nat.le_refl _) _), box_alloc h.vb, box_alloc h.bx, h.inn, h.bl.alloc h.bl.size _, h.gs, h.gg, by have := h.sz; simp; omega, h.len, h.mm⟩
theorem pnum_len3 {xs ys : List Int} {m n : Nat} (h : xs.length ≤ m) (hy : ∀ y ∈ ys, 0 ≤ y ∧ y < 9223372036854775808) (hn : ys.length ≤ n) : (xs ++ ys.flatMap enI).length ≤ m + 10 * n := by
  have := pnum_len hy ys.length
  rw [List.take_length] at this
  rw [List.length_append]; omega
theorem enP_two (p : Pair) : [p.a, p.b].flatMap enI = enP p := by
  unfold enP
  simp [enI]

set_option maxHeartbeats 8000000 in
set_option maxRecDepth 100000 in
theorem pput_any (t : Tar) (hb hs hr : Hdr) (w : World) (hm : hb.n ≤ 1000000 ∧ hs.n ≤ 1000000 ∧ hr.n ≤ 1000000) (h : TarIn w t hb hs hr) :
    Calls Try.prog 29 #[t.val hb hs hr] w fun e w' => Below w.heap.size w w' ∧ (tarOk t = false → e = .returned (.tuple #[.slice none 0 0, .int .i64 2])) ∧ (tarOk t = true → ∃ v, e = .returned (.tuple #[v, .int .i64 0]) ∧ V.Own 5 bcod w.heap.size w' v (frameE 4 (putTar t))) := by
  obtain ⟨ba, bn, bc⟩ := hb
  obtain ⟨sa, sn, sc⟩ := hs
  obtain ⟨ra, rn, rc⟩ := hr
  have HM := Lib.hid hm
  have HH := Lib.hid h
  have HX : Hid (TarBox 61 (w.alloc (.cells #[.int .i64 t.ver, .slice ba bn bc, .int .i64 t.over, .int .i64 t.full, .slice sa sn sc, .int .i64 t.unit, .int .i64 t.window, .int .i64 t.chain, .slice ra rn rc] 61)) w.heap.size t ⟨ba, bn, bc⟩ ⟨sa, sn, sc⟩ ⟨ra, rn, rc⟩) := box_new w _
  have HB0 : Hid (Below w.heap.size w (w.alloc (.cells #[.int .i64 t.ver, .slice ba bn bc, .int .i64 t.over, .int .i64 t.full, .slice sa sn sc, .int .i64 t.unit, .int .i64 t.window, .int .i64 t.chain, .slice ra rn rc] 61))) := (Below.refl _ _).alloc (Nat.le_refl _) _
  have HBN : Hid (bn = t.bands.length) := h.b.hlen
  have HSN : Hid (sn = t.shares.length) := h.s.hlen
  have HRN : Hid (rn = t.rungs.length) := h.r.hlen
  obtain ⟨-, c0, c1, c2, c3, c4, c5, c6, c7, c8⟩ := TarBox.cells HX.out
  clear h hm
  obtain ⟨ok, hok⟩ : ∃ ok, tarOk t = ok := ⟨_, rfl⟩
  have HOK := Lib.hid hok
  clear hok
  unfold Tar.val
  cases ok with
  | false =>
    go_enter Try.func29, Try.ntmps29
    go_wp2_with (go_at_call 73; go_loud (refine (tarR_any t ⟨ba, bn, bc⟩ ⟨sa, sn, sc⟩ ⟨ra, rn, rc⟩ _ HM.out (HH.out.below HB0.out)).mono ?_); rintro e w1 ⟨rfl, hb1⟩; rw [HOK.out]; have HB1 := Lib.hid (HB0.out.trans (hb1.mono HB0.out.size)); clear hb1)
    go_ret2
    exact ⟨HB1.out, fun _ => rfl, (fun q => by rw [HOK.out] at q; cases q)⟩
  | true =>
    have HF := Lib.hid (fit_of_ok HOK.out)
    have hv := HF.out.ver
    have hov := HF.out.over
    have hfu := HF.out.full
    have hun := HF.out.unit
    have hwi := HF.out.window
    have hch := HF.out.chain
    have hbn : bn ≤ 64 := by rw [HBN.out]; exact HF.out.nb
    have hsn : sn ≤ 16 := by rw [HSN.out]; exact HF.out.ns
    have hrn : rn ≤ 16 := by rw [HRN.out]; exact HF.out.nr
    obtain ⟨hv0, hv1⟩ := hv
    obtain ⟨hov0, hov1⟩ := hov
    obtain ⟨hfu0, hfu1⟩ := hfu
    obtain ⟨hun0, hun1⟩ := hun
    obtain ⟨hwi0, hwi1⟩ := hwi
    obtain ⟨hch0, hch1⟩ := hch
    go_enter Try.func29, Try.ntmps29
    go_upto_region 5 with (go_at_call 73; go_loud (refine (tarR_any t ⟨ba, bn, bc⟩ ⟨sa, sn, sc⟩ ⟨ra, rn, rc⟩ _ HM.out (HH.out.below HB0.out)).mono ?_); rintro e w1 ⟨rfl, hb1⟩; rw [HOK.out]; have HB1 := Lib.hid (HB0.out.trans (hb1.mono HB0.out.size)); have HX1 := Lib.hid (HX.out.below hb1); clear hb1)
    have HG0 : Hid (PP w t ⟨ba, bn, bc⟩ ⟨sa, sn, sc⟩ ⟨ra, rn, rc⟩ w1.heap.size (w1.heap.size + 1) [] 0 ((w1.alloc (.cells #[.slice none 0 0] 91)).alloc (.cells #[.pointer (some ⟨w1.heap.size, 0, none⟩)] 89))) :=
      ⟨(Wr.new w1).below ((Below.refl _ _).alloc (Nat.le_refl _) _), by have := box_new (w1.alloc (.cells #[.slice none 0 0] 91)) (.cells #[.pointer (some ⟨w1.heap.size, 0, none⟩)] 89); simpa using this, box_alloc (box_alloc HX1.out), HH.out, (HB1.out.alloc HB1.out.size _).alloc (by have := HB1.out.size; simp; omega) _, box_lt HX1.out, by omega, by simp, by simp, by omega⟩
    obtain ⟨W0, hW0⟩ : ∃ W, (w1.alloc (.cells #[.slice none 0 0] 91)).alloc (.cells #[.pointer (some ⟨w1.heap.size, 0, none⟩)] 89) = W := ⟨_, rfl⟩
    obtain ⟨gv, hgv⟩ : ∃ gv, w1.heap.size + 1 = gv := ⟨_, rfl⟩
    obtain ⟨g, hg⟩ : ∃ g, w1.heap.size = g := ⟨_, rfl⟩
    rw [hW0] at HG0 ⊢
    rw [hgv] at HG0 ⊢
    rw [hg] at HG0 ⊢
    clear hW0 hgv hg HB1 HX1 HX HB0 c0 c1 c2 c3 c4 c5 c6 c7 c8
    obtain ⟨-, c0, c1, -, -, -, -, -, -, -⟩ := TarBox.cells HG0.out.bx
    go_upto_region 6 with (go_at_call 74; go_loud (refine (pnum_any g (g + 1) gv ([]) (some ⟨W0.heap.size, 0, none⟩) 2 2 [t.ver, (bn : Int)] (W0.alloc (.cells #[.int .i64 t.ver, .int .i64 (bn : Int)] 3)) (HG0.out.alloc _).wr (HG0.out.alloc _).sz (HG0.out.alloc _).vb HG0.out.gg (sl_new (c := icod) W0 #[.int .i64 t.ver, .int .i64 (bn : Int)] 3 [t.ver, (bn : Int)] 2 rfl (by unfold maxLen; omega) rfl) (slk_new W0 g (g + 1) #[.int .i64 t.ver, .int .i64 (bn : Int)] 3 (by decide) HG0.out.sz) (by intro yy hyy; simp only [List.mem_cons, List.not_mem_nil, or_false] at hyy; omega) (by omega) (by have := HG0.out.len; omega)).mono ?_); rintro e W1 ⟨⟨uW1, rfl⟩, hw, ht⟩; have HG1 := Lib.hid ((HG0.out.alloc (.cells #[.int .i64 t.ver, .int .i64 (bn : Int)] 3)).step ht hw (0 + 10 * 2) (pnum_len3 HG0.out.len (ys := [t.ver, (bn : Int)]) (by intro yy hyy; simp only [List.mem_cons, List.not_mem_nil, or_false] at hyy; omega) (by simp)) (by omega)); clear hw ht)
    clear c0 c1 HG0
    obtain ⟨P1, hP1⟩ : ∃ P, ([] : List Int) ++ [t.ver, (bn : Int)].flatMap enI = P := ⟨_, rfl⟩
    have HP1 := Lib.hid hP1
    rw [hP1] at HG1
    clear hP1
    obtain ⟨-, -, c1, -, -, -, -, -, -, -⟩ := TarBox.cells HG1.out.bx
    go_upto_region 7 with fail
    clear c1
    go_loopw [27] (fun vi wr => ∃ i : Nat, vi = .int .i64 ((i : Nat) : Int) ∧ i ≤ bn ∧ Hid (PP w t ⟨ba, bn, bc⟩ ⟨sa, sn, sc⟩ ⟨ra, rn, rc⟩ g gv (P1 ++ (t.bands.take i).flatMap enP) (20 + 20 * i) wr)) (fun vi _ => bn - (intOf vi).toNat)
    case atStart => exact ⟨0, rfl, Nat.zero_le _, by have := HG1.out; show PP _ _ _ _ _ _ _ _ _ _; simpa using this⟩
    case round =>
      obtain ⟨i, rfl, hi, HGI⟩ := hrel
      by_cases hlt : i < bn
      · have hii : (i : Int) < (bn : Int) := by omega
        obtain ⟨b, off, r, e1, hbl, hr, s0, s1⟩ := pair_at (HGI.out.inn.below HGI.out.bl).b hlt
        replace e1 : ba = some ⟨b, off, none⟩ := e1
        subst e1
        have hrb := HF.out.bands r (List.mem_of_getElem? hr)
        obtain ⟨rx, ry⟩ := r
        simp only [] at s0 s1 hrb
        obtain ⟨hx0, hx1, hy0, hy1⟩ := hrb
        have HFT := Lib.hid (flat_take enP hr)
        clear hr
        have HGA := Lib.hid (HGI.out.alloc (.cells #[.int .i64 rx, .int .i64 ry] 112))
        have HBXA := Lib.hid (box_new wr (.cells #[.int .i64 rx, .int .i64 ry] 112))
        have hgb : g < wr.heap.size := HGI.out.sz
        go_upto_region 9 with fail
        obtain ⟨V, hV⟩ : ∃ V, wr.alloc (.cells #[.int .i64 rx, .int .i64 ry] 112) = V := ⟨_, rfl⟩
        obtain ⟨y, hy⟩ : ∃ y, wr.heap.size = y := ⟨_, rfl⟩
        rw [hV] at HGA HBXA ⊢
        rw [hy] at HBXA hgb ⊢
        clear hV hy s0 s1 hbl
        have t0 := (box_cell HBXA.out 0).1
        have t1 := (box_cell HBXA.out 1).1
        replace t0 : V.cell? ⟨y, 0, none⟩ = some (.int .i64 rx) := t0
        replace t1 : V.cell? ⟨y, 1, none⟩ = some (.int .i64 ry) := t1
        obtain ⟨xs, hxs⟩ : ∃ xs, P1 ++ (t.bands.take i).flatMap enP = xs := ⟨_, rfl⟩
        rw [hxs] at HGA
        have HXS := Lib.hid hxs
        clear hxs
        have hi64 : i ≤ 64 := by omega
        go_upto_region 10 with (go_at_call 74; go_loud (refine (pnum_any g (g + 1) gv (xs) (some ⟨V.heap.size, 0, none⟩) 2 2 [rx, ry] (V.alloc (.cells #[.int .i64 rx, .int .i64 ry] 3)) (HGA.out.alloc _).wr (HGA.out.alloc _).sz (HGA.out.alloc _).vb HGA.out.gg (sl_new (c := icod) V #[.int .i64 rx, .int .i64 ry] 3 [rx, ry] 2 rfl (by unfold maxLen; omega) rfl) (slk_new V g (g + 1) #[.int .i64 rx, .int .i64 ry] 3 (by decide) HGA.out.sz) (by intro yy hyy; simp only [List.mem_cons, List.not_mem_nil, or_false] at hyy; omega) (by omega) (by have := HGA.out.len; omega)).mono ?_); rintro e W2 ⟨⟨uW2, rfl⟩, hw, ht⟩; have HG2 := Lib.hid ((HGA.out.alloc (.cells #[.int .i64 rx, .int .i64 ry] 3)).step ht hw (20 + 20 * (i + 1)) (by have := pnum_len3 HGA.out.len (ys := [rx, ry]) (n := 2) (by intro yy hyy; simp only [List.mem_cons, List.not_mem_nil, or_false] at hyy; omega) (by simp); omega) (by omega)); clear hw ht)
        clear t0 t1
        have HFE : Hid (P1 ++ (t.bands.take (i + 1)).flatMap enP = xs ++ [rx, ry].flatMap enI) := by
          show _ = _
          rw [HFT.out, ← List.append_assoc, HXS.out, ← enP_two]
        go_wp2_with fail
        go_roundw
        case rel => exact ⟨i + 1, by go_num, by omega, by rw [HFE.out]; exact HG2.out⟩
        case measure => simp [intOf]; omega
      · have hie : bn = i := by omega
        subst hie
        have hii : ¬ (bn : Int) < (bn : Int) := by omega
        have htk : t.bands.take bn = t.bands := List.take_of_length_le (by rw [← HBN.out]; exact Nat.le_refl _)
        rw [htk] at HGI
        clear htk
        obtain ⟨-, -, -, c2, c3, c4, -, -, -, -⟩ := TarBox.cells HGI.out.bx
        obtain ⟨P2, hP2⟩ : ∃ P, P1 ++ t.bands.flatMap enP = P := ⟨_, rfl⟩
        have HP2 := Lib.hid hP2
        rw [hP2] at HGI
        clear hP2 HG1
        go_upto_region 12 with (go_at_call 74; go_loud (refine (pnum_any g (g + 1) gv (P2) (some ⟨wr.heap.size, 0, none⟩) 3 3 [t.over, t.full, (sn : Int)] (wr.alloc (.cells #[.int .i64 t.over, .int .i64 t.full, .int .i64 (sn : Int)] 3)) (HGI.out.alloc _).wr (HGI.out.alloc _).sz (HGI.out.alloc _).vb HGI.out.gg (sl_new (c := icod) wr #[.int .i64 t.over, .int .i64 t.full, .int .i64 (sn : Int)] 3 [t.over, t.full, (sn : Int)] 3 rfl (by unfold maxLen; omega) rfl) (slk_new wr g (g + 1) #[.int .i64 t.over, .int .i64 t.full, .int .i64 (sn : Int)] 3 (by decide) HGI.out.sz) (by intro yy hyy; simp only [List.mem_cons, List.not_mem_nil, or_false] at hyy; omega) (by omega) (by have := HGI.out.len; omega)).mono ?_); rintro e W3 ⟨⟨uW3, rfl⟩, hw, ht⟩; have HG3 := Lib.hid ((HGI.out.alloc (.cells #[.int .i64 t.over, .int .i64 t.full, .int .i64 (sn : Int)] 3)).step ht hw (20 + 20 * bn + 10 * 3) (pnum_len3 HGI.out.len (ys := [t.over, t.full, (sn : Int)]) (by intro yy hyy; simp only [List.mem_cons, List.not_mem_nil, or_false] at hyy; omega) (by simp)) (by omega)); clear hw ht)
        clear c2 c3 c4
        obtain ⟨-, -, -, -, -, c4, -, -, -, -⟩ := TarBox.cells HG3.out.bx
        obtain ⟨P3, hP3⟩ : ∃ P, P2 ++ [t.over, t.full, (sn : Int)].flatMap enI = P := ⟨_, rfl⟩
        have HP3 := Lib.hid hP3
        rw [hP3] at HG3
        clear hP3 HGI
        go_upto_region 13 with (go_at_call 74; go_loud (refine (pnum_any g (g + 1) gv P3 sa sn sc t.shares W3 HG3.out.wr HG3.out.sz HG3.out.vb HG3.out.gg (HG3.out.inn.below HG3.out.bl).s (slk_old HG3.out.inn.s HG3.out.bl (Nat.le_of_lt HG3.out.gs) (by have := HG3.out.gs; omega)) (fun yy hyy => by have := HF.out.shares yy hyy; omega) (by omega) (by have := HG3.out.len; omega)).mono ?_); rintro e W4 ⟨⟨uW4, rfl⟩, hw, ht⟩; have HG4 := Lib.hid (HG3.out.step ht hw (20 + 20 * bn + 10 * 3 + 10 * sn) (pnum_len3 HG3.out.len (fun yy hyy => by have := HF.out.shares yy hyy; omega) (by rw [← HSN.out]; exact Nat.le_refl _)) (by omega)); clear hw ht)
        clear c4
        obtain ⟨-, -, -, -, -, -, c5, c6, c7, c8⟩ := TarBox.cells HG4.out.bx
        obtain ⟨P4, hP4⟩ : ∃ P, P3 ++ t.shares.flatMap enI = P := ⟨_, rfl⟩
        have HP4 := Lib.hid hP4
        rw [hP4] at HG4
        clear hP4 HG3
        go_upto_region 14 with (go_at_call 74; go_loud (refine (pnum_any g (g + 1) gv (P4) (some ⟨W4.heap.size, 0, none⟩) 4 4 [t.unit, t.window, t.chain, (rn : Int)] (W4.alloc (.cells #[.int .i64 t.unit, .int .i64 t.window, .int .i64 t.chain, .int .i64 (rn : Int)] 3)) (HG4.out.alloc _).wr (HG4.out.alloc _).sz (HG4.out.alloc _).vb HG4.out.gg (sl_new (c := icod) W4 #[.int .i64 t.unit, .int .i64 t.window, .int .i64 t.chain, .int .i64 (rn : Int)] 3 [t.unit, t.window, t.chain, (rn : Int)] 4 rfl (by unfold maxLen; omega) rfl) (slk_new W4 g (g + 1) #[.int .i64 t.unit, .int .i64 t.window, .int .i64 t.chain, .int .i64 (rn : Int)] 3 (by decide) HG4.out.sz) (by intro yy hyy; simp only [List.mem_cons, List.not_mem_nil, or_false] at hyy; omega) (by omega) (by have := HG4.out.len; omega)).mono ?_); rintro e W5 ⟨⟨uW5, rfl⟩, hw, ht⟩; have HG5 := Lib.hid ((HG4.out.alloc (.cells #[.int .i64 t.unit, .int .i64 t.window, .int .i64 t.chain, .int .i64 (rn : Int)] 3)).step ht hw (20 + 20 * bn + 10 * 3 + 10 * sn + 10 * 4) (pnum_len3 HG4.out.len (ys := [t.unit, t.window, t.chain, (rn : Int)]) (by intro yy hyy; simp only [List.mem_cons, List.not_mem_nil, or_false] at hyy; omega) (by simp)) (by omega)); clear hw ht)
        clear c5 c6 c7 c8
        obtain ⟨-, -, -, -, -, -, -, -, -, c8⟩ := TarBox.cells HG5.out.bx
        obtain ⟨P5, hP5⟩ : ∃ P, P4 ++ [t.unit, t.window, t.chain, (rn : Int)].flatMap enI = P := ⟨_, rfl⟩
        have HP5 := Lib.hid hP5
        rw [hP5] at HG5
        clear hP5 HG4
        obtain ⟨M, hM⟩ : ∃ M, 20 + 20 * bn + 10 * 3 + 10 * sn + 10 * 4 = M := ⟨_, rfl⟩
        rw [hM] at HG5
        have hM9 : M ≤ 3000 := by omega
        clear hM
        go_upto_region 15 with fail
        clear c8
        go_loopw [68] (fun vj wr => ∃ j : Nat, vj = .int .i64 ((j : Nat) : Int) ∧ j ≤ rn ∧ Hid (PP w t ⟨ba, bn, bc⟩ ⟨sa, sn, sc⟩ ⟨ra, rn, rc⟩ g gv (P5 ++ (t.rungs.take j).flatMap enP) (M + 20 * j) wr)) (fun vj _ => rn - (intOf vj).toNat)
        case atStart => exact ⟨0, rfl, Nat.zero_le _, by have := HG5.out; show PP _ _ _ _ _ _ _ _ _ _; simpa using this⟩
        case round =>
          obtain ⟨j, rfl, hj, HGJ⟩ := hrel
          by_cases hlt : j < rn
          · have hjj : (j : Int) < (rn : Int) := by omega
            obtain ⟨b, off, r, e1, hbl, hr, s0, s1⟩ := pair_at (HGJ.out.inn.below HGJ.out.bl).r hlt
            replace e1 : ra = some ⟨b, off, none⟩ := e1
            subst e1
            have hrb := HF.out.rungs r (List.mem_of_getElem? hr)
            obtain ⟨rx, ry⟩ := r
            simp only [] at s0 s1 hrb
            obtain ⟨hx0, hx1, hy0, hy1⟩ := hrb
            have HFT := Lib.hid (flat_take enP hr)
            clear hr
            have HGA := Lib.hid (HGJ.out.alloc (.cells #[.int .i64 rx, .int .i64 ry] 114))
            have HBXA := Lib.hid (box_new wr (.cells #[.int .i64 rx, .int .i64 ry] 114))
            have hgb : g < wr.heap.size := HGJ.out.sz
            go_upto_region 17 with fail
            obtain ⟨V, hV⟩ : ∃ V, wr.alloc (.cells #[.int .i64 rx, .int .i64 ry] 114) = V := ⟨_, rfl⟩
            obtain ⟨y, hy⟩ : ∃ y, wr.heap.size = y := ⟨_, rfl⟩
            rw [hV] at HGA HBXA ⊢
            rw [hy] at HBXA hgb ⊢
            clear hV hy s0 s1 hbl
            have t0 := (box_cell HBXA.out 0).1
            have t1 := (box_cell HBXA.out 1).1
            replace t0 : V.cell? ⟨y, 0, none⟩ = some (.int .i64 rx) := t0
            replace t1 : V.cell? ⟨y, 1, none⟩ = some (.int .i64 ry) := t1
            obtain ⟨xs, hxs⟩ : ∃ xs, P5 ++ (t.rungs.take j).flatMap enP = xs := ⟨_, rfl⟩
            rw [hxs] at HGA
            have HXS := Lib.hid hxs
            clear hxs
            have hj16 : j ≤ 16 := by omega
            go_upto_region 18 with (go_at_call 74; go_loud (refine (pnum_any g (g + 1) gv (xs) (some ⟨V.heap.size, 0, none⟩) 2 2 [rx, ry] (V.alloc (.cells #[.int .i64 rx, .int .i64 ry] 3)) (HGA.out.alloc _).wr (HGA.out.alloc _).sz (HGA.out.alloc _).vb HGA.out.gg (sl_new (c := icod) V #[.int .i64 rx, .int .i64 ry] 3 [rx, ry] 2 rfl (by unfold maxLen; omega) rfl) (slk_new V g (g + 1) #[.int .i64 rx, .int .i64 ry] 3 (by decide) HGA.out.sz) (by intro yy hyy; simp only [List.mem_cons, List.not_mem_nil, or_false] at hyy; omega) (by omega) (by have := HGA.out.len; omega)).mono ?_); rintro e W2 ⟨⟨uW2, rfl⟩, hw, ht⟩; have HG2 := Lib.hid ((HGA.out.alloc (.cells #[.int .i64 rx, .int .i64 ry] 3)).step ht hw (M + 20 * (j + 1)) (by have := pnum_len3 HGA.out.len (ys := [rx, ry]) (n := 2) (by intro yy hyy; simp only [List.mem_cons, List.not_mem_nil, or_false] at hyy; omega) (by simp); omega) (by omega)); clear hw ht)
            clear t0 t1
            have HFE : Hid (P5 ++ (t.rungs.take (j + 1)).flatMap enP = xs ++ [rx, ry].flatMap enI) := by
              show _ = _
              rw [HFT.out, ← List.append_assoc, HXS.out, ← enP_two]
            go_wp2_with fail
            go_roundw
            case rel => exact ⟨j + 1, by go_num, by omega, by rw [HFE.out]; exact HG2.out⟩
            case measure => simp [intOf]; omega
          · have hje : rn = j := by omega
            subst hje
            have hjj : ¬ (rn : Int) < (rn : Int) := by omega
            have htk : t.rungs.take rn = t.rungs := List.take_of_length_le (by rw [← HRN.out]; exact Nat.le_refl _)
            rw [htk] at HGJ
            clear htk
            have HPN : Hid (P5 ++ t.rungs.flatMap enP = putTar t) := by
              show _ = _
              rw [← HP5.out, ← HP4.out, ← HP3.out, ← HP2.out, ← HP1.out, HBN.out, HSN.out, HRN.out]
              unfold putTar
              simp [enI]
            rw [HPN.out] at HGJ
            have HBT := Lib.hid (putTar_byt HF.out)
            have HTL := Lib.hid (putTar_len HF.out)
            have hvc := (box_cell HGJ.out.vb 0).1
            replace hvc : wr.cell? ⟨gv, 0, none⟩ = some (.pointer (some ⟨g, 0, none⟩)) := hvc
            go_wp2_with (first
              | (go_at_call 58; go_loud (refine (wout_any g (g + 1) (putTar t) wr HGJ.out.wr (by have := HTL.out; omega)).mono ?_); rintro e W7 ⟨v7, rfl, ho7, hb7⟩; obtain ⟨a7, c7, rfl, hsl7, -⟩ := ho7.slice; have HS7 := Lib.hid hsl7; have HB7 := Lib.hid (HGJ.out.bl.trans (hb7.mono HGJ.out.bl.size)); clear ho7 hb7 hsl7)
              | (go_at_call 75; go_loud (refine (fframe_any 4 (by decide) a7 _ c7 (putTar t) W7 HS7.out HBT.out (by have := HTL.out; omega)).mono ?_); rintro e W8 ⟨v8, rfl, ho8, hb8⟩; have HO8 := Lib.hid ho8; have HB8 := Lib.hid (HB7.out.trans (hb8.mono HB7.out.size)); clear ho8 hb8))
            go_ret2
            exact ⟨HB8.out, (fun q => by rw [HOK.out] at q; cases q), fun _ => ⟨_, rfl, HO8.out.lower HB7.out.size⟩⟩
end Go.Proofs.Ytbdkhgenkekioaa.Pb
