/- Fields: the writer, walked. -/
/- Frames, put: walked. -/
import Derived.Test.YtbdkhgenkekioaaWiH
import Derived.Test.YtbdkhgenkekioaaWiE
import Derived.Test.YtbdkhgenkekioaaWiD
import Derived.Test.YtbdkhgenkekioaaBase4
namespace Go.Proofs.Ytbdkhgenkekioaa.Wi
open Go.RowKit Go.V Go.Proofs
open Go.Proofs.Ytbdkhgenkekioaa.Ne (box_alloc box_new box_cell box_below box_lt)

/-- A writer: its box, what it wrote. -/
def Wr (w : World) (g B : Nat) (xs : List Int) : Prop := g < B ∧ ∃ v, w.heap[g]? = some (.cells #[v] 91 (0, 0)) ∧ V.Own 5 bcod B w v xs
/-- Only the writer's own blocks change. -/
structure WrTo (g B : Nat) (w w' : World) : Prop where
  os : w'.os = w.os
  tape : w'.tape = w.tape
  output : w'.output = w.output
  size : w.heap.size ≤ w'.heap.size
  block : ∀ q (ob : Obj), w.heap[q]? = some ob → q ≠ g → (q < B ∨ ∀ cur fr, ob ≠ .cells cur 5 fr) → w'.heap[q]? = some ob
theorem WrTo.refl (g B : Nat) (w : World) : WrTo g B w w := ⟨rfl, rfl, rfl, Nat.le_refl _, fun _ _ h _ _ => h⟩
theorem WrTo.trans {g B : Nat} {w w1 w2 : World} (h : WrTo g B w w1) (k : WrTo g B w1 w2) : WrTo g B w w2 :=
  ⟨k.os.trans h.os, k.tape.trans h.tape, k.output.trans h.output, Nat.le_trans h.size k.size, fun q ob a b c => k.block q ob (h.block q ob a b c) b c⟩
theorem WrTo.below {g B : Nat} {w w' : World} (h : WrTo g B w w') (hg : g ≤ w.heap.size) (hB : g ≤ B) : Below g w w' :=
  ⟨h.os, h.tape, h.output, h.size, fun q hq => by
    have hl : q < w.heap.size := by omega
    rw [h.block q _ (Array.getElem?_eq_getElem hl) (by omega) (.inl (by omega)), Array.getElem?_eq_getElem hl]⟩
theorem WrTo.of_below {g B : Nat} {w w' : World} (h : Below w.heap.size w w') : WrTo g B w w' :=
  ⟨h.os, h.tape, h.output, h.size, fun q _ a _ _ => (h.block q (box_lt a)).trans a⟩
theorem Wr.below {g B : Nat} {w w' : World} {xs : List Int} (h : Wr w g B xs) (hb : Below w.heap.size w w') : Wr w' g B xs := by
  obtain ⟨h1, v, h2, h3⟩ := h
  exact ⟨h1, v, (hb.block g (box_lt h2)).trans h2, h3.below hb⟩
theorem own_not {B : Nat} {w : World} {v : Value} {xs : List Int} {q : Nat} {ob : Obj} (h : V.Own 5 bcod B w v xs) (hq : w.heap[q]? = some ob) (hn : q < B ∨ ∀ cur fr, ob ≠ .cells cur 5 fr) : some q ≠ v.ownBlock := by
  intro e
  obtain ⟨h1, h2⟩ := id h
  rcases h2 with ⟨rfl, -⟩ | ⟨g, cap, cur, rfl, hb, hg, -⟩
  · cases e
  · have e1 : q = g := Option.some.inj e
    subst e1
    rcases hn with hn | hn
    · omega
    · exact hn cur (0, 0) (Option.some.inj (hq.symm.trans hg))
theorem WrTo.put {g B : Nat} {w w1 : World} {v v1 : Value} {xs : List Int} (ho : V.Own 5 bcod B w v xs) (hg : w.grownBy w1 v.ownBlock) : WrTo g B w (w1.setCell ⟨g, 0, none⟩ v1) :=
  ⟨hg.os, hg.tape, hg.output, by simpa using hg.size, fun q ob a b c => by
    rw [heap_setCell_other w1 ⟨g, 0, none⟩ q v1 b, hg.block q (box_lt a) (own_not ho a c)]; exact a⟩
theorem own_set_lt {B : Nat} {w : World} {xs : List Int} {v u : Value} {p i : Nat} (h : V.Own 5 bcod B w v xs) (hp : p < B) : V.Own 5 bcod B (w.setCell ⟨p, i, none⟩ u) v xs :=
  h.kept (row := some p) ⟨rfl, rfl, rfl, by simp, fun k _ hk => heap_setCell_other _ ⟨p, i, none⟩ k u (fun e => hk (by simp [e]))⟩ (.inr (fun e => by have := (World.ownsRow.lt h p e).1; omega))
theorem Wr.new (w : World) : Wr (w.alloc (.cells #[.slice none 0 0] 91)) w.heap.size (w.heap.size + 1) [] :=
  ⟨by omega, _, box_new w _, Own.nil⟩

set_option maxHeartbeats 1000000 in
theorem wput_any (g B : Nat) (xs : List Int) (a : Option Addr) (n cap : Nat) (ys : List Int) (w : World) (h : Wr w g B xs) (hB : B ≤ w.heap.size) (hs : Sl bcod w a n cap ys) (hm : xs.length + n ≤ 1000000000) :
    Calls Try.prog 98 #[.pointer (some ⟨g, 0, none⟩), .slice a n cap] w fun e w' => (∃ u, e = .returned u) ∧ Wr w' g B (xs ++ ys) ∧ WrTo g B w w' := by
  obtain ⟨hgB, v, hb, ho⟩ := h
  have HO := Lib.hid ho
  have HBX := Lib.hid hb
  have hc := (box_cell hb 0).1
  have hfz := (box_cell hb 0).2
  replace hc : w.cell? ⟨g, 0, none⟩ = some v := hc
  have HM1 : Hid (xs.length + n ≤ maxLen) := by show _ ≤ _; unfold maxLen; omega
  have HM2 : Hid ((xs.length + n) * 1 ≤ 140737488355328) := by show _ ≤ _; omega
  have HS := Lib.hid hs
  clear hb ho hs
  go_enter Try.func98, Try.ntmps98
  go_wp2_with (at_builtin; go_loud (refine wpList_app eltB rfl (.tmp 10) (.tmp 11) rfl (base := B) v xs rfl HO.out a n cap ys rfl HS.out HM1.out HM2.out hB ?_); intro v1 w1 ho1 hg1; obtain ⟨a1, c1, rfl, -⟩ := ho1.slice; have hbx1 := (hg1.block g (box_lt HBX.out) (own_not HO.out HBX.out (.inl hgB))).trans HBX.out; have HBX1 := Lib.hid hbx1; have hc1 := (box_cell hbx1 0).1; have hfz1 := (box_cell hbx1 0).2; replace hfz1 : w1.frozen? ⟨g, 0, none⟩ = false := hfz1; replace hc1 : w1.cell? ⟨g, 0, none⟩ = some v := hc1; have HO1 := Lib.hid ho1; have HG1 := Lib.hid hg1; clear ho1 hg1 hbx1)
  refine bodyPost_end (results_none rfl _ _ _) rfl ?_
  exact ⟨⟨_, rfl⟩, ⟨hgB, _, heap_setCell_same w1 g 0 _ _ _ HBX1.out, own_set_lt (by have := HO1.out; rwa [List.length_append] at this) hgB⟩, WrTo.put HO.out HG1.out⟩

set_option maxHeartbeats 1000000 in
theorem wnum_any (g B : Nat) (xs : List Int) (k : Int) (w : World) (h : Wr w g B xs) (hB : B ≤ w.heap.size) (h0 : 0 ≤ k) (h1 : k < 9223372036854775808) (hm : xs.length ≤ 900000000) :
    Calls Try.prog 55 #[.pointer (some ⟨g, 0, none⟩), .int .i64 k] w fun e w' => (∃ u, e = .returned u) ∧ Wr w' g B (xs ++ putV k.toNat) ∧ WrTo g B w w' := by
  obtain ⟨n, hn⟩ : ∃ n : Nat, k = n := ⟨k.toNat, by omega⟩
  subst hn
  rw [show ((n : Nat) : Int).toNat = n from rfl]
  have hn64 : n < 18446744073709551616 := by omega
  have HPL : Hid (xs.length + (putV n).length ≤ 1000000000) := by
    have h2 : n < 128 ^ 10 := Nat.lt_of_lt_of_le hn64 (by decide)
    have := putV_len 10 n h2 (by omega)
    show _ ≤ _
    omega
  have hmx : max (n : Int) 0 = (n : Int) := by omega
  have hmx2 : ¬ (n : Int) < 0 := by omega
  go_enter Try.func55, Try.ntmps55
  go_wp2_with (first
    | (go_at_call 99; go_loud (refine (vput_any n _ hn64).mono ?_); rintro e w1 ⟨v, rfl, ho, hb⟩; obtain ⟨a1, c1, rfl, hsl, -⟩ := ho.slice; have HSL := Lib.hid hsl; have HB1 := Lib.hid hb; clear ho hb hsl)
    | (go_at_call 98; go_loud (refine (wput_any g B xs a1 _ c1 (putV n) w1 (h.below HB1.out) (by have := HB1.out.size; omega) HSL.out HPL.out).mono ?_); rintro e w2 ⟨⟨u, rfl⟩, hw, ht⟩; have HW := Lib.hid hw; have HT := Lib.hid ht; clear hw ht))
  refine bodyPost_end (results_none rfl _ _ _) rfl ?_
  exact ⟨⟨_, rfl⟩, HW.out, (WrTo.of_below HB1.out).trans HT.out⟩

theorem add_zero_addr (b off j : Nat) : (⟨b, off, none⟩ : Addr).add j = ⟨b, off + j, none⟩ := by
  unfold Addr.add; split <;> simp_all

set_option maxHeartbeats 1000000 in
theorem bclone_any (a : Option Addr) (n cap : Nat) (xs : List Int) (w : World) (hn : n ≤ 1000000000) (h : Sl bcod w a n cap xs) :
    Calls Try.prog 101 #[.slice a n cap] w fun e w' => ∃ v, e = .returned v ∧ V.Own 5 bcod w.heap.size w' v xs ∧ Below w.heap.size w w' := by
  cases a with
  | none =>
    obtain ⟨rfl, rfl⟩ := h.hnil rfl
    have hx : xs = [] := by have := h.hlen; exact List.eq_nil_of_length_eq_zero this.symm
    subst hx
    have hq := fun w a n c => Lib.run_eql_slice_nil (P := Try.prog) w 47 5 a n c 0 0 Try.underlying47
    go_enter Try.func101, Try.ntmps101
    go_wp2
    go_ret
    exact ⟨_, rfl, World.ownsRow_nil _ _ _ _, Below.refl _ _⟩
  | some d =>
    have HS := Lib.hid h
    have HM1 : Hid (([] : List Int).length + n ≤ maxLen) := by show _ ≤ _; unfold maxLen; simp; omega
    have HM2 : Hid ((([] : List Int).length + n) * 1 ≤ 140737488355328) := by show _ ≤ _; simp; omega
    clear h
    have hq := fun w a n c => Lib.run_eql_slice_nil (P := Try.prog) w 47 5 a n c 0 0 Try.underlying47
    go_enter Try.func101, Try.ntmps101
    go_wp2_with (at_builtin; go_loud (refine wpList_app eltB rfl (.tmp 5) (.tmp 6) rfl (base := w.heap.size) _ [] rfl (own_new (c := bcod) w #[] 5 w.heap.size [] 0 rfl (Nat.le_refl _) (by unfold maxLen; omega) rfl) _ n cap xs rfl (HS.out.below ((Below.refl _ _).alloc (Nat.le_refl _) _)) HM1.out HM2.out (by simp) ?_); intro v1 w1 ho hg; have HO1 := Lib.hid ho; have HG1 := Lib.hid hg; clear ho hg)
    go_ret
    exact ⟨_, rfl, HO1.out, ((Below.refl _ _).alloc (Nat.le_refl _) _).trans (own_below (own_new (c := bcod) w #[] 5 w.heap.size [] 0 rfl (Nat.le_refl _) (by unfold maxLen; omega) rfl) HG1.out (by simp))⟩

set_option maxHeartbeats 1000000 in
theorem wout_any (g B : Nat) (xs : List Int) (w : World) (h : Wr w g B xs) (hm : xs.length ≤ 1000000000) :
    Calls Try.prog 58 #[.pointer (some ⟨g, 0, none⟩)] w fun e w' => ∃ v, e = .returned v ∧ V.Own 5 bcod w.heap.size w' v xs ∧ Below w.heap.size w w' := by
  obtain ⟨hgB, v, hb, ho⟩ := h
  obtain ⟨a1, c1, rfl, hsl, -⟩ := ho.slice
  have hc := (box_cell hb 0).1
  replace hc : w.cell? ⟨g, 0, none⟩ = some (.slice a1 xs.length c1) := hc
  have HS := Lib.hid hsl
  clear hb ho hsl
  go_enter Try.func58, Try.ntmps58
  go_wp2_with (go_at_call 101; go_loud (refine (bclone_any a1 _ c1 xs w hm HS.out).mono ?_); rintro e w1 ⟨v1, rfl, ho1, hb1⟩; have HO := Lib.hid ho1; have HB := Lib.hid hb1; clear ho1 hb1)
  go_ret
  exact ⟨_, rfl, HO.out, HB.out⟩
end Go.Proofs.Ytbdkhgenkekioaa.Wi

namespace Go.Proofs.Ytbdkhgenkekioaa.Wi
open Go.RowKit Go.V Go.Proofs
open Go.Proofs.Ytbdkhgenkekioaa.Ne (box_alloc box_new box_cell box_below box_lt)

set_option maxHeartbeats 4000000 in
theorem rframe_any (kd : Int) (hk : 0 ≤ kd ∧ kd < 256) (a : Option Addr) (n cap : Nat) (l : List Int) (w : World) (h : Sl bcod w a n cap l) (hl : Byt l) (hn : n ≤ 1048576) :
    Calls Try.prog 81 #[.int .u8 kd, .slice a n cap] w fun e w' => ∃ v, e = .returned v ∧ V.Own 5 bcod w.heap.size w' v (frameE kd l) ∧ Below w.heap.size w w' := by
  have hln : n = l.length := h.hlen
  have HS := Lib.hid h
  have hn64 : n < 18446744073709551616 := by omega
  have hpl : (putV n).length ≤ 10 := putV_len 10 n (Nat.lt_of_lt_of_le hn64 (by decide)) (by omega)
  have HM1 : Hid (([199, kd] : List Int).length + (putV n).length ≤ maxLen) := by show _ ≤ _; unfold maxLen; simp; omega
  have HM2 : Hid ((([199, kd] : List Int).length + (putV n).length) * 1 ≤ 140737488355328) := by show _ ≤ _; simp; omega
  have HM3 : Hid (([199, kd] ++ putV n : List Int).length + n ≤ maxLen) := by show _ ≤ _; unfold maxLen; simp; omega
  have HM4 : Hid ((([199, kd] ++ putV n : List Int).length + n) * 1 ≤ 140737488355328) := by show _ ≤ _; simp; omega
  have HM5 : Hid (([199, kd] ++ putV n ++ l : List Int).length + 4 ≤ maxLen) := by show _ ≤ _; unfold maxLen; simp; omega
  have HM6 : Hid ((([199, kd] ++ putV n ++ l : List Int).length + 4) * 1 ≤ 140737488355328) := by show _ ≤ _; simp; omega
  have HM7 : Hid (([199, kd] ++ putV n ++ l : List Int).length ≤ 1000000000) := by show _ ≤ _; simp; omega
  have HHE : Hid ([199, kd] ++ putV n ++ l = frameH kd l) := by show _ = _; unfold frameH; rw [← hln]; rfl
  have HBY : Hid (Byt (frameH kd l)) := by
    show Byt _
    unfold frameH
    rw [← hln]
    intro x hx
    rcases List.mem_append.1 hx with q | q
    · rcases List.mem_cons.1 q with q | q
      · omega
      · rcases List.mem_cons.1 q with q | q
        · omega
        · exact putV_byte 10 n (Nat.lt_of_lt_of_le hn64 (by decide)) x q
    · exact hl x q
  have HCL : Hid (crcE (frameH kd l) < 4294967296) := by show _ < _; unfold crcE; omega
  have H0 : Hid (V.Own 5 bcod w.heap.size (w.alloc (.cells #[.int .u8 199, .int .u8 kd] 5)) (.slice (some ⟨w.heap.size, 0, none⟩) 2 2) [199, kd]) := own_new (c := bcod) w #[.int .u8 199, .int .u8 kd] 5 w.heap.size [199, kd] 2 rfl (Nat.le_refl _) (by unfold maxLen; omega) rfl
  have HB0 : Hid (Below w.heap.size w (w.alloc (.cells #[.int .u8 199, .int .u8 kd] 5))) := (Below.refl _ _).alloc (Nat.le_refl _) _
  clear h hl hln hpl
  go_enter Try.func81, Try.ntmps81
  go_wp2_with (first
    | (go_at_call 102; go_loud (refine (rput_any n _ hn64).mono ?_); rintro e w1 ⟨v1, rfl, ho, hb⟩; obtain ⟨a1, c1, rfl, hsl, -⟩ := ho.slice; have HSL := Lib.hid hsl; have HB1 := Lib.hid (HB0.out.trans (hb.mono HB0.out.size)); have HO1 := Lib.hid (H0.out.below hb); clear ho hb hsl)
    | (at_builtin; refine wpList_app eltB rfl (.tmp 8) (.tmp 12) rfl (base := w.heap.size) _ [199, kd] rfl HO1.out _ _ c1 (putV n) rfl HSL.out HM1.out HM2.out HB1.out.size ?_; intro v2 w2 ho hg; have HO2 := Lib.hid ho; have HB2 := Lib.hid (HB1.out.trans (own_below HO1.out hg HB1.out.size)); clear ho hg)
    | (at_builtin; refine wpList_app eltB rfl (.tmp 14) (.tmp 15) rfl (base := w.heap.size) v2 ([199, kd] ++ putV n) rfl HO2.out a n cap l rfl (HS.out.below HB2.out) HM3.out HM4.out HB2.out.size ?_; intro v3 w3 ho hg; have HO3 := Lib.hid ho; have HB3 := Lib.hid (HB2.out.trans (own_below HO2.out hg HB2.out.size)); obtain ⟨a3, c3, rfl, hsl3, -⟩ := ho.slice; have HSL3 := Lib.hid hsl3; clear ho hg hsl3; rw [HHE.out] at HO3 HSL3 HM5 HM6 HM7; simp only [HHE.out])
    | (go_at_call 123; go_loud (refine (rsum_any a3 _ c3 (frameH kd l) w3 HSL3.out HBY.out HM7.out).mono ?_); rintro e w4 ⟨rfl, hb4⟩; have HO4 := Lib.hid (HO3.out.below hb4); have HB4 := Lib.hid (HB3.out.trans (hb4.mono HB3.out.size)); clear hb4)
    | (go_at_call 122; go_loud (refine (rbytes_any (crcE (frameH kd l)) w4 HCL.out).mono ?_); rintro e w5 ⟨v5, rfl, ho5, hb5⟩; obtain ⟨a5, c5, rfl, hsl5, -⟩ := ho5.slice; have HSL5 := Lib.hid hsl5; have HO5 := Lib.hid (HO4.out.below hb5); have HB5 := Lib.hid (HB4.out.trans (hb5.mono HB4.out.size)); clear ho5 hb5 hsl5)
    | (at_builtin; go_loud (refine wpList_app eltB rfl (.tmp 17) (.tmp 20) rfl (base := w.heap.size) _ (frameH kd l) rfl HO5.out a5 _ c5 (sumB (crcE (frameH kd l))) rfl HSL5.out HM5.out HM6.out HB5.out.size ?_); intro v6 w6 ho hg; have HO6 := Lib.hid ho; have HB6 := Lib.hid (HB5.out.trans (own_below HO5.out hg HB5.out.size)); clear ho hg))
  go_ret
  exact ⟨_, rfl, HO6.out, HB6.out⟩

set_option maxHeartbeats 4000000 in
theorem fframe_any (kd : Int) (hk : 0 ≤ kd ∧ kd < 256) (a : Option Addr) (n cap : Nat) (l : List Int) (w : World) (h : Sl bcod w a n cap l) (hl : Byt l) (hn : n ≤ 1048576) :
    Calls Try.prog 75 #[.int .u8 kd, .slice a n cap] w fun e w' => ∃ v, e = .returned (.tuple #[v, .int .i64 0]) ∧ V.Own 5 bcod w.heap.size w' v (frameE kd l) ∧ Below w.heap.size w w' := by
  have hln : n = l.length := h.hlen
  have HS := Lib.hid h
  have hn64 : n < 18446744073709551616 := by omega
  have hpl : (putV n).length ≤ 10 := putV_len 10 n (Nat.lt_of_lt_of_le hn64 (by decide)) (by omega)
  have HM1 : Hid (([199, kd] : List Int).length + (putV n).length ≤ maxLen) := by show _ ≤ _; unfold maxLen; simp; omega
  have HM2 : Hid ((([199, kd] : List Int).length + (putV n).length) * 1 ≤ 140737488355328) := by show _ ≤ _; simp; omega
  have HM3 : Hid (([199, kd] ++ putV n : List Int).length + n ≤ maxLen) := by show _ ≤ _; unfold maxLen; simp; omega
  have HM4 : Hid ((([199, kd] ++ putV n : List Int).length + n) * 1 ≤ 140737488355328) := by show _ ≤ _; simp; omega
  have HM5 : Hid (([199, kd] ++ putV n ++ l : List Int).length + 4 ≤ maxLen) := by show _ ≤ _; unfold maxLen; simp; omega
  have HM6 : Hid ((([199, kd] ++ putV n ++ l : List Int).length + 4) * 1 ≤ 140737488355328) := by show _ ≤ _; simp; omega
  have HM7 : Hid (([199, kd] ++ putV n ++ l : List Int).length ≤ 1000000000) := by show _ ≤ _; simp; omega
  have HHE : Hid ([199, kd] ++ putV n ++ l = frameH kd l) := by show _ = _; unfold frameH; rw [← hln]; rfl
  have HBY : Hid (Byt (frameH kd l)) := by
    show Byt _
    unfold frameH
    rw [← hln]
    intro x hx
    rcases List.mem_append.1 hx with q | q
    · rcases List.mem_cons.1 q with q | q
      · omega
      · rcases List.mem_cons.1 q with q | q
        · omega
        · exact putV_byte 10 n (Nat.lt_of_lt_of_le hn64 (by decide)) x q
    · exact hl x q
  have HCL : Hid (crcE (frameH kd l) < 4294967296) := by show _ < _; unfold crcE; omega
  have H0 : Hid (V.Own 5 bcod w.heap.size (w.alloc (.cells #[.int .u8 199, .int .u8 kd] 5)) (.slice (some ⟨w.heap.size, 0, none⟩) 2 2) [199, kd]) := own_new (c := bcod) w #[.int .u8 199, .int .u8 kd] 5 w.heap.size [199, kd] 2 rfl (Nat.le_refl _) (by unfold maxLen; omega) rfl
  have HB0 : Hid (Below w.heap.size w (w.alloc (.cells #[.int .u8 199, .int .u8 kd] 5))) := (Below.refl _ _).alloc (Nat.le_refl _) _
  clear h hl hln hpl
  have hnb : ¬ (1048576 : Int) < (n : Int) := by omega
  go_enter Try.func75, Try.ntmps75
  go_wp2_with (first
    | (go_at_call 99; go_loud (refine (vput_any n _ hn64).mono ?_); rintro e w1 ⟨v1, rfl, ho, hb⟩; obtain ⟨a1, c1, rfl, hsl, -⟩ := ho.slice; have HSL := Lib.hid hsl; have HB1 := Lib.hid (HB0.out.trans (hb.mono HB0.out.size)); have HO1 := Lib.hid (H0.out.below hb); clear ho hb hsl)
    | (at_builtin; refine wpList_app eltB rfl (.tmp 11) (.tmp 15) rfl (base := w.heap.size) _ [199, kd] rfl HO1.out _ _ c1 (putV n) rfl HSL.out HM1.out HM2.out HB1.out.size ?_; intro v2 w2 ho hg; have HO2 := Lib.hid ho; have HB2 := Lib.hid (HB1.out.trans (own_below HO1.out hg HB1.out.size)); clear ho hg)
    | (at_builtin; refine wpList_app eltB rfl (.tmp 17) (.tmp 18) rfl (base := w.heap.size) v2 ([199, kd] ++ putV n) rfl HO2.out a n cap l rfl (HS.out.below HB2.out) HM3.out HM4.out HB2.out.size ?_; intro v3 w3 ho hg; have HO3 := Lib.hid ho; have HB3 := Lib.hid (HB2.out.trans (own_below HO2.out hg HB2.out.size)); obtain ⟨a3, c3, rfl, hsl3, -⟩ := ho.slice; have HSL3 := Lib.hid hsl3; clear ho hg hsl3; rw [HHE.out] at HO3 HSL3 HM5 HM6 HM7; simp only [HHE.out])
    | (go_at_call 120; go_loud (refine (csum_any a3 _ c3 (frameH kd l) w3 HSL3.out HBY.out HM7.out).mono ?_); rintro e w4 ⟨rfl, hb4⟩; have HO4 := Lib.hid (HO3.out.below hb4); have HB4 := Lib.hid (HB3.out.trans (hb4.mono HB3.out.size)); clear hb4)
    | (go_at_call 119; go_loud (refine (cbytes_any (crcE (frameH kd l)) w4 HCL.out).mono ?_); rintro e w5 ⟨v5, rfl, ho5, hb5⟩; obtain ⟨a5, c5, rfl, hsl5, -⟩ := ho5.slice; have HSL5 := Lib.hid hsl5; have HO5 := Lib.hid (HO4.out.below hb5); have HB5 := Lib.hid (HB4.out.trans (hb5.mono HB4.out.size)); clear ho5 hb5 hsl5)
    | (at_builtin; go_loud (refine wpList_app eltB rfl (.tmp 20) (.tmp 23) rfl (base := w.heap.size) _ (frameH kd l) rfl HO5.out a5 _ c5 (sumB (crcE (frameH kd l))) rfl HSL5.out HM5.out HM6.out HB5.out.size ?_); intro v6 w6 ho hg; have HO6 := Lib.hid ho; have HB6 := Lib.hid (HB5.out.trans (own_below HO5.out hg HB5.out.size)); clear ho hg))
  go_ret2
  exact ⟨_, rfl, HO6.out, HB6.out⟩
theorem putV_10 (n : Nat) (h : n < 18446744073709551616) : (putV n).length ≤ 10 := putV_len 10 n (Nat.lt_of_lt_of_le h (by decide)) (by omega)
theorem flat_take {α : Type} (f : α → List Int) {l : List α} {i : Nat} {r : α} (h : l[i]? = some r) : (l.take (i + 1)).flatMap f = (l.take i).flatMap f ++ f r := by
  rw [take_at h, List.flatMap_append]; simp

theorem putV_byt (n : Nat) (h : n < 18446744073709551616) : Byt (putV n) := putV_byte 10 n (Nat.lt_of_lt_of_le h (by decide))
theorem flat_byt {α : Type} (f : α → List Int) (l : List α) (h : ∀ x ∈ l, Byt (f x)) : Byt (l.flatMap f) := fun y hy => by
  obtain ⟨x, hx, hxy⟩ := List.mem_flatMap.1 hy
  exact h x hx y hxy

theorem sumB_byt (n : Nat) : n < 4294967296 → Byt (sumB n) := fun h x hx => by
  simp only [sumB, List.mem_cons, List.not_mem_nil, or_false] at hx
  omega

theorem results_tmp4 {fn : Func} {t u v z : Tmp} (h : fn.results = #[.tmp t, .tmp u, .tmp v, .tmp z]) (tmps : Array Value) (P : Program) (w : World) :
    (results fn tmps).run P w = .ok (.tuple #[tmps.getD t undef, tmps.getD u undef, tmps.getD v undef, tmps.getD z undef]) w := by
  simp [results, h]

theorem sum_le {α : Type} (f : α → List Int) (c : Nat) : ∀ l : List α, (∀ x ∈ l, (f x).length ≤ c) → (l.flatMap f).length ≤ l.length * c
  | [], _ => by simp
  | x :: l, h => by
    have h1 := h x (by simp)
    have h2 := sum_le f c l (fun y hy => h y (by simp [hy]))
    rw [List.flatMap_cons, List.length_append, List.length_cons, Nat.add_mul]
    omega
theorem frame_byt {kd : Int} {c : List Int} (hk : 0 ≤ kd ∧ kd < 256) (hc : Byt c) (hl : c.length < 18446744073709551616) : Byt (frameE kd c) := by
  unfold frameE frameH
  refine Byt.app (Byt.app (fun x hx => ?_) hc) (sumB_byt _ (by unfold crcE; omega))
  rcases List.mem_cons.1 hx with e | e
  · omega
  rcases List.mem_cons.1 e with e | e
  · omega
  · exact putV_byt _ hl x e
theorem frame_len {kd : Int} {c : List Int} (hl : c.length ≤ 1048576) : (frameE kd c).length ≤ c.length + 16 := by
  have h1 : (putV c.length).length ≤ 10 := putV_10 _ (by omega)
  have h2 : (sumB (crcE (frameH kd c))).length = 4 := rfl
  unfold frameE
  rw [List.length_append, h2]
  unfold frameH
  simp only [List.length_append, List.length_cons]
  omega
set_option maxHeartbeats 1000000 in
theorem r3num_any (k : Int) (w : World) (h0 : 0 ≤ k) (h1 : k < 9223372036854775808) :
    Calls Try.prog 59 #[.int .i64 k] w fun e w' => ∃ v, e = .returned v ∧ V.Own 5 bcod w.heap.size w' v (putV k.toNat) ∧ Below w.heap.size w w' := by
  obtain ⟨n, hn⟩ : ∃ n : Nat, k = n := ⟨k.toNat, by omega⟩
  subst hn
  rw [show ((n : Nat) : Int).toNat = n from rfl]
  have hn64 : n < 18446744073709551616 := by omega
  have hmx2 : ¬ (n : Int) < 0 := by omega
  go_enter Try.func59, Try.ntmps59
  go_wp2_with (go_at_call 102; go_loud (refine (rput_any n _ hn64).mono ?_); rintro e w1 ⟨v, rfl, ho, hb⟩; have HO1 := Lib.hid ho; have HB1 := Lib.hid hb; clear ho hb)
  go_ret
  exact ⟨_, rfl, HO1.out, HB1.out⟩

end Go.Proofs.Ytbdkhgenkekioaa.Wi
