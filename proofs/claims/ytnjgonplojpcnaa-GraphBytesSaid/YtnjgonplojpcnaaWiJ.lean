/- Frames, put: walked. -/
import Derived.Test.YtnjgonplojpcnaaWiI
namespace Go.Proofs.Ytnjgonplojpcnaa.Wi
open Go.RowKit Go.V Go.Proofs
open Go.Proofs.Ytnjgonplojpcnaa.Ne (box_alloc box_new box_cell box_below box_lt)

set_option maxHeartbeats 4000000 in
theorem rframe_any (kd : Int) (hk : 0 ≤ kd ∧ kd < 256) (a : Option Addr) (n cap : Nat) (l : List Int) (w : World) (h : Sl bcod w a n cap l) (hl : Byt l) (hn : n ≤ 1048576) :
    Calls Try.prog 14 #[.int .u8 kd, .slice a n cap] w fun e w' => ∃ v, e = .returned v ∧ V.Own 5 bcod w.heap.size w' v (frameE kd l) ∧ Below w.heap.size w w' := by
  have hln : n = l.length := h.hlen
  have HS := Lib.hid h
  have hn64 : n < 18446744073709551616 := by omega
  have hpl : (putV n).length ≤ 10 := putV_len 10 n (Nat.lt_of_lt_of_le hn64 (by decide)) (by omega)
  have HM1 : Hid (([199, kd] : List Int).length + (putV n).length ≤ maxLen) := by show _ ≤ _; unfold maxLen; simp; omega
  have HM2 : Hid ((([199, kd] : List Int).length + (putV n).length) * 1 ≤ 140737488355328) := by show _ ≤ _; simp; omega
  have HM3 : Hid (([199, kd] ++ putV n : List Int).length + n ≤ maxLen) := by show _ ≤ _; unfold maxLen; simp; omega
  have HM4 : Hid ((([199, kd] ++ putV n : List Int).length + n) * 1 ≤ 140737488355328) := by show _ ≤ _; simp; omega
  have HM5 : Hid (([199, kd] ++ putV n ++ l : List Int).length + 4 ≤ maxLen) := by show _ ≤ _; unfold maxLen; simp; omega
  have HM6 : Hid ((([199, kd] ++ putV n ++ l : List Int).length + 4) * 1 ≤ 140737488355328) := by show _ ≤ _; simp; omega
  have HM7 : Hid (([199, kd] ++ putV n ++ l : List Int).length ≤ 1000000000) := by show _ ≤ _; simp; omega
  have HHE : Hid ([199, kd] ++ putV n ++ l = frameH kd l) := by show _ = _; unfold frameH; rw [← hln]; rfl
  have HBY : Hid (Byt (frameH kd l)) := by
    show Byt _
    unfold frameH
    rw [← hln]
    intro x hx
    rcases List.mem_append.1 hx with q | q
    · rcases List.mem_cons.1 q with q | q
      · omega
      · rcases List.mem_cons.1 q with q | q
        · omega
        · exact putV_byte 10 n (Nat.lt_of_lt_of_le hn64 (by decide)) x q
    · exact hl x q
  have HCL : Hid (crcE (frameH kd l) < 4294967296) := by show _ < _; unfold crcE; omega
  have H0 : Hid (V.Own 5 bcod w.heap.size (w.alloc (.cells #[.int .u8 199, .int .u8 kd] 5)) (.slice (some ⟨w.heap.size, 0, none⟩) 2 2) [199, kd]) := own_new (c := bcod) w #[.int .u8 199, .int .u8 kd] 5 w.heap.size [199, kd] 2 rfl (Nat.le_refl _) (by unfold maxLen; omega) rfl
  have HB0 : Hid (Below w.heap.size w (w.alloc (.cells #[.int .u8 199, .int .u8 kd] 5))) := (Below.refl _ _).alloc (Nat.le_refl _) _
  clear h hl hln hpl
  go_enter Try.func14, Try.ntmps14
  go_wp2_with (first
    | (go_at_call 43; go_loud (refine (rput_any n _ hn64).mono ?_); rintro e w1 ⟨v1, rfl, ho, hb⟩; obtain ⟨a1, c1, rfl, hsl, -⟩ := ho.slice; have HSL := Lib.hid hsl; have HB1 := Lib.hid (HB0.out.trans (hb.mono HB0.out.size)); have HO1 := Lib.hid (H0.out.below hb); clear ho hb hsl)
    | (at_builtin; refine wpList_app eltB rfl (.tmp 8) (.tmp 12) rfl (base := w.heap.size) _ [199, kd] rfl HO1.out _ _ c1 (putV n) rfl HSL.out HM1.out HM2.out HB1.out.size ?_; intro v2 w2 ho hg; have HO2 := Lib.hid ho; have HB2 := Lib.hid (HB1.out.trans (own_below HO1.out hg HB1.out.size)); clear ho hg)
    | (at_builtin; refine wpList_app eltB rfl (.tmp 14) (.tmp 15) rfl (base := w.heap.size) v2 ([199, kd] ++ putV n) rfl HO2.out a n cap l rfl (HS.out.below HB2.out) HM3.out HM4.out HB2.out.size ?_; intro v3 w3 ho hg; have HO3 := Lib.hid ho; have HB3 := Lib.hid (HB2.out.trans (own_below HO2.out hg HB2.out.size)); obtain ⟨a3, c3, rfl, hsl3, -⟩ := ho.slice; have HSL3 := Lib.hid hsl3; clear ho hg hsl3; rw [HHE.out] at HO3 HSL3 HM5 HM6 HM7; simp only [HHE.out])
    | (go_at_call 45; go_loud (refine (rsum_any a3 _ c3 (frameH kd l) w3 HSL3.out HBY.out HM7.out).mono ?_); rintro e w4 ⟨rfl, hb4⟩; have HO4 := Lib.hid (HO3.out.below hb4); have HB4 := Lib.hid (HB3.out.trans (hb4.mono HB3.out.size)); clear hb4)
    | (go_at_call 44; go_loud (refine (rbytes_any (crcE (frameH kd l)) w4 HCL.out).mono ?_); rintro e w5 ⟨v5, rfl, ho5, hb5⟩; obtain ⟨a5, c5, rfl, hsl5, -⟩ := ho5.slice; have HSL5 := Lib.hid hsl5; have HO5 := Lib.hid (HO4.out.below hb5); have HB5 := Lib.hid (HB4.out.trans (hb5.mono HB4.out.size)); clear ho5 hb5 hsl5)
    | (at_builtin; go_loud (refine wpList_app eltB rfl (.tmp 17) (.tmp 20) rfl (base := w.heap.size) _ (frameH kd l) rfl HO5.out a5 _ c5 (sumB (crcE (frameH kd l))) rfl HSL5.out HM5.out HM6.out HB5.out.size ?_); intro v6 w6 ho hg; have HO6 := Lib.hid ho; have HB6 := Lib.hid (HB5.out.trans (own_below HO5.out hg HB5.out.size)); clear ho hg))
  go_ret
  exact ⟨_, rfl, HO6.out, HB6.out⟩

set_option maxHeartbeats 4000000 in
theorem fframe_any (kd : Int) (hk : 0 ≤ kd ∧ kd < 256) (a : Option Addr) (n cap : Nat) (l : List Int) (w : World) (h : Sl bcod w a n cap l) (hl : Byt l) (hn : n ≤ 1048576) :
    Calls Try.prog 40 #[.int .u8 kd, .slice a n cap] w fun e w' => ∃ v, e = .returned (.tuple #[v, .int .i64 0]) ∧ V.Own 5 bcod w.heap.size w' v (frameE kd l) ∧ Below w.heap.size w w' := by
  have hln : n = l.length := h.hlen
  have HS := Lib.hid h
  have hn64 : n < 18446744073709551616 := by omega
  have hpl : (putV n).length ≤ 10 := putV_len 10 n (Nat.lt_of_lt_of_le hn64 (by decide)) (by omega)
  have HM1 : Hid (([199, kd] : List Int).length + (putV n).length ≤ maxLen) := by show _ ≤ _; unfold maxLen; simp; omega
  have HM2 : Hid ((([199, kd] : List Int).length + (putV n).length) * 1 ≤ 140737488355328) := by show _ ≤ _; simp; omega
  have HM3 : Hid (([199, kd] ++ putV n : List Int).length + n ≤ maxLen) := by show _ ≤ _; unfold maxLen; simp; omega
  have HM4 : Hid ((([199, kd] ++ putV n : List Int).length + n) * 1 ≤ 140737488355328) := by show _ ≤ _; simp; omega
  have HM5 : Hid (([199, kd] ++ putV n ++ l : List Int).length + 4 ≤ maxLen) := by show _ ≤ _; unfold maxLen; simp; omega
  have HM6 : Hid ((([199, kd] ++ putV n ++ l : List Int).length + 4) * 1 ≤ 140737488355328) := by show _ ≤ _; simp; omega
  have HM7 : Hid (([199, kd] ++ putV n ++ l : List Int).length ≤ 1000000000) := by show _ ≤ _; simp; omega
  have HHE : Hid ([199, kd] ++ putV n ++ l = frameH kd l) := by show _ = _; unfold frameH; rw [← hln]; rfl
  have HBY : Hid (Byt (frameH kd l)) := by
    show Byt _
    unfold frameH
    rw [← hln]
    intro x hx
    rcases List.mem_append.1 hx with q | q
    · rcases List.mem_cons.1 q with q | q
      · omega
      · rcases List.mem_cons.1 q with q | q
        · omega
        · exact putV_byte 10 n (Nat.lt_of_lt_of_le hn64 (by decide)) x q
    · exact hl x q
  have HCL : Hid (crcE (frameH kd l) < 4294967296) := by show _ < _; unfold crcE; omega
  have H0 : Hid (V.Own 5 bcod w.heap.size (w.alloc (.cells #[.int .u8 199, .int .u8 kd] 5)) (.slice (some ⟨w.heap.size, 0, none⟩) 2 2) [199, kd]) := own_new (c := bcod) w #[.int .u8 199, .int .u8 kd] 5 w.heap.size [199, kd] 2 rfl (Nat.le_refl _) (by unfold maxLen; omega) rfl
  have HB0 : Hid (Below w.heap.size w (w.alloc (.cells #[.int .u8 199, .int .u8 kd] 5))) := (Below.refl _ _).alloc (Nat.le_refl _) _
  clear h hl hln hpl
  have hnb : ¬ (1048576 : Int) < (n : Int) := by omega
  go_enter Try.func40, Try.ntmps40
  go_wp2_with (first
    | (go_at_call 73; go_loud (refine (vput_any n _ hn64).mono ?_); rintro e w1 ⟨v1, rfl, ho, hb⟩; obtain ⟨a1, c1, rfl, hsl, -⟩ := ho.slice; have HSL := Lib.hid hsl; have HB1 := Lib.hid (HB0.out.trans (hb.mono HB0.out.size)); have HO1 := Lib.hid (H0.out.below hb); clear ho hb hsl)
    | (at_builtin; refine wpList_app eltB rfl (.tmp 11) (.tmp 15) rfl (base := w.heap.size) _ [199, kd] rfl HO1.out _ _ c1 (putV n) rfl HSL.out HM1.out HM2.out HB1.out.size ?_; intro v2 w2 ho hg; have HO2 := Lib.hid ho; have HB2 := Lib.hid (HB1.out.trans (own_below HO1.out hg HB1.out.size)); clear ho hg)
    | (at_builtin; refine wpList_app eltB rfl (.tmp 17) (.tmp 18) rfl (base := w.heap.size) v2 ([199, kd] ++ putV n) rfl HO2.out a n cap l rfl (HS.out.below HB2.out) HM3.out HM4.out HB2.out.size ?_; intro v3 w3 ho hg; have HO3 := Lib.hid ho; have HB3 := Lib.hid (HB2.out.trans (own_below HO2.out hg HB2.out.size)); obtain ⟨a3, c3, rfl, hsl3, -⟩ := ho.slice; have HSL3 := Lib.hid hsl3; clear ho hg hsl3; rw [HHE.out] at HO3 HSL3 HM5 HM6 HM7; simp only [HHE.out])
    | (go_at_call 75; go_loud (refine (csum_any a3 _ c3 (frameH kd l) w3 HSL3.out HBY.out HM7.out).mono ?_); rintro e w4 ⟨rfl, hb4⟩; have HO4 := Lib.hid (HO3.out.below hb4); have HB4 := Lib.hid (HB3.out.trans (hb4.mono HB3.out.size)); clear hb4)
    | (go_at_call 74; go_loud (refine (cbytes_any (crcE (frameH kd l)) w4 HCL.out).mono ?_); rintro e w5 ⟨v5, rfl, ho5, hb5⟩; obtain ⟨a5, c5, rfl, hsl5, -⟩ := ho5.slice; have HSL5 := Lib.hid hsl5; have HO5 := Lib.hid (HO4.out.below hb5); have HB5 := Lib.hid (HB4.out.trans (hb5.mono HB4.out.size)); clear ho5 hb5 hsl5)
    | (at_builtin; go_loud (refine wpList_app eltB rfl (.tmp 20) (.tmp 23) rfl (base := w.heap.size) _ (frameH kd l) rfl HO5.out a5 _ c5 (sumB (crcE (frameH kd l))) rfl HSL5.out HM5.out HM6.out HB5.out.size ?_); intro v6 w6 ho hg; have HO6 := Lib.hid ho; have HB6 := Lib.hid (HB5.out.trans (own_below HO5.out hg HB5.out.size)); clear ho hg))
  go_ret2
  exact ⟨_, rfl, HO6.out, HB6.out⟩
end Go.Proofs.Ytnjgonplojpcnaa.Wi
