/- The checksum: the document's, walked. -/
import Derived.Test.YtnjgonplojpcnaaWiC
import Derived.Laws.BitsAllLaws
namespace Go.Proofs.Ytnjgonplojpcnaa.Wi
open Go.RowKit Go.V Go.Proofs

theorem bits_next (k : Nat) (rx : Nat × Nat) : bits (k + 1) rx = bits k (bit1 rx) := rfl
theorem crcR_take {l : List Int} {i : Nat} {r : Int} (h : l[i]? = some r) (s : Nat) : crcR (l.take (i + 1)) s = crcB (crcR (l.take i) s) r.toNat := by
  rw [take_at h, crcR_snoc]

set_option maxHeartbeats 4000000 in
theorem rsum_any (a : Option Addr) (n cap : Nat) (l : List Int) (w : World) (h : Sl bcod w a n cap l) (hl : Byt l) (hn : n ≤ 1000000000) :
    Calls Try.prog 45 #[.slice a n cap] w fun e w' => e = .returned (.int .u32 ((crcE l : Nat) : Int)) ∧ Below w.heap.size w w' := by
  have hln : n = l.length := h.hlen
  have HS := Lib.hid h
  have HLB := Lib.hid hl
  have HLN := Lib.hid hln
  clear h hl hln
  go_enter Try.func45, Try.ntmps45
  go_wp2_with fail
  go_loopw [3, 4] (fun vr vi wr => ∃ (r i : Nat), vr = .int .u32 ((r : Nat) : Int) ∧ vi = .int .i64 ((i : Nat) : Int) ∧ i ≤ n ∧ Hid (r = crcR (l.take i) 4294967295) ∧ Hid (Below w.heap.size w wr)) (fun _ vi _ => n - (intOf vi).toNat)
  case atStart => exact ⟨4294967295, 0, rfl, rfl, by omega, by show _ = _; rw [List.take_zero]; rfl, Below.refl _ _⟩
  case round =>
    obtain ⟨r, i, rfl, rfl, hin, HR, HB⟩ := hrel
    have hr32 : r < 4294967296 := by
      rw [HR.out]; exact crcR_lt _ _ (HLB.out.take _) (by decide)
    by_cases hlt : i < n
    · have hii : (i : Int) < (n : Int) := by omega
      obtain ⟨b, off, c, rfl, hbl, hc, hcell⟩ := byte_at (HS.out.below HB.out) hlt
      have hcb := HLB.out c (List.mem_of_getElem? hc)
      obtain ⟨x, hx⟩ : ∃ x : Nat, c = x := ⟨c.toNat, by omega⟩
      subst hx
      have hx8 : (x : Int) < 256 := by omega
      have HC := Lib.hid hc
      clear hc hcb
      go_upto_region 7 with fail
      go_loopw [3, 5, 6] (fun vr vx vk wr1 => ∃ (r1 x1 k : Nat), vr = .int .u32 ((r1 : Nat) : Int) ∧ vx = .int .i64 ((x1 : Nat) : Int) ∧ vk = .int .i64 ((k : Nat) : Int) ∧ k ≤ 8 ∧ r1 < 4294967296 ∧ x1 < 256 ∧ Hid (bits (8 - k) (r1, x1) = bits 8 (r, x)) ∧ Hid (Below w.heap.size w wr1)) (fun _ _ vk _ => 8 - (intOf vk).toNat)
      case atStart => exact ⟨r, x, 0, rfl, rfl, rfl, by omega, hr32, by omega, rfl, HB.out⟩
      case round =>
        obtain ⟨r1, x1, k, rfl, rfl, rfl, hk, hr1, hx1, HE, HB1⟩ := hrel
        by_cases hk8 : k < 8
        · have hkk : (k : Int) < 8 := by omega
          obtain ⟨q, hq⟩ : ∃ q : Nat, q = r1 / 2 := ⟨_, rfl⟩
          obtain ⟨y, hy⟩ : ∃ y : Nat, y = x1 / 2 := ⟨_, rfl⟩
          have hq1 : (r1 : Int) / 2 = (q : Int) := by omega
          have hy1 : (x1 : Int) / 2 = (y : Int) := by omega
          have hq2 : q < 2147483648 := by omega
          have hy2 : y < 256 := by omega
          have HN : Hid (bits (8 - (k + 1)) (bit1 (r1, x1)) = bits 8 (r, x)) := by
            show _ = _
            rw [← HE.out, show 8 - k = (8 - (k + 1)) + 1 by omega]; rfl
          obtain ⟨lo, hlo⟩ : ∃ lo : Int, (r1 : Int) % 2 = lo := ⟨_, rfl⟩
          obtain ⟨bt, hbt⟩ : ∃ bt : Int, (x1 : Int) % 2 = bt := ⟨_, rfl⟩
          have hlo2 : 0 ≤ lo ∧ lo < 2 := by omega
          have hbt2 : 0 ≤ bt ∧ bt < 2 := by omega
          have HQ := Lib.hid hq
          have HY := Lib.hid hy
          clear hq hy
          by_cases hs : lo = bt
          · have hd : (lo != bt) = false := by rw [bne_eq_false_iff_eq]; exact hs
            have hd2 : (lo == bt) = true := by rw [beq_iff_eq]; exact hs
            have HB2 : Hid (bit1 (r1, x1) = (q, y)) := by
              show _ = _
              unfold bit1
              simp only []
              rw [if_neg (by omega), HQ.out, HY.out]
            clear hs
            go_wp2_with fail
            go_roundw
            case rel => exact ⟨q, y, k + 1, rfl, rfl, by go_num, by omega, by omega, hy2, by rw [← HB2.out]; exact HN.out, HB1.out⟩
            case measure => simp [intOf]; omega
          · have hd : (lo != bt) = true := by rw [bne_iff_ne]; exact hs
            have hd2 : (lo == bt) = false := by rw [beq_eq_false_iff_ne]; exact hs
            obtain ⟨g, hg⟩ : ∃ g : Nat, g = q ^^^ polyN := ⟨_, rfl⟩
            have hxo : Go.bits BinOp.xor IntKind.u32 (q : Int) 3988292384 = (g : Int) := by
              rw [hg]; exact u32_xor_nat q polyN (by omega) (by decide)
            have hg2 : g < 4294967296 := by rw [hg]; exact xor_lt32 (by omega) (by decide)
            have HB2 : Hid (bit1 (r1, x1) = (g, y)) := by
              show _ = _
              unfold bit1
              simp only []
              rw [if_pos (by omega), ← HQ.out, HY.out, hg]
            clear hs hg
            go_wp2_with fail
            go_roundw
            case rel => exact ⟨g, y, k + 1, rfl, rfl, by go_num, by omega, hg2, hy2, by rw [← HB2.out]; exact HN.out, HB1.out⟩
            case measure => simp [intOf]; omega
        · have hk0 : k = 8 := by omega
          subst hk0
          have HF : Hid (r1 = crcR (l.take (i + 1)) 4294967295) := by
            show _ = _
            rw [crcR_take HC.out, ← HR.out]
            have e := bits8 r x (by omega)
            rw [← HE.out] at e
            exact e
          go_wp2_with fail
          go_roundw
          case rel => exact ⟨r1, i + 1, rfl, by go_num, by omega, HF.out, HB1.out⟩
          case measure => simp [intOf]; omega
    · have hii : ¬ (i : Int) < (n : Int) := by omega
      have hie : i = n := by omega
      have hrs : (4294967295 : Int) - (r : Int) = ((crcE l : Nat) : Int) := by
        unfold crcE
        have e : l.take i = l := by rw [hie]; exact List.take_of_length_le (by rw [← HLN.out]; exact Nat.le_refl _)
        have := HR.out
        rw [e] at this
        rw [← this]; omega
      obtain ⟨z, hz⟩ : ∃ z : Int, ((crcE l : Nat) : Int) = z := ⟨_, rfl⟩
      rw [hz] at hrs
      have hz2 : 0 ≤ z ∧ z < 4294967296 := by omega
      have HZ := Lib.hid hz
      clear hz
      go_wp2_with fail
      go_ret
      exact ⟨by rw [HZ.out]; rfl, HB.out⟩

/-! ### Its bytes -/
def sumD : Nat → Nat → List Int
  | 0, _ => []
  | k + 1, n => ((n % 256 : Nat) : Int) :: sumD k (n / 256)
theorem sumD_next {k : Nat} (h : k < 4) (m : Nat) : sumD (4 - k) m = ((m % 256 : Nat) : Int) :: sumD (4 - (k + 1)) (m / 256) := by
  rw [show 4 - k = (4 - (k + 1)) + 1 by omega]; rfl
theorem sumD_eq (n : Nat) : sumD 4 n = sumB n := by
  unfold sumB
  simp only [sumD, Nat.div_div_eq_div_mul]
theorem sumD_len (k n : Nat) : (sumD k n).length = k := by
  induction k generalizing n with
  | zero => rfl
  | succ k ih => simp [sumD, ih]

set_option maxHeartbeats 2000000 in
theorem rbytes_any (n : Nat) (w : World) (hn : n < 4294967296) : Calls Try.prog 44 #[.int .u32 (n : Int)] w fun e w' => ∃ v, e = .returned v ∧ V.Own 5 bcod w.heap.size w' v (sumB n) ∧ Below w.heap.size w w' := by
  go_enter Try.func44, Try.ntmps44
  go_wp2_with fail
  go_loopw [0, 3, 4] (fun m v vi wr => ∃ (k i : Nat) (pre : List Int), m = .int .u32 ((k : Nat) : Int) ∧ vi = .int .i64 ((i : Nat) : Int) ∧ i ≤ 4 ∧ k ≤ n ∧ Hid (V.Own 5 bcod w.heap.size wr v pre) ∧ Hid (Below w.heap.size w wr) ∧ Hid (pre ++ sumD (4 - i) k = sumB n)) (fun _ _ vi _ => 4 - (intOf vi).toNat)
  case atStart => exact ⟨n, 0, [], rfl, rfl, by omega, Nat.le_refl _, Own.nil, Below.refl _ _, by show _ = _; rw [← sumD_eq]; rfl⟩
  case round =>
    obtain ⟨k, i, pre, rfl, rfl, hi, hk, HO, HB, HE⟩ := hrel
    have hpl : pre.length ≤ 4 := by
      have := congrArg List.length HE.out
      rw [List.length_append, sumD_len] at this
      have e : (sumB n).length = 4 := rfl
      omega
    have HM1 : Hid (pre.length + 1 ≤ maxLen) := by show _ ≤ _; unfold maxLen; omega
    have HM2 : Hid ((pre.length + 1) * 1 ≤ 140737488355328) := by show _ ≤ _; omega
    clear hpl
    by_cases hs : i < 4
    · have hii : (i : Int) < 4 := by omega
      obtain ⟨y, hy⟩ : ∃ y : Int, y = ((k % 256 : Nat) : Int) := ⟨_, rfl⟩
      obtain ⟨q, hq⟩ : ∃ q : Nat, q = k / 256 := ⟨_, rfl⟩
      have hc1 : (k : Int) % 256 = y := by omega
      have hc2 : (k : Int) / 256 = (q : Int) := by omega
      have hy2 : 0 ≤ y ∧ y < 256 := by omega
      have hk2 : (k : Int) < 4294967296 := by omega
      have HP : Hid ((pre ++ [y]) ++ sumD (4 - (i + 1)) q = sumB n) := by
        show _ = _
        have e := HE.out
        rw [sumD_next hs, ← hy, ← hq] at e
        rw [List.append_assoc]; exact e
      have hqn : q ≤ n := by omega
      clear hy hq
      go_wp2_with (at_builtin; go_loud (refine wpList_app eltB rfl (.tmp 9) (.tmp 13) rfl (base := w.heap.size) _ pre rfl (HO.out.alloc _) _ 1 1 [y] rfl (sl_new (c := bcod) _ #[.int .u8 y] 5 [y] 1 rfl (by unfold maxLen; omega) rfl) HM1.out HM2.out (by have := HB.out.size; simp; omega) ?_); intro v1 w1 ho hg; have HO1 := Lib.hid ho; have HB1 : Hid (Below w.heap.size w w1) := (HB.out.alloc HB.out.size _).trans (own_below (HO.out.alloc _) hg (by have := HB.out.size; simp; omega)); clear ho hg)
      go_roundw
      case rel => exact ⟨q, i + 1, _, rfl, by go_num, by omega, hqn, HO1.out, HB1.out, HP.out⟩
      case measure => simp [intOf]; omega
    · have hi4 : i = 4 := by omega
      subst hi4
      have HF : Hid (pre = sumB n) := by
        show _ = _
        rw [← HE.out]; simp [sumD]
      go_wp2_with fail
      go_ret
      exact ⟨_, rfl, by rw [← HF.out]; exact HO.out, HB.out⟩

/-! ### The program's -/
set_option maxHeartbeats 2000000 in
theorem cbytes_any (n : Nat) (w : World) (hn : n < 4294967296) : Calls Try.prog 74 #[.int .u32 (n : Int)] w fun e w' => ∃ v, e = .returned v ∧ V.Own 5 bcod w.heap.size w' v (sumB n) ∧ Below w.heap.size w w' := by
  have hn2 : (n : Int) < 4294967296 := by omega
  have HS : Hid (sumB n = [(n : Int) % 256, (n : Int) / 256 % 256, (n : Int) / 65536 % 256, (n : Int) / 16777216]) := by
    show _ = _
    unfold sumB
    refine List.cons_eq_cons.2 ⟨by omega, List.cons_eq_cons.2 ⟨by omega, List.cons_eq_cons.2 ⟨by omega, List.cons_eq_cons.2 ⟨by omega, rfl⟩⟩⟩⟩
  go_enter Try.func74, Try.ntmps74
  go_wp2_with fail
  go_ret
  refine ⟨_, rfl, ?_, (Below.refl _ _).alloc (Nat.le_refl _) _⟩
  rw [HS.out]
  exact own_new (c := bcod) w #[.int .u8 ((n : Int) % 256), .int .u8 ((n : Int) / 256 % 256), .int .u8 ((n : Int) / 65536 % 256), .int .u8 ((n : Int) / 16777216)] 5 w.heap.size [(n : Int) % 256, (n : Int) / 256 % 256, (n : Int) / 65536 % 256, (n : Int) / 16777216] 4 rfl (Nat.le_refl _) (by unfold maxLen; omega) rfl
end Go.Proofs.Ytnjgonplojpcnaa.Wi
