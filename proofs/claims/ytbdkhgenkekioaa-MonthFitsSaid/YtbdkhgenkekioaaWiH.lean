/- The checksum: the document's, walked. -/
/- The checksum's table, walked. -/
/- The checksum, walked. -/
import Derived.Test.YtbdkhgenkekioaaWiC
import Derived.Laws.BitsAllLaws
import Derived.Test.YtbdkhgenkekioaaMid
namespace Go.Proofs.Ytbdkhgenkekioaa.Wi
open Go.RowKit Go.V Go.Proofs

theorem bits_next (k : Nat) (rx : Nat × Nat) : bits (k + 1) rx = bits k (bit1 rx) := rfl
theorem crcR_take {l : List Int} {i : Nat} {r : Int} (h : l[i]? = some r) (s : Nat) : crcR (l.take (i + 1)) s = crcB (crcR (l.take i) s) r.toNat := by
  rw [take_at h, crcR_snoc]

set_option maxHeartbeats 4000000 in
theorem rsum_any (a : Option Addr) (n cap : Nat) (l : List Int) (w : World) (h : Sl bcod w a n cap l) (hl : Byt l) (hn : n ≤ 1000000000) :
    Calls Try.prog 123 #[.slice a n cap] w fun e w' => e = .returned (.int .u32 ((crcE l : Nat) : Int)) ∧ Below w.heap.size w w' := by
  have hln : n = l.length := h.hlen
  have HS := Lib.hid h
  have HLB := Lib.hid hl
  have HLN := Lib.hid hln
  clear h hl hln
  go_enter Try.func123, Try.ntmps123
  go_wp2_with fail
  go_loopw [3, 4] (fun vr vi wr => ∃ (r i : Nat), vr = .int .u32 ((r : Nat) : Int) ∧ vi = .int .i64 ((i : Nat) : Int) ∧ i ≤ n ∧ Hid (r = crcR (l.take i) 4294967295) ∧ Hid (Below w.heap.size w wr)) (fun _ vi _ => n - (intOf vi).toNat)
  case atStart => exact ⟨4294967295, 0, rfl, rfl, by omega, by show _ = _; rw [List.take_zero]; rfl, Below.refl _ _⟩
  case round =>
    obtain ⟨r, i, rfl, rfl, hin, HR, HB⟩ := hrel
    have hr32 : r < 4294967296 := by
      rw [HR.out]; exact crcR_lt _ _ (HLB.out.take _) (by decide)
    by_cases hlt : i < n
    · have hii : (i : Int) < (n : Int) := by omega
      obtain ⟨b, off, c, rfl, hbl, hc, hcell⟩ := byte_at (HS.out.below HB.out) hlt
      have hcb := HLB.out c (List.mem_of_getElem? hc)
      obtain ⟨x, hx⟩ : ∃ x : Nat, c = x := ⟨c.toNat, by omega⟩
      subst hx
      have hx8 : (x : Int) < 256 := by omega
      have HC := Lib.hid hc
      clear hc hcb
      go_upto_region 7 with fail
      go_loopw [3, 5, 6] (fun vr vx vk wr1 => ∃ (r1 x1 k : Nat), vr = .int .u32 ((r1 : Nat) : Int) ∧ vx = .int .i64 ((x1 : Nat) : Int) ∧ vk = .int .i64 ((k : Nat) : Int) ∧ k ≤ 8 ∧ r1 < 4294967296 ∧ x1 < 256 ∧ Hid (bits (8 - k) (r1, x1) = bits 8 (r, x)) ∧ Hid (Below w.heap.size w wr1)) (fun _ _ vk _ => 8 - (intOf vk).toNat)
      case atStart => exact ⟨r, x, 0, rfl, rfl, rfl, by omega, hr32, by omega, rfl, HB.out⟩
      case round =>
        obtain ⟨r1, x1, k, rfl, rfl, rfl, hk, hr1, hx1, HE, HB1⟩ := hrel
        by_cases hk8 : k < 8
        · have hkk : (k : Int) < 8 := by omega
          obtain ⟨q, hq⟩ : ∃ q : Nat, q = r1 / 2 := ⟨_, rfl⟩
          obtain ⟨y, hy⟩ : ∃ y : Nat, y = x1 / 2 := ⟨_, rfl⟩
          have hq1 : (r1 : Int) / 2 = (q : Int) := by omega
          have hy1 : (x1 : Int) / 2 = (y : Int) := by omega
          have hq2 : q < 2147483648 := by omega
          have hy2 : y < 256 := by omega
          have HN : Hid (bits (8 - (k + 1)) (bit1 (r1, x1)) = bits 8 (r, x)) := by
            show _ = _
            rw [← HE.out, show 8 - k = (8 - (k + 1)) + 1 by omega]; rfl
          obtain ⟨lo, hlo⟩ : ∃ lo : Int, (r1 : Int) % 2 = lo := ⟨_, rfl⟩
          obtain ⟨bt, hbt⟩ : ∃ bt : Int, (x1 : Int) % 2 = bt := ⟨_, rfl⟩
          have hlo2 : 0 ≤ lo ∧ lo < 2 := by omega
          have hbt2 : 0 ≤ bt ∧ bt < 2 := by omega
          have HQ := Lib.hid hq
          have HY := Lib.hid hy
          clear hq hy
          by_cases hs : lo = bt
          · have hd : (lo != bt) = false := by rw [bne_eq_false_iff_eq]; exact hs
            have hd2 : (lo == bt) = true := by rw [beq_iff_eq]; exact hs
            have HB2 : Hid (bit1 (r1, x1) = (q, y)) := by
              show _ = _
              unfold bit1
              simp only []
              rw [if_neg (by omega), HQ.out, HY.out]
            clear hs
            go_wp2_with fail
            go_roundw
            case rel => exact ⟨q, y, k + 1, rfl, rfl, by go_num, by omega, by omega, hy2, by rw [← HB2.out]; exact HN.out, HB1.out⟩
            case measure => simp [intOf]; omega
          · have hd : (lo != bt) = true := by rw [bne_iff_ne]; exact hs
            have hd2 : (lo == bt) = false := by rw [beq_eq_false_iff_ne]; exact hs
            obtain ⟨g, hg⟩ : ∃ g : Nat, g = q ^^^ polyN := ⟨_, rfl⟩
            have hxo : Go.bits BinOp.xor IntKind.u32 (q : Int) 3988292384 = (g : Int) := by
              rw [hg]; exact u32_xor_nat q polyN (by omega) (by decide)
            have hg2 : g < 4294967296 := by rw [hg]; exact xor_lt32 (by omega) (by decide)
            have HB2 : Hid (bit1 (r1, x1) = (g, y)) := by
              show _ = _
              unfold bit1
              simp only []
              rw [if_pos (by omega), ← HQ.out, HY.out, hg]
            clear hs hg
            go_wp2_with fail
            go_roundw
            case rel => exact ⟨g, y, k + 1, rfl, rfl, by go_num, by omega, hg2, hy2, by rw [← HB2.out]; exact HN.out, HB1.out⟩
            case measure => simp [intOf]; omega
        · have hk0 : k = 8 := by omega
          subst hk0
          have HF : Hid (r1 = crcR (l.take (i + 1)) 4294967295) := by
            show _ = _
            rw [crcR_take HC.out, ← HR.out]
            have e := bits8 r x (by omega)
            rw [← HE.out] at e
            exact e
          go_wp2_with fail
          go_roundw
          case rel => exact ⟨r1, i + 1, rfl, by go_num, by omega, HF.out, HB1.out⟩
          case measure => simp [intOf]; omega
    · have hii : ¬ (i : Int) < (n : Int) := by omega
      have hie : i = n := by omega
      have hrs : (4294967295 : Int) - (r : Int) = ((crcE l : Nat) : Int) := by
        unfold crcE
        have e : l.take i = l := by rw [hie]; exact List.take_of_length_le (by rw [← HLN.out]; exact Nat.le_refl _)
        have := HR.out
        rw [e] at this
        rw [← this]; omega
      obtain ⟨z, hz⟩ : ∃ z : Int, ((crcE l : Nat) : Int) = z := ⟨_, rfl⟩
      rw [hz] at hrs
      have hz2 : 0 ≤ z ∧ z < 4294967296 := by omega
      have HZ := Lib.hid hz
      clear hz
      go_wp2_with fail
      go_ret
      exact ⟨by rw [HZ.out]; rfl, HB.out⟩

/-! ### Its bytes -/
def sumD : Nat → Nat → List Int
  | 0, _ => []
  | k + 1, n => ((n % 256 : Nat) : Int) :: sumD k (n / 256)
theorem sumD_next {k : Nat} (h : k < 4) (m : Nat) : sumD (4 - k) m = ((m % 256 : Nat) : Int) :: sumD (4 - (k + 1)) (m / 256) := by
  rw [show 4 - k = (4 - (k + 1)) + 1 by omega]; rfl
theorem sumD_eq (n : Nat) : sumD 4 n = sumB n := by
  unfold sumB
  simp only [sumD, Nat.div_div_eq_div_mul]
theorem sumD_len (k n : Nat) : (sumD k n).length = k := by
  induction k generalizing n with
  | zero => rfl
  | succ k ih => simp [sumD, ih]

set_option maxHeartbeats 2000000 in
theorem rbytes_any (n : Nat) (w : World) (hn : n < 4294967296) : Calls Try.prog 122 #[.int .u32 (n : Int)] w fun e w' => ∃ v, e = .returned v ∧ V.Own 5 bcod w.heap.size w' v (sumB n) ∧ Below w.heap.size w w' := by
  go_enter Try.func122, Try.ntmps122
  go_wp2_with fail
  go_loopw [0, 3, 4] (fun m v vi wr => ∃ (k i : Nat) (pre : List Int), m = .int .u32 ((k : Nat) : Int) ∧ vi = .int .i64 ((i : Nat) : Int) ∧ i ≤ 4 ∧ k ≤ n ∧ Hid (V.Own 5 bcod w.heap.size wr v pre) ∧ Hid (Below w.heap.size w wr) ∧ Hid (pre ++ sumD (4 - i) k = sumB n)) (fun _ _ vi _ => 4 - (intOf vi).toNat)
  case atStart => exact ⟨n, 0, [], rfl, rfl, by omega, Nat.le_refl _, Own.nil, Below.refl _ _, by show _ = _; rw [← sumD_eq]; rfl⟩
  case round =>
    obtain ⟨k, i, pre, rfl, rfl, hi, hk, HO, HB, HE⟩ := hrel
    have hpl : pre.length ≤ 4 := by
      have := congrArg List.length HE.out
      rw [List.length_append, sumD_len] at this
      have e : (sumB n).length = 4 := rfl
      omega
    have HM1 : Hid (pre.length + 1 ≤ maxLen) := by show _ ≤ _; unfold maxLen; omega
    have HM2 : Hid ((pre.length + 1) * 1 ≤ 140737488355328) := by show _ ≤ _; omega
    clear hpl
    by_cases hs : i < 4
    · have hii : (i : Int) < 4 := by omega
      obtain ⟨y, hy⟩ : ∃ y : Int, y = ((k % 256 : Nat) : Int) := ⟨_, rfl⟩
      obtain ⟨q, hq⟩ : ∃ q : Nat, q = k / 256 := ⟨_, rfl⟩
      have hc1 : (k : Int) % 256 = y := by omega
      have hc2 : (k : Int) / 256 = (q : Int) := by omega
      have hy2 : 0 ≤ y ∧ y < 256 := by omega
      have hk2 : (k : Int) < 4294967296 := by omega
      have HP : Hid ((pre ++ [y]) ++ sumD (4 - (i + 1)) q = sumB n) := by
        show _ = _
        have e := HE.out
        rw [sumD_next hs, ← hy, ← hq] at e
        rw [List.append_assoc]; exact e
      have hqn : q ≤ n := by omega
      clear hy hq
      go_wp2_with (at_builtin; go_loud (refine wpList_app eltB rfl (.tmp 9) (.tmp 13) rfl (base := w.heap.size) _ pre rfl (HO.out.alloc _) _ 1 1 [y] rfl (sl_new (c := bcod) _ #[.int .u8 y] 5 [y] 1 rfl (by unfold maxLen; omega) rfl) HM1.out HM2.out (by have := HB.out.size; simp; omega) ?_); intro v1 w1 ho hg; have HO1 := Lib.hid ho; have HB1 : Hid (Below w.heap.size w w1) := (HB.out.alloc HB.out.size _).trans (own_below (HO.out.alloc _) hg (by have := HB.out.size; simp; omega)); clear ho hg)
      go_roundw
      case rel => exact ⟨q, i + 1, _, rfl, by go_num, by omega, hqn, HO1.out, HB1.out, HP.out⟩
      case measure => simp [intOf]; omega
    · have hi4 : i = 4 := by omega
      subst hi4
      have HF : Hid (pre = sumB n) := by
        show _ = _
        rw [← HE.out]; simp [sumD]
      go_wp2_with fail
      go_ret
      exact ⟨_, rfl, by rw [← HF.out]; exact HO.out, HB.out⟩

/-! ### The program's -/
set_option maxHeartbeats 2000000 in
theorem cbytes_any (n : Nat) (w : World) (hn : n < 4294967296) : Calls Try.prog 119 #[.int .u32 (n : Int)] w fun e w' => ∃ v, e = .returned v ∧ V.Own 5 bcod w.heap.size w' v (sumB n) ∧ Below w.heap.size w w' := by
  have hn2 : (n : Int) < 4294967296 := by omega
  have HS : Hid (sumB n = [(n : Int) % 256, (n : Int) / 256 % 256, (n : Int) / 65536 % 256, (n : Int) / 16777216]) := by
    show _ = _
    unfold sumB
    refine List.cons_eq_cons.2 ⟨by omega, List.cons_eq_cons.2 ⟨by omega, List.cons_eq_cons.2 ⟨by omega, List.cons_eq_cons.2 ⟨by omega, rfl⟩⟩⟩⟩
  go_enter Try.func119, Try.ntmps119
  go_wp2_with fail
  go_ret
  refine ⟨_, rfl, ?_, (Below.refl _ _).alloc (Nat.le_refl _) _⟩
  rw [HS.out]
  exact own_new (c := bcod) w #[.int .u8 ((n : Int) % 256), .int .u8 ((n : Int) / 256 % 256), .int .u8 ((n : Int) / 65536 % 256), .int .u8 ((n : Int) / 16777216)] 5 w.heap.size [(n : Int) % 256, (n : Int) / 256 % 256, (n : Int) / 65536 % 256, (n : Int) / 16777216] 4 rfl (Nat.le_refl _) (by unfold maxLen; omega) rfl
end Go.Proofs.Ytbdkhgenkekioaa.Wi

namespace Go.Proofs.Ytbdkhgenkekioaa.Wi
open Go.RowKit Go.V Go.Proofs
open Go.Proofs.Ytbdkhgenkekioaa.Ne (box_alloc box_new box_cell box_below box_lt)
theorem below_set1 {w wr : World} {B p i : Nat} {v : Value} (h : Below B w wr) (hp : B ≤ p) : Below B w (wr.setCell ⟨p, i, none⟩ v) :=
  have e := setCells_rest p [v] i wr
  ⟨e.1.trans h.os, e.2.1.trans h.tape, e.2.2.1.trans h.output, by rw [show (wr.setCell ⟨p, i, none⟩ v) = wr.setCells p i [v] from rfl, e.2.2.2]; exact h.size, fun k hk => (heap_setCell_other wr ⟨p, i, none⟩ k v (by show k ≠ p; omega)).trans (h.block k hk)⟩
theorem below_sets {w wr : World} {B p o : Nat} {vs : List Value} (h : Below B w wr) (hp : B ≤ p) : Below B w (wr.setCells p o vs) := by
  obtain ⟨h1, h2, h3, h4⟩ := setCells_rest p vs o wr
  exact ⟨h1.trans h.os, h2.trans h.tape, h3.trans h.output, by rw [h4]; exact h.size, fun k hk => (setCells_other (by omega) vs o wr).trans (h.block k hk)⟩
theorem there_blk {w : World} {g : Nat} {cs : Array Value} {t : TypeId} (h : w.heap[g]? = some (.cells cs t (0, 0))) : w.there g 0 cs.size := fun j hj => by
  rw [Nat.zero_add]
  exact ⟨by rw [(box_cell h j).1, Array.getElem?_eq_getElem hj]; rfl, (box_cell h j).2⟩
theorem range_blk {w : World} {g : Nat} {cs : List Value} {t : TypeId} (h : w.heap[g]? = some (.cells cs.toArray t (0, 0))) : w.rangeAt g 0 cs := fun j v hv => by
  rw [Nat.zero_add, (box_cell h j).1, List.getElem?_toArray]; exact hv
theorem infoTab : (Try.prog.info? 189).map (·.size) = some 16 := by kernel_rfl

/-- What stands in an array of sixteen. -/
def padU (l : List Int) : List Value := l.map (Value.int .u32) ++ List.replicate (16 - l.length) (.int .u32 0)
theorem padU_len {l : List Int} (h : l.length ≤ 16) : (padU l).length = 16 := by unfold padU; simp; omega
theorem padU_one (l : List Int) : ∀ v ∈ padU l, v.oneCell' = true := by
  intro v hv
  unfold padU at hv
  rcases List.mem_append.1 hv with h | h
  · obtain ⟨x, -, rfl⟩ := List.mem_map.1 h; rfl
  · rw [List.eq_of_mem_replicate h]; rfl
theorem padU_at {l : List Int} {j : Nat} {x : Int} (h : l[j]? = some x) : (padU l)[j]? = some (.int .u32 x) := by
  unfold padU
  have := (List.getElem?_eq_some_iff.1 h).1
  rw [List.getElem?_append_left (by simpa using this), List.getElem?_map, h]; rfl
theorem padU_snoc {l : List Int} {x : Int} (h : l.length < 16) : (padU l).set l.length (.int .u32 x) = padU (l ++ [x]) := by
  unfold padU
  rw [List.set_append_right _ _ (by simp), List.length_map, Nat.sub_self]
  have e : 16 - l.length = (16 - (l ++ [x]).length) + 1 := by simp; omega
  rw [e, List.replicate_succ, List.set_cons_zero, List.map_append]
  simp
theorem padU_nil : padU [] = List.replicate 16 (.int .u32 0) := rfl
abbrev arrU (l : List Int) : Obj := .cells (padU l).toArray 189 (0, 0)
theorem arrU_set {w : World} {g : Nat} {l : List Int} {x : Int} (h : w.heap[g]? = some (arrU l)) (hl : l.length < 16) : (w.setCell ⟨g, l.length, none⟩ (.int .u32 x)).heap[g]? = some (arrU (l ++ [x])) := by
  rw [heap_setCell_same w g l.length _ _ _ h]
  congr 2
  rw [← padU_snoc hl]
  simp
/-- What four bits do. -/
def tabL (i : Nat) : List Int := (List.range i).map fun j => ((step4 j : Nat) : Int)
theorem tabL_len (i : Nat) : (tabL i).length = i := by unfold tabL; simp
theorem tabL_snoc (i : Nat) : tabL (i + 1) = tabL i ++ [((step4 i : Nat) : Int)] := by unfold tabL; rw [List.range_succ, List.map_append]; rfl
theorem tabL_at {i j : Nat} (h : j < i) : (tabL i)[j]? = some ((step4 j : Nat) : Int) := by unfold tabL; simp [h]
def stepN : Nat → Nat → Nat
  | 0, c => c
  | k + 1, c => stepN k (step1 c)

set_option maxHeartbeats 4000000 in
theorem ctable_any (w : World) : Calls Try.prog 149 #[] w fun e w' => e = .returned (.agg (padU (tabL 16)).toArray) ∧ Below w.heap.size w w' := by
  go_enter Try.func149, Try.ntmps149
  go_wp2_with fail
  have H0 : Hid (((w.alloc (arrU [])).alloc (arrU [])).heap[w.heap.size]? = some (arrU [])) := by
    show _ = _
    exact box_alloc (box_new w _)
  have H1 : Hid (((w.alloc (arrU [])).alloc (arrU [])).heap[w.heap.size + 1]? = some (arrU [])) := by
    show _ = _
    have := box_new (w.alloc (arrU [])) (arrU [])
    simpa using this
  have HB0 : Hid (Below w.heap.size w ((w.alloc (arrU [])).alloc (arrU []))) := ((Below.refl _ _).alloc (Nat.le_refl _) _).alloc (by simp) _
  go_loopw [4] (fun vi wr => ∃ (i : Nat), vi = .int .i64 ((i : Nat) : Int) ∧ i ≤ 16 ∧ Hid (wr.heap[w.heap.size]? = some (arrU [])) ∧ Hid (wr.heap[w.heap.size + 1]? = some (arrU (tabL i))) ∧ Hid (Below w.heap.size w wr)) (fun vi _ => 16 - (intOf vi).toNat)
  case atStart => exact ⟨0, rfl, by omega, H0.out, H1.out, HB0.out⟩
  case round =>
    obtain ⟨i, rfl, hi, HR, HT, HB⟩ := hrel
    by_cases hlt : i < 16
    · have hii : (i : Int) < 16 := by omega
      go_upto_region 7 with fail
      go_loopw [3, 9] (fun vc vk wr1 => ∃ (c k : Nat), vc = .int .u32 ((c : Nat) : Int) ∧ vk = .int .i64 ((k : Nat) : Int) ∧ k ≤ 4 ∧ c < 4294967296 ∧ Hid (stepN (4 - k) c = step4 i) ∧ wr1 = wr) (fun _ vk _ => 4 - (intOf vk).toNat)
      case atStart => exact ⟨i, 0, rfl, rfl, by omega, by omega, rfl, rfl⟩
      case round =>
        obtain ⟨c, k, rfl, rfl, hk, hc, HE, rfl⟩ := hrel
        by_cases hk4 : k < 4
        · have hkk : (k : Int) < 4 := by omega
          obtain ⟨q, hq⟩ : ∃ q : Nat, q = c / 2 := ⟨_, rfl⟩
          have hq1 : (c : Int) / 2 = (q : Int) := by omega
          have hq2 : q < 2147483648 := by omega
          have HN : Hid (stepN (4 - (k + 1)) (step1 c) = step4 i) := by
            show _ = _
            rw [← HE.out, show 4 - k = (4 - (k + 1)) + 1 by omega]; rfl
          obtain ⟨lo, hlo⟩ : ∃ lo : Int, ((c % 2 : Nat) : Int) = lo := ⟨_, rfl⟩
          have hla : Go.bits BinOp.and IntKind.u32 (c : Int) 1 = lo := by
            rw [← hlo, ← Nat.and_one_is_mod]; exact u32_and_nat c 1 hc (by decide)
          have hlo1 : lo = 0 ∨ lo = 1 := by omega
          have HQ := Lib.hid hq
          have HLO := Lib.hid hlo
          clear hq hlo
          by_cases hs : lo = 1
          · subst hs
            obtain ⟨g, hg⟩ : ∃ g : Nat, g = q ^^^ polyN := ⟨_, rfl⟩
            have hxo : Go.bits BinOp.xor IntKind.u32 (q : Int) 3988292384 = (g : Int) := by
              rw [hg]; exact u32_xor_nat q polyN (by omega) (by decide)
            have hg2 : g < 4294967296 := by rw [hg]; exact xor_lt32 (by omega) (by decide)
            have HS : Hid (step1 c = g) := by
              show _ = _
              have := HLO.out
              unfold step1
              rw [if_pos (by omega), hg, HQ.out]
            clear hg hlo1
            go_wp2_with fail
            go_roundw
            case rel => exact ⟨g, k + 1, rfl, by go_num, by omega, hg2, by rw [← HS.out]; exact HN.out, trivial⟩
            case measure => simp [intOf]; omega
          · have hs0 : lo = 0 := by omega
            subst hs0
            have HS : Hid (step1 c = q) := by
              show _ = _
              have := HLO.out
              unfold step1
              rw [if_neg (by omega), HQ.out]
            clear hs hlo1
            go_wp2_with fail
            go_roundw
            case rel => exact ⟨q, k + 1, rfl, by go_num, by omega, by omega, by rw [← HS.out]; exact HN.out, trivial⟩
            case measure => simp [intOf]; omega
        · have hk0 : k = 4 := by omega
          subst hk0
          have hcs : c = step4 i := HE.out
          have HCS := Lib.hid hcs
          clear hcs
          have hcell : ∃ v, wr.cell? ⟨w.heap.size + 1, i, none⟩ = some v ∧ wr.frozen? ⟨w.heap.size + 1, i, none⟩ = false := by
            have h1 := (box_cell HT.out i).1
            have h2 : i < (padU (tabL i)).toArray.size := by rw [List.size_toArray, padU_len (by rw [tabL_len]; omega)]; exact hlt
            exact ⟨_, h1.trans (Array.getElem?_eq_getElem h2), (box_cell HT.out i).2⟩
          obtain ⟨v0, hv0, hv1⟩ := hcell
          have HT2 : Hid ((wr.setCell ⟨w.heap.size + 1, i, none⟩ (.int .u32 (c : Int))).heap[w.heap.size + 1]? = some (arrU (tabL (i + 1)))) := by
            show _ = _
            have := arrU_set (x := ((c : Nat) : Int)) HT.out (by rw [tabL_len]; exact hlt)
            rw [tabL_len] at this
            rw [this, tabL_snoc, HCS.out]
          have HR2 : Hid ((wr.setCell ⟨w.heap.size + 1, i, none⟩ (.int .u32 (c : Int))).heap[w.heap.size]? = some (arrU [])) := by
            show _ = _
            rw [heap_setCell_other _ _ _ _ (by simp)]; exact HR.out
          have HB2 : Hid (Below w.heap.size w (wr.setCell ⟨w.heap.size + 1, i, none⟩ (.int .u32 (c : Int)))) := below_set1 HB.out (by omega)
          go_wp2_with fail
          go_roundw
          case rel => exact ⟨i + 1, by go_num, by omega, HR2.out, HT2.out, HB2.out⟩
          case measure => simp [intOf]; omega
    · have hie : i = 16 := by omega
      subst hie
      have HSZ : Hid ((padU (tabL 16)).toArray.size = 16) := by show _ = _; rw [List.size_toArray, padU_len (by rw [tabL_len]; omega)]
      have HTH : Hid (wr.there w.heap.size 0 16) := there_blk HR.out
      go_upto_region 14 with fail
      rw [← wpIn_wide (n := 0)]
      gi_wp2_with (first
        | (with_reducible refine wpListIn_load_mid rfl 189 (.tmp 1) rfl (w.heap.size + 1) 0 rfl (padU (tabL 16)) _ (range_blk HT.out) Try.underlying189 rfl (by rw [← List.size_toArray, HSZ.out]; exact infoTab) ?_)
        | (with_reducible refine wpListIn_store_mid rfl 189 (.tmp 0) (.tmp 24) rfl w.heap.size 0 (padU (tabL 16)).toArray rfl rfl (by rw [HSZ.out]; exact HTH.out) (by rw [HSZ.out]; exact infoTab) (all_oneCell_toArray (padU_one _)) ?_))
      go_wp2_with fail
      exact bodyPost_ret (results_cell_row rfl _ _ w.heap.size _ _ _ _ rfl (setCells_block HR.out (padU (tabL 16)) (by rw [← List.size_toArray, HSZ.out]; rfl)) Try.underlying189 rfl (by rw [HSZ.out]; exact infoTab)) rfl ⟨rfl, below_sets HB.out (Nat.le_refl _)⟩
end Go.Proofs.Ytbdkhgenkekioaa.Wi

namespace Go.Proofs.Ytbdkhgenkekioaa.Wi
open Go.RowKit Go.V Go.Proofs
open Go.Proofs.Ytbdkhgenkekioaa.Ne (box_alloc box_new box_cell box_below box_lt)

theorem tab_cell {w : World} {g : Nat} (h : w.heap[g]? = some (arrU (tabL 16))) {j : Nat} (hj : j < 16) : w.cell? ⟨g, j, none⟩ = some (.int .u32 ((step4 j : Nat) : Int)) := by
  rw [(box_cell h j).1, List.getElem?_toArray]; exact padU_at (tabL_at hj)
theorem u32_not (a : Nat) (ha : a < 4294967296) : Go.bits BinOp.xor IntKind.u32 IntKind.u32.max (a : Int) = ((4294967295 - a : Nat) : Int) := by
  show IntKind.u32.wrap ((BitVec.ofInt 32 IntKind.u32.max ^^^ BitVec.ofInt 32 (a : Int)).toNat : Int) = _
  have h1 : BitVec.ofInt 32 IntKind.u32.max = BitVec.allOnes 32 := by decide
  rw [h1, BitVec.allOnes_xor, BitVec.toNat_not, ofInt_u32 a (by omega)]
  simp [IntKind.wrap, IntKind.bits, IntKind.signed]
  omega
theorem and15 (n : Nat) : n &&& 15 = n % 16 := Nat.and_two_pow_sub_one_eq_mod (n := 4) n

set_option maxHeartbeats 4000000 in
theorem cmore_any (s : Nat) (hs : s < 4294967296) (a : Option Addr) (n cap : Nat) (l : List Int) (w : World) (h : Sl bcod w a n cap l) (hl : Byt l) (hn : n ≤ 1000000000) :
    Calls Try.prog 140 #[.int .u32 (s : Int), .slice a n cap] w fun e w' => e = .returned (.int .u32 ((4294967295 - crcR l (4294967295 - s) : Nat) : Int)) ∧ Below w.heap.size w w' := by
  have hln : n = l.length := h.hlen
  have HS := Lib.hid h
  have HLB := Lib.hid hl
  have HLN := Lib.hid hln
  clear h hl hln
  have HSZ : Hid ((padU (tabL 16)).toArray.size = 16) := by show _ = _; rw [List.size_toArray, padU_len (by rw [tabL_len]; omega)]
  go_enter Try.func140, Try.ntmps140
  rw [← wpIn_wide (n := 0)]
  have hf1 : Fence.wide.fn 149 := trivial
  gi_wp2_with fail
  refine ⟨rfl, (callsIn_wide.2 (ctable_any _)).mono ?_⟩
  rintro e w1 ⟨rfl, hb1⟩
  have HB1 := Lib.hid hb1
  clear hb1
  have HTH : Hid ((w1.alloc (.cells #[.int .u32 0, .int .u32 0, .int .u32 0, .int .u32 0, .int .u32 0, .int .u32 0, .int .u32 0, .int .u32 0, .int .u32 0, .int .u32 0, .int .u32 0, .int .u32 0, .int .u32 0, .int .u32 0, .int .u32 0, .int .u32 0] 189)).there w1.heap.size 0 16) := there_blk (box_new w1 (arrU []))
  gi_wp2_with (with_reducible refine wpListIn_store_mid rfl 189 (.tmp 5) (.tmp 9) rfl w1.heap.size 0 (padU (tabL 16)).toArray rfl rfl (by rw [HSZ.out]; exact HTH.out) (by rw [HSZ.out]; exact infoTab) (all_oneCell_toArray (padU_one _)) ?_)
  obtain ⟨W, hW⟩ : ∃ W, (w1.alloc (.cells #[.int .u32 0, .int .u32 0, .int .u32 0, .int .u32 0, .int .u32 0, .int .u32 0, .int .u32 0, .int .u32 0, .int .u32 0, .int .u32 0, .int .u32 0, .int .u32 0, .int .u32 0, .int .u32 0, .int .u32 0, .int .u32 0] 189)).setCells w1.heap.size 0 (padU (tabL 16)) = W := ⟨_, rfl⟩
  have HT0 : Hid (W.heap[w1.heap.size]? = some (arrU (tabL 16))) := by
    show _ = _
    rw [← hW]
    exact setCells_block (box_new w1 (arrU [])) (padU (tabL 16)) (by rw [← List.size_toArray, HSZ.out]; rfl)
  have HB2 : Hid (Below w.heap.size w W) := by
    show Below _ _ _
    rw [← hW]
    exact below_sets (HB1.out.alloc HB1.out.size _) HB1.out.size
  have hgs : w.heap.size ≤ w1.heap.size := HB1.out.size
  rw [hW, wpIn_wide]
  have hns : Go.bits BinOp.xor IntKind.u32 IntKind.u32.max (s : Int) = ((4294967295 - s : Nat) : Int) := u32_not s hs
  obtain ⟨z, hz⟩ : ∃ z : Nat, z = 4294967295 - s := ⟨_, rfl⟩
  rw [← hz] at hns
  rw [hns]
  have hzb : z < 4294967296 := by omega
  have HZ := Lib.hid hz
  clear hW hns hz HSZ HTH
  go_loopw [6, 14] (fun vc vi wr => ∃ (c i : Nat), vc = .int .u32 ((c : Nat) : Int) ∧ vi = .int .i64 ((i : Nat) : Int) ∧ i ≤ n ∧ Hid (c = crcR (l.take i) z) ∧ Hid (wr.heap[w1.heap.size]? = some (arrU (tabL 16))) ∧ Hid (Below w.heap.size w wr)) (fun _ vi _ => n - (intOf vi).toNat)
  case atStart => exact ⟨z, 0, rfl, rfl, by omega, by show _ = _; rw [List.take_zero]; rfl, HT0.out, HB2.out⟩
  case round =>
    obtain ⟨c, i, rfl, rfl, hin, HC, HT, HB⟩ := hrel
    have hc32 : c < 4294967296 := by
      rw [HC.out]; exact crcR_lt _ _ (HLB.out.take _) hzb
    by_cases hlt : i < n
    · have hii : (i : Int) < (n : Int) := by omega
      obtain ⟨b, off, r, rfl, hbl, hr, hcell⟩ := byte_at (HS.out.below HB.out) hlt
      have hrb := HLB.out r (List.mem_of_getElem? hr)
      obtain ⟨x, hx⟩ : ∃ x : Nat, r = x := ⟨r.toNat, by omega⟩
      subst hx
      have hx8 : (x : Int) < 256 := by omega
      obtain ⟨d0, hd0⟩ : ∃ d : Nat, d = c ^^^ x := ⟨_, rfl⟩
      have hd0i : Go.bits BinOp.xor IntKind.u32 (c : Int) (x : Int) = (d0 : Int) := by
        rw [hd0]; exact u32_xor_nat c x hc32 (by omega)
      have hd0b : d0 < 4294967296 := by rw [hd0]; exact xor_lt32 hc32 (by omega)
      obtain ⟨q0, hq0⟩ : ∃ q : Nat, q = d0 / 16 := ⟨_, rfl⟩
      have hq0i : (d0 : Int) / 16 = (q0 : Int) := by omega
      have hq0b : q0 < 4294967296 := by omega
      obtain ⟨j0, hj0⟩ : ∃ j : Nat, j = d0 % 16 := ⟨_, rfl⟩
      have hj0i : Go.bits BinOp.and IntKind.u32 (d0 : Int) 15 = (j0 : Int) := by
        rw [hj0, ← and15]; exact u32_and_nat d0 15 hd0b (by decide)
      have hj0b : j0 < 16 := by omega
      have hj0c : (j0 : Int) < 16 := by omega
      have hc0 := tab_cell HT.out hj0b
      obtain ⟨s0, hs0⟩ : ∃ s : Nat, s = step4 j0 := ⟨_, rfl⟩
      rw [← hs0] at hc0
      obtain ⟨d1, hd1⟩ : ∃ d : Nat, d = step4 d0 := ⟨_, rfl⟩
      have hd1i : Go.bits BinOp.xor IntKind.u32 (q0 : Int) (s0 : Int) = (d1 : Int) := by
        rw [hd1, ← step4_table, ← hj0, ← hq0, ← hs0]
        exact u32_xor_nat q0 s0 hq0b (by rw [hs0]; exact step4_lt (by omega))
      have hd1b : d1 < 4294967296 := by rw [hd1]; exact step4_lt hd0b
      obtain ⟨q1, hq1⟩ : ∃ q : Nat, q = d1 / 16 := ⟨_, rfl⟩
      have hq1i : (d1 : Int) / 16 = (q1 : Int) := by omega
      have hq1b : q1 < 4294967296 := by omega
      obtain ⟨j1, hj1⟩ : ∃ j : Nat, j = d1 % 16 := ⟨_, rfl⟩
      have hj1i : Go.bits BinOp.and IntKind.u32 (d1 : Int) 15 = (j1 : Int) := by
        rw [hj1, ← and15]; exact u32_and_nat d1 15 hd1b (by decide)
      have hj1b : j1 < 16 := by omega
      have hj1c : (j1 : Int) < 16 := by omega
      have hc1 := tab_cell HT.out hj1b
      obtain ⟨s1, hs1⟩ : ∃ s : Nat, s = step4 j1 := ⟨_, rfl⟩
      rw [← hs1] at hc1
      obtain ⟨d2, hd2⟩ : ∃ d : Nat, d = step4 d1 := ⟨_, rfl⟩
      have hd2i : Go.bits BinOp.xor IntKind.u32 (q1 : Int) (s1 : Int) = (d2 : Int) := by
        rw [hd2, ← step4_table, ← hj1, ← hq1, ← hs1]
        exact u32_xor_nat q1 s1 hq1b (by rw [hs1]; exact step4_lt (by omega))
      have hd2b : d2 < 4294967296 := by rw [hd2]; exact step4_lt hd1b
      have HF : Hid (d2 = crcR (l.take (i + 1)) z) := by
        show _ = _
        rw [crcR_take hr, ← HC.out, hd2, hd1, hd0]; rfl
      clear hd0 hd1 hd2 hq0 hq1 hj0 hj1 hs0 hs1 hr hrb
      go_wp2_with fail
      go_roundw
      case rel => exact ⟨d2, i + 1, rfl, by go_num, by omega, HF.out, HT.out, HB.out⟩
      case measure => simp [intOf]; omega
    · have hii : ¬ (i : Int) < (n : Int) := by omega
      have hie : i = n := by omega
      have hnf := u32_not c hc32
      obtain ⟨y, hy⟩ : ∃ y : Nat, y = 4294967295 - c := ⟨_, rfl⟩
      rw [← hy] at hnf
      have HF : Hid (4294967295 - crcR l z = y) := by
        show _ = _
        have e : l.take i = l := by rw [hie]; exact List.take_of_length_le (by rw [← HLN.out]; exact Nat.le_refl _)
        have := HC.out
        rw [e] at this
        rw [← this, hy]
      clear hy hie
      go_wp2_with fail
      rw [wpIn_wide]
      go_wp2_with fail
      go_ret
      exact ⟨by rw [← HZ.out, HF.out]; rfl, HB.out⟩

theorem csum_any (a : Option Addr) (n cap : Nat) (l : List Int) (w : World) (h : Sl bcod w a n cap l) (hl : Byt l) (hn : n ≤ 1000000000) :
    Calls Try.prog 120 #[.slice a n cap] w fun e w' => e = .returned (.int .u32 ((crcE l : Nat) : Int)) ∧ Below w.heap.size w w' := by
  go_enter Try.func120, Try.ntmps120
  go_wp2_with (go_at_call 140; go_loud (refine (cmore_any 0 (by decide) a n cap l _ h hl hn).mono ?_); rintro e w1 ⟨rfl, hb1⟩)
  go_ret
  exact ⟨rfl, hb1⟩
end Go.Proofs.Ytbdkhgenkekioaa.Wi
