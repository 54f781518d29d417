/- The checksum, walked. -/
import Derived.Test.YtnjgonplojpcnaaWiG
namespace Go.Proofs.Ytnjgonplojpcnaa.Wi
open Go.RowKit Go.V Go.Proofs
open Go.Proofs.Ytnjgonplojpcnaa.Ne (box_alloc box_new box_cell box_below box_lt)

theorem tab_cell {w : World} {g : Nat} (h : w.heap[g]? = some (arrU (tabL 16))) {j : Nat} (hj : j < 16) : w.cell? ⟨g, j, none⟩ = some (.int .u32 ((step4 j : Nat) : Int)) := by
  rw [(box_cell h j).1, List.getElem?_toArray]; exact padU_at (tabL_at hj)
theorem u32_not (a : Nat) (ha : a < 4294967296) : Go.bits BinOp.xor IntKind.u32 IntKind.u32.max (a : Int) = ((4294967295 - a : Nat) : Int) := by
  show IntKind.u32.wrap ((BitVec.ofInt 32 IntKind.u32.max ^^^ BitVec.ofInt 32 (a : Int)).toNat : Int) = _
  have h1 : BitVec.ofInt 32 IntKind.u32.max = BitVec.allOnes 32 := by decide
  rw [h1, BitVec.allOnes_xor, BitVec.toNat_not, ofInt_u32 a (by omega)]
  simp [IntKind.wrap, IntKind.bits, IntKind.signed]
  omega
theorem and15 (n : Nat) : n &&& 15 = n % 16 := Nat.and_two_pow_sub_one_eq_mod (n := 4) n

set_option maxHeartbeats 4000000 in
theorem cmore_any (s : Nat) (hs : s < 4294967296) (a : Option Addr) (n cap : Nat) (l : List Int) (w : World) (h : Sl bcod w a n cap l) (hl : Byt l) (hn : n ≤ 1000000000) :
    Calls Try.prog 89 #[.int .u32 (s : Int), .slice a n cap] w fun e w' => e = .returned (.int .u32 ((4294967295 - crcR l (4294967295 - s) : Nat) : Int)) ∧ Below w.heap.size w w' := by
  have hln : n = l.length := h.hlen
  have HS := Lib.hid h
  have HLB := Lib.hid hl
  have HLN := Lib.hid hln
  clear h hl hln
  have HSZ : Hid ((padU (tabL 16)).toArray.size = 16) := by show _ = _; rw [List.size_toArray, padU_len (by rw [tabL_len]; omega)]
  go_enter Try.func89, Try.ntmps89
  rw [← wpIn_wide (n := 0)]
  have hf1 : Fence.wide.fn 95 := trivial
  gi_wp2_with fail
  refine ⟨rfl, (callsIn_wide.2 (ctable_any _)).mono ?_⟩
  rintro e w1 ⟨rfl, hb1⟩
  have HB1 := Lib.hid hb1
  clear hb1
  have HTH : Hid ((w1.alloc (.cells #[.int .u32 0, .int .u32 0, .int .u32 0, .int .u32 0, .int .u32 0, .int .u32 0, .int .u32 0, .int .u32 0, .int .u32 0, .int .u32 0, .int .u32 0, .int .u32 0, .int .u32 0, .int .u32 0, .int .u32 0, .int .u32 0] 147)).there w1.heap.size 0 16) := there_blk (box_new w1 (arrU []))
  gi_wp2_with (with_reducible refine wpListIn_store_mid rfl 147 (.tmp 5) (.tmp 9) rfl w1.heap.size 0 (padU (tabL 16)).toArray rfl rfl (by rw [HSZ.out]; exact HTH.out) (by rw [HSZ.out]; exact infoTab) (all_oneCell_toArray (padU_one _)) ?_)
  obtain ⟨W, hW⟩ : ∃ W, (w1.alloc (.cells #[.int .u32 0, .int .u32 0, .int .u32 0, .int .u32 0, .int .u32 0, .int .u32 0, .int .u32 0, .int .u32 0, .int .u32 0, .int .u32 0, .int .u32 0, .int .u32 0, .int .u32 0, .int .u32 0, .int .u32 0, .int .u32 0] 147)).setCells w1.heap.size 0 (padU (tabL 16)) = W := ⟨_, rfl⟩
  have HT0 : Hid (W.heap[w1.heap.size]? = some (arrU (tabL 16))) := by
    show _ = _
    rw [← hW]
    exact setCells_block (box_new w1 (arrU [])) (padU (tabL 16)) (by rw [← List.size_toArray, HSZ.out]; rfl)
  have HB2 : Hid (Below w.heap.size w W) := by
    show Below _ _ _
    rw [← hW]
    exact below_sets (HB1.out.alloc HB1.out.size _) HB1.out.size
  have hgs : w.heap.size ≤ w1.heap.size := HB1.out.size
  rw [hW, wpIn_wide]
  have hns : Go.bits BinOp.xor IntKind.u32 IntKind.u32.max (s : Int) = ((4294967295 - s : Nat) : Int) := u32_not s hs
  obtain ⟨z, hz⟩ : ∃ z : Nat, z = 4294967295 - s := ⟨_, rfl⟩
  rw [← hz] at hns
  rw [hns]
  have hzb : z < 4294967296 := by omega
  have HZ := Lib.hid hz
  clear hW hns hz HSZ HTH
  go_loopw [6, 14] (fun vc vi wr => ∃ (c i : Nat), vc = .int .u32 ((c : Nat) : Int) ∧ vi = .int .i64 ((i : Nat) : Int) ∧ i ≤ n ∧ Hid (c = crcR (l.take i) z) ∧ Hid (wr.heap[w1.heap.size]? = some (arrU (tabL 16))) ∧ Hid (Below w.heap.size w wr)) (fun _ vi _ => n - (intOf vi).toNat)
  case atStart => exact ⟨z, 0, rfl, rfl, by omega, by show _ = _; rw [List.take_zero]; rfl, HT0.out, HB2.out⟩
  case round =>
    obtain ⟨c, i, rfl, rfl, hin, HC, HT, HB⟩ := hrel
    have hc32 : c < 4294967296 := by
      rw [HC.out]; exact crcR_lt _ _ (HLB.out.take _) hzb
    by_cases hlt : i < n
    · have hii : (i : Int) < (n : Int) := by omega
      obtain ⟨b, off, r, rfl, hbl, hr, hcell⟩ := byte_at (HS.out.below HB.out) hlt
      have hrb := HLB.out r (List.mem_of_getElem? hr)
      obtain ⟨x, hx⟩ : ∃ x : Nat, r = x := ⟨r.toNat, by omega⟩
      subst hx
      have hx8 : (x : Int) < 256 := by omega
      obtain ⟨d0, hd0⟩ : ∃ d : Nat, d = c ^^^ x := ⟨_, rfl⟩
      have hd0i : Go.bits BinOp.xor IntKind.u32 (c : Int) (x : Int) = (d0 : Int) := by
        rw [hd0]; exact u32_xor_nat c x hc32 (by omega)
      have hd0b : d0 < 4294967296 := by rw [hd0]; exact xor_lt32 hc32 (by omega)
      obtain ⟨q0, hq0⟩ : ∃ q : Nat, q = d0 / 16 := ⟨_, rfl⟩
      have hq0i : (d0 : Int) / 16 = (q0 : Int) := by omega
      have hq0b : q0 < 4294967296 := by omega
      obtain ⟨j0, hj0⟩ : ∃ j : Nat, j = d0 % 16 := ⟨_, rfl⟩
      have hj0i : Go.bits BinOp.and IntKind.u32 (d0 : Int) 15 = (j0 : Int) := by
        rw [hj0, ← and15]; exact u32_and_nat d0 15 hd0b (by decide)
      have hj0b : j0 < 16 := by omega
      have hj0c : (j0 : Int) < 16 := by omega
      have hc0 := tab_cell HT.out hj0b
      obtain ⟨s0, hs0⟩ : ∃ s : Nat, s = step4 j0 := ⟨_, rfl⟩
      rw [← hs0] at hc0
      obtain ⟨d1, hd1⟩ : ∃ d : Nat, d = step4 d0 := ⟨_, rfl⟩
      have hd1i : Go.bits BinOp.xor IntKind.u32 (q0 : Int) (s0 : Int) = (d1 : Int) := by
        rw [hd1, ← step4_table, ← hj0, ← hq0, ← hs0]
        exact u32_xor_nat q0 s0 hq0b (by rw [hs0]; exact step4_lt (by omega))
      have hd1b : d1 < 4294967296 := by rw [hd1]; exact step4_lt hd0b
      obtain ⟨q1, hq1⟩ : ∃ q : Nat, q = d1 / 16 := ⟨_, rfl⟩
      have hq1i : (d1 : Int) / 16 = (q1 : Int) := by omega
      have hq1b : q1 < 4294967296 := by omega
      obtain ⟨j1, hj1⟩ : ∃ j : Nat, j = d1 % 16 := ⟨_, rfl⟩
      have hj1i : Go.bits BinOp.and IntKind.u32 (d1 : Int) 15 = (j1 : Int) := by
        rw [hj1, ← and15]; exact u32_and_nat d1 15 hd1b (by decide)
      have hj1b : j1 < 16 := by omega
      have hj1c : (j1 : Int) < 16 := by omega
      have hc1 := tab_cell HT.out hj1b
      obtain ⟨s1, hs1⟩ : ∃ s : Nat, s = step4 j1 := ⟨_, rfl⟩
      rw [← hs1] at hc1
      obtain ⟨d2, hd2⟩ : ∃ d : Nat, d = step4 d1 := ⟨_, rfl⟩
      have hd2i : Go.bits BinOp.xor IntKind.u32 (q1 : Int) (s1 : Int) = (d2 : Int) := by
        rw [hd2, ← step4_table, ← hj1, ← hq1, ← hs1]
        exact u32_xor_nat q1 s1 hq1b (by rw [hs1]; exact step4_lt (by omega))
      have hd2b : d2 < 4294967296 := by rw [hd2]; exact step4_lt hd1b
      have HF : Hid (d2 = crcR (l.take (i + 1)) z) := by
        show _ = _
        rw [crcR_take hr, ← HC.out, hd2, hd1, hd0]; rfl
      clear hd0 hd1 hd2 hq0 hq1 hj0 hj1 hs0 hs1 hr hrb
      go_wp2_with fail
      go_roundw
      case rel => exact ⟨d2, i + 1, rfl, by go_num, by omega, HF.out, HT.out, HB.out⟩
      case measure => simp [intOf]; omega
    · have hii : ¬ (i : Int) < (n : Int) := by omega
      have hie : i = n := by omega
      have hnf := u32_not c hc32
      obtain ⟨y, hy⟩ : ∃ y : Nat, y = 4294967295 - c := ⟨_, rfl⟩
      rw [← hy] at hnf
      have HF : Hid (4294967295 - crcR l z = y) := by
        show _ = _
        have e : l.take i = l := by rw [hie]; exact List.take_of_length_le (by rw [← HLN.out]; exact Nat.le_refl _)
        have := HC.out
        rw [e] at this
        rw [← this, hy]
      clear hy hie
      go_wp2_with fail
      rw [wpIn_wide]
      go_wp2_with fail
      go_ret
      exact ⟨by rw [← HZ.out, HF.out]; rfl, HB.out⟩

theorem csum_any (a : Option Addr) (n cap : Nat) (l : List Int) (w : World) (h : Sl bcod w a n cap l) (hl : Byt l) (hn : n ≤ 1000000000) :
    Calls Try.prog 75 #[.slice a n cap] w fun e w' => e = .returned (.int .u32 ((crcE l : Nat) : Int)) ∧ Below w.heap.size w w' := by
  go_enter Try.func75, Try.ntmps75
  go_wp2_with (go_at_call 89; go_loud (refine (cmore_any 0 (by decide) a n cap l _ h hl hn).mono ?_); rintro e w1 ⟨rfl, hb1⟩)
  go_ret
  exact ⟨rfl, hb1⟩
end Go.Proofs.Ytnjgonplojpcnaa.Wi
