/- The checksum's table, walked. -/
import Derived.Test.YtnjgonplojpcnaaWiF
import Derived.Test.YtnjgonplojpcnaaMid
namespace Go.Proofs.Ytnjgonplojpcnaa.Wi
open Go.RowKit Go.V Go.Proofs
open Go.Proofs.Ytnjgonplojpcnaa.Ne (box_alloc box_new box_cell box_below box_lt)
theorem below_set1 {w wr : World} {B p i : Nat} {v : Value} (h : Below B w wr) (hp : B ≤ p) : Below B w (wr.setCell ⟨p, i, none⟩ v) :=
  have e := setCells_rest p [v] i wr
  ⟨e.1.trans h.os, e.2.1.trans h.tape, e.2.2.1.trans h.output, by rw [show (wr.setCell ⟨p, i, none⟩ v) = wr.setCells p i [v] from rfl, e.2.2.2]; exact h.size, fun k hk => (heap_setCell_other wr ⟨p, i, none⟩ k v (by show k ≠ p; omega)).trans (h.block k hk)⟩
theorem below_sets {w wr : World} {B p o : Nat} {vs : List Value} (h : Below B w wr) (hp : B ≤ p) : Below B w (wr.setCells p o vs) := by
  obtain ⟨h1, h2, h3, h4⟩ := setCells_rest p vs o wr
  exact ⟨h1.trans h.os, h2.trans h.tape, h3.trans h.output, by rw [h4]; exact h.size, fun k hk => (setCells_other (by omega) vs o wr).trans (h.block k hk)⟩
theorem there_blk {w : World} {g : Nat} {cs : Array Value} {t : TypeId} (h : w.heap[g]? = some (.cells cs t (0, 0))) : w.there g 0 cs.size := fun j hj => by
  rw [Nat.zero_add]
  exact ⟨by rw [(box_cell h j).1, Array.getElem?_eq_getElem hj]; rfl, (box_cell h j).2⟩
theorem range_blk {w : World} {g : Nat} {cs : List Value} {t : TypeId} (h : w.heap[g]? = some (.cells cs.toArray t (0, 0))) : w.rangeAt g 0 cs := fun j v hv => by
  rw [Nat.zero_add, (box_cell h j).1, List.getElem?_toArray]; exact hv
theorem infoTab : (Try.prog.info? 147).map (·.size) = some 16 := by kernel_rfl

/-- What stands in an array of sixteen. -/
def padU (l : List Int) : List Value := l.map (Value.int .u32) ++ List.replicate (16 - l.length) (.int .u32 0)
theorem padU_len {l : List Int} (h : l.length ≤ 16) : (padU l).length = 16 := by unfold padU; simp; omega
theorem padU_one (l : List Int) : ∀ v ∈ padU l, v.oneCell' = true := by
  intro v hv
  unfold padU at hv
  rcases List.mem_append.1 hv with h | h
  · obtain ⟨x, -, rfl⟩ := List.mem_map.1 h; rfl
  · rw [List.eq_of_mem_replicate h]; rfl
theorem padU_at {l : List Int} {j : Nat} {x : Int} (h : l[j]? = some x) : (padU l)[j]? = some (.int .u32 x) := by
  unfold padU
  have := (List.getElem?_eq_some_iff.1 h).1
  rw [List.getElem?_append_left (by simpa using this), List.getElem?_map, h]; rfl
theorem padU_snoc {l : List Int} {x : Int} (h : l.length < 16) : (padU l).set l.length (.int .u32 x) = padU (l ++ [x]) := by
  unfold padU
  rw [List.set_append_right _ _ (by simp), List.length_map, Nat.sub_self]
  have e : 16 - l.length = (16 - (l ++ [x]).length) + 1 := by simp; omega
  rw [e, List.replicate_succ, List.set_cons_zero, List.map_append]
  simp
theorem padU_nil : padU [] = List.replicate 16 (.int .u32 0) := rfl
abbrev arrU (l : List Int) : Obj := .cells (padU l).toArray 147 (0, 0)
theorem arrU_set {w : World} {g : Nat} {l : List Int} {x : Int} (h : w.heap[g]? = some (arrU l)) (hl : l.length < 16) : (w.setCell ⟨g, l.length, none⟩ (.int .u32 x)).heap[g]? = some (arrU (l ++ [x])) := by
  rw [heap_setCell_same w g l.length _ _ _ h]
  congr 2
  rw [← padU_snoc hl]
  simp
/-- What four bits do. -/
def tabL (i : Nat) : List Int := (List.range i).map fun j => ((step4 j : Nat) : Int)
theorem tabL_len (i : Nat) : (tabL i).length = i := by unfold tabL; simp
theorem tabL_snoc (i : Nat) : tabL (i + 1) = tabL i ++ [((step4 i : Nat) : Int)] := by unfold tabL; rw [List.range_succ, List.map_append]; rfl
theorem tabL_at {i j : Nat} (h : j < i) : (tabL i)[j]? = some ((step4 j : Nat) : Int) := by unfold tabL; simp [h]
def stepN : Nat → Nat → Nat
  | 0, c => c
  | k + 1, c => stepN k (step1 c)

set_option maxHeartbeats 4000000 in
theorem ctable_any (w : World) : Calls Try.prog 95 #[] w fun e w' => e = .returned (.agg (padU (tabL 16)).toArray) ∧ Below w.heap.size w w' := by
  go_enter Try.func95, Try.ntmps95
  go_wp2_with fail
  have H0 : Hid (((w.alloc (arrU [])).alloc (arrU [])).heap[w.heap.size]? = some (arrU [])) := by
    show _ = _
    exact box_alloc (box_new w _)
  have H1 : Hid (((w.alloc (arrU [])).alloc (arrU [])).heap[w.heap.size + 1]? = some (arrU [])) := by
    show _ = _
    have := box_new (w.alloc (arrU [])) (arrU [])
    simpa using this
  have HB0 : Hid (Below w.heap.size w ((w.alloc (arrU [])).alloc (arrU []))) := ((Below.refl _ _).alloc (Nat.le_refl _) _).alloc (by simp) _
  go_loopw [4] (fun vi wr => ∃ (i : Nat), vi = .int .i64 ((i : Nat) : Int) ∧ i ≤ 16 ∧ Hid (wr.heap[w.heap.size]? = some (arrU [])) ∧ Hid (wr.heap[w.heap.size + 1]? = some (arrU (tabL i))) ∧ Hid (Below w.heap.size w wr)) (fun vi _ => 16 - (intOf vi).toNat)
  case atStart => exact ⟨0, rfl, by omega, H0.out, H1.out, HB0.out⟩
  case round =>
    obtain ⟨i, rfl, hi, HR, HT, HB⟩ := hrel
    by_cases hlt : i < 16
    · have hii : (i : Int) < 16 := by omega
      go_upto_region 7 with fail
      go_loopw [3, 9] (fun vc vk wr1 => ∃ (c k : Nat), vc = .int .u32 ((c : Nat) : Int) ∧ vk = .int .i64 ((k : Nat) : Int) ∧ k ≤ 4 ∧ c < 4294967296 ∧ Hid (stepN (4 - k) c = step4 i) ∧ wr1 = wr) (fun _ vk _ => 4 - (intOf vk).toNat)
      case atStart => exact ⟨i, 0, rfl, rfl, by omega, by omega, rfl, rfl⟩
      case round =>
        obtain ⟨c, k, rfl, rfl, hk, hc, HE, rfl⟩ := hrel
        by_cases hk4 : k < 4
        · have hkk : (k : Int) < 4 := by omega
          obtain ⟨q, hq⟩ : ∃ q : Nat, q = c / 2 := ⟨_, rfl⟩
          have hq1 : (c : Int) / 2 = (q : Int) := by omega
          have hq2 : q < 2147483648 := by omega
          have HN : Hid (stepN (4 - (k + 1)) (step1 c) = step4 i) := by
            show _ = _
            rw [← HE.out, show 4 - k = (4 - (k + 1)) + 1 by omega]; rfl
          obtain ⟨lo, hlo⟩ : ∃ lo : Int, ((c % 2 : Nat) : Int) = lo := ⟨_, rfl⟩
          have hla : Go.bits BinOp.and IntKind.u32 (c : Int) 1 = lo := by
            rw [← hlo, ← Nat.and_one_is_mod]; exact u32_and_nat c 1 hc (by decide)
          have hlo1 : lo = 0 ∨ lo = 1 := by omega
          have HQ := Lib.hid hq
          have HLO := Lib.hid hlo
          clear hq hlo
          by_cases hs : lo = 1
          · subst hs
            obtain ⟨g, hg⟩ : ∃ g : Nat, g = q ^^^ polyN := ⟨_, rfl⟩
            have hxo : Go.bits BinOp.xor IntKind.u32 (q : Int) 3988292384 = (g : Int) := by
              rw [hg]; exact u32_xor_nat q polyN (by omega) (by decide)
            have hg2 : g < 4294967296 := by rw [hg]; exact xor_lt32 (by omega) (by decide)
            have HS : Hid (step1 c = g) := by
              show _ = _
              have := HLO.out
              unfold step1
              rw [if_pos (by omega), hg, HQ.out]
            clear hg hlo1
            go_wp2_with fail
            go_roundw
            case rel => exact ⟨g, k + 1, rfl, by go_num, by omega, hg2, by rw [← HS.out]; exact HN.out, trivial⟩
            case measure => simp [intOf]; omega
          · have hs0 : lo = 0 := by omega
            subst hs0
            have HS : Hid (step1 c = q) := by
              show _ = _
              have := HLO.out
              unfold step1
              rw [if_neg (by omega), HQ.out]
            clear hs hlo1
            go_wp2_with fail
            go_roundw
            case rel => exact ⟨q, k + 1, rfl, by go_num, by omega, by omega, by rw [← HS.out]; exact HN.out, trivial⟩
            case measure => simp [intOf]; omega
        · have hk0 : k = 4 := by omega
          subst hk0
          have hcs : c = step4 i := HE.out
          have HCS := Lib.hid hcs
          clear hcs
          have hcell : ∃ v, wr.cell? ⟨w.heap.size + 1, i, none⟩ = some v ∧ wr.frozen? ⟨w.heap.size + 1, i, none⟩ = false := by
            have h1 := (box_cell HT.out i).1
            have h2 : i < (padU (tabL i)).toArray.size := by rw [List.size_toArray, padU_len (by rw [tabL_len]; omega)]; exact hlt
            exact ⟨_, h1.trans (Array.getElem?_eq_getElem h2), (box_cell HT.out i).2⟩
          obtain ⟨v0, hv0, hv1⟩ := hcell
          have HT2 : Hid ((wr.setCell ⟨w.heap.size + 1, i, none⟩ (.int .u32 (c : Int))).heap[w.heap.size + 1]? = some (arrU (tabL (i + 1)))) := by
            show _ = _
            have := arrU_set (x := ((c : Nat) : Int)) HT.out (by rw [tabL_len]; exact hlt)
            rw [tabL_len] at this
            rw [this, tabL_snoc, HCS.out]
          have HR2 : Hid ((wr.setCell ⟨w.heap.size + 1, i, none⟩ (.int .u32 (c : Int))).heap[w.heap.size]? = some (arrU [])) := by
            show _ = _
            rw [heap_setCell_other _ _ _ _ (by simp)]; exact HR.out
          have HB2 : Hid (Below w.heap.size w (wr.setCell ⟨w.heap.size + 1, i, none⟩ (.int .u32 (c : Int)))) := below_set1 HB.out (by omega)
          go_wp2_with fail
          go_roundw
          case rel => exact ⟨i + 1, by go_num, by omega, HR2.out, HT2.out, HB2.out⟩
          case measure => simp [intOf]; omega
    · have hie : i = 16 := by omega
      subst hie
      have HSZ : Hid ((padU (tabL 16)).toArray.size = 16) := by show _ = _; rw [List.size_toArray, padU_len (by rw [tabL_len]; omega)]
      have HTH : Hid (wr.there w.heap.size 0 16) := there_blk HR.out
      go_upto_region 14 with fail
      rw [← wpIn_wide (n := 0)]
      gi_wp2_with (first
        | (with_reducible refine wpListIn_load_mid rfl 147 (.tmp 1) rfl (w.heap.size + 1) 0 rfl (padU (tabL 16)) _ (range_blk HT.out) Try.underlying147 rfl (by rw [← List.size_toArray, HSZ.out]; exact infoTab) ?_)
        | (with_reducible refine wpListIn_store_mid rfl 147 (.tmp 0) (.tmp 24) rfl w.heap.size 0 (padU (tabL 16)).toArray rfl rfl (by rw [HSZ.out]; exact HTH.out) (by rw [HSZ.out]; exact infoTab) (all_oneCell_toArray (padU_one _)) ?_))
      go_wp2_with fail
      exact bodyPost_ret (results_cell_row rfl _ _ w.heap.size _ _ _ _ rfl (setCells_block HR.out (padU (tabL 16)) (by rw [← List.size_toArray, HSZ.out]; rfl)) Try.underlying147 rfl (by rw [HSZ.out]; exact infoTab)) rfl ⟨rfl, below_sets HB.out (Nat.le_refl _)⟩
end Go.Proofs.Ytnjgonplojpcnaa.Wi
