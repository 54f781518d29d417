/- Grids: the stops of a cell, by definition. -/
import Derived.Test.YtehflakmellooaaGrD
namespace Go.Proofs.Ytehflakmellooaa.Ne
open Go.RowKit Go.V Go.Proofs

/-- The numbers of the stops of a cell. -/
def inC (z X Y : Int) (q : Stp × Nat) : Bool := decide (q.1.x / z = X ∧ q.1.y / z = Y)
def idxs (S : List Stp) (z X Y : Int) : List Int := ((S.zipIdx).filter (inC z X Y)).map fun q => (q.2 : Int)
theorem idxs_snoc (S : List Stp) (z X Y : Int) {k : Nat} {s : Stp} (h : S[k]? = some s) : idxs (S.take (k + 1)) z X Y = if s.x / z = X ∧ s.y / z = Y then idxs (S.take k) z X Y ++ [(k : Int)] else idxs (S.take k) z X Y := by
  have hk := (List.getElem?_eq_some_iff.1 h).1
  have hl : (S.take k).length = k := by rw [List.length_take]; omega
  unfold idxs
  rw [take_at h, List.zipIdx_append, List.filter_append, List.map_append, hl]
  by_cases hh : s.x / z = X ∧ s.y / z = Y
  · rw [if_pos hh]
    simp [inC, hh]
  · rw [if_neg hh]
    simp [inC, hh]
theorem mem_idxs {S : List Stp} {z X Y : Int} {i : Int} : i ∈ idxs S z X Y ↔ ∃ (k : Nat) (s : Stp), i = k ∧ S[k]? = some s ∧ s.x / z = X ∧ s.y / z = Y := by
  unfold idxs
  rw [List.mem_map]
  constructor
  · rintro ⟨q, hq, rfl⟩
    rw [List.mem_filter] at hq
    obtain ⟨h1, h2⟩ := hq
    have := List.mem_zipIdx_iff_getElem?.1 h1
    have h2 := of_decide_eq_true h2
    exact ⟨q.2, q.1, rfl, this, h2.1, h2.2⟩
  · rintro ⟨k, s, rfl, h1, h2, h3⟩
    exact ⟨(s, k), List.mem_filter.2 ⟨List.mem_zipIdx_iff_getElem?.2 h1, decide_eq_true ⟨h2, h3⟩⟩, rfl⟩
theorem idxs_len (S : List Stp) (z X Y : Int) : (idxs S z X Y).length ≤ S.length := by
  unfold idxs
  rw [List.length_map]
  have := List.length_filter_le (inC z X Y) S.zipIdx
  rwa [List.length_zipIdx] at this
theorem quo_in {a z : Int} (ha : 0 ≤ a ∧ a < 67108864) (hz : 1 ≤ z) : IntKind.i64.wrap (a.tdiv z) = a / z ∧ 0 ≤ a / z ∧ a / z < 67108864 := by
  have h1 : 0 ≤ a / z := Int.ediv_nonneg ha.1 (by omega)
  have h2 := Int.ediv_le_self z ha.1
  refine ⟨?_, h1, by omega⟩
  rw [Int.tdiv_eq_ediv_of_nonneg ha.1, IntKind.wrap_i64]; omega

set_option maxHeartbeats 4000000 in
theorem rcell14_any (a : Option Addr) (n cap : Nat) (S : List Stp) (z X Y : Int) (w : World) (hn : n ≤ 200) (hz : 1 ≤ z) (hS : ∀ s ∈ S, stpB s = true) (h : Sl Stp.cod w a n cap S) :
    Calls Try.prog 12 #[.slice a n cap, .int .i64 z, Gr.cellV X Y] w fun e w' => ∃ v, e = .returned v ∧ V.Own 3 icod w.heap.size w' v (idxs S z X Y) ∧ Below w.heap.size w w' := by
  have hN := Lib.hid h.hlen
  have HX0 : Hid ((w.alloc (.cells #[.int .i64 X, .int .i64 Y] 34)).heap[w.heap.size]? = some (.cells #[.int .i64 X, .int .i64 Y] 34 (0, 0))) := box_new _ _
  have HB0 : Hid (Below w.heap.size w (w.alloc (.cells #[.int .i64 X, .int .i64 Y] 34))) := (Below.refl _ _).alloc (Nat.le_refl _) _
  have hz0 : z ≠ 0 := by omega
  have mixed : Try.prog.follows .mixedOrders = true := by kernel_rfl
  go_enter Try.func12, Try.ntmps12
  go_wp2
  go_loopw [7, 8] (fun v i wr => ∃ (k : Nat), k ≤ n ∧ i = .int .i64 k ∧ V.Own 3 icod (w.heap.size + 1) wr v (idxs (S.take k) z X Y) ∧ wr.heap[w.heap.size]? = some (.cells #[.int .i64 X, .int .i64 Y] 34 (0, 0)) ∧ Hid (Below w.heap.size w wr) ∧ w.heap.size < wr.heap.size) (fun _ i _ => n - (intOf i).toNat)
  case atStart => exact ⟨0, by omega, rfl, World.ownsRow_nil _ _ _ _, HX0.out, HB0, by simp⟩
  case round =>
    obtain ⟨k, hk, rfl, ho, hx, hb, hlw⟩ := hrel
    by_cases hlt : k < n
    · obtain ⟨b, off, r, rfl, hbl, hr, c0, c1⟩ := stp_at (h.below hb.out) hlt
      obtain ⟨y0, y1, -, -⟩ := box2_cells hx
      have HRk := Lib.hid hr
      have HO := Lib.hid ho
      have HX := Lib.hid hx
      have hltz : (k : Int) < n := by omega
      have hsb := of_decide_eq_true (hS r (List.mem_of_getElem? hr))
      obtain ⟨wx, bx⟩ := quo_in ⟨hsb.1, hsb.2.1⟩ hz
      obtain ⟨wy, bY⟩ := quo_in ⟨hsb.2.2.1, hsb.2.2.2⟩ hz
      have HSN := Lib.hid (idxs_snoc S z X Y hr)
      have HLN : Hid ((idxs (S.take k) z X Y).length ≤ 200) := by
        have := idxs_len (S.take k) z X Y
        rw [List.length_take] at this
        show _ ≤ _
        omega
      have HM1 : Hid ((idxs (S.take k) z X Y).length + 1 ≤ maxLen) := by have := HLN.out; show _ ≤ _; unfold maxLen; omega
      have HM2 : Hid (((idxs (S.take k) z X Y).length + 1) * 8 ≤ 140737488355328) := by have := HLN.out; show _ ≤ _; omega
      clear hr ho hx hsb
      obtain ⟨cx, hcx⟩ : ∃ c, r.x / z = c := ⟨_, rfl⟩
      obtain ⟨cy, hcy⟩ : ∃ c, r.y / z = c := ⟨_, rfl⟩
      rw [hcx] at wx bx HSN
      rw [hcy] at wy bY HSN
      clear hcx hcy
      have C0 := cell_regrown c0
      have C1 := cell_regrown c1
      have Y0 := cell_regrown y0
      have Y1 := cell_regrown y1
      clear c0 c1 y0 y1
      by_cases e1 : cx = X
      · subst e1
        by_cases e2 : cy = Y
        · subst e2
          have HS2 : Hid (idxs (S.take (k + 1)) z cx cy = idxs (S.take k) z cx cy ++ [(k : Int)]) := by show _ = _; rw [HSN.out, if_pos ⟨rfl, rfl⟩]
          clear HSN
          go_wp2_with fail
          refine wp_region_quiet_below (by assumption) (by kernel_rfl) ?_
          repeat (go_big_quiet_step (fail))
          refine wpQuiet_nil ?_
          intro w9 hw9
          obtain ⟨⟨nd, osq⟩, rfl⟩ := hw9
          have hb9 := below_regrown wr nd osq
          have HB9 : Hid (Below wr.heap.size wr (Go.Sort.grow (redrawn wr nd) osq)) := hb9
          have hs9 := hb9.size
          clear C0 C1 Y0 Y1
          generalize Go.Sort.grow (redrawn wr nd) osq = w9 at HB9 hs9 ⊢
          clear hb9
          have HO9 := Lib.hid (HO.out.below HB9.out)
          have HX9 := Lib.hid (box_below HX.out HB9.out)
          go_wp2_with (at_builtin; go_loud (refine wpList_app Ir.eltI rfl (.tmp 37) (.tmp 39) rfl (base := w.heap.size + 1) _ _ rfl (HO9.out.alloc _) _ 1 1 [(k : Int)] rfl (sl_new w9 #[.int .i64 k] 3 [(k : Int)] 1 rfl (by unfold maxLen; omega) rfl) HM1.out HM2.out (by simp; omega) ?_); intro v1 w1 ho hg; have HO1 := Lib.hid ho; have HG1 := Lib.hid hg; clear ho hg)
          go_roundw
          case rel =>
            have hbo : Below (w.heap.size + 1) (w9.alloc (.cells #[.int .i64 k] 3)) w1 := Ir.own_below (HO9.out.alloc _) HG1.out (by simp; omega)
            have hbb : Below w.heap.size w w1 := ((hb.out.trans (HB9.out.mono hb.out.size)).alloc (by have := hb.out.size; omega) _).trans (hbo.mono (Nat.le_succ _))
            exact ⟨k + 1, by omega, by go_num, by rw [HS2.out]; exact HO1.out, ((hbo.block w.heap.size (Nat.lt_succ_self _)).trans (box_alloc HX9.out)), hbb, by have := hbb.size; have := HG1.out.size; simp at this; omega⟩
          case measure => simp [intOf]; omega
        · have HS2 : Hid (idxs (S.take (k + 1)) z cx Y = idxs (S.take k) z cx Y) := by show _ = _; rw [HSN.out, if_neg (fun hh => e2 hh.2)]
          have q2 : (cy == Y) = false := by simpa using e2
          clear HSN e2
          go_wp2_with fail
          refine wp_region_quiet_below (by assumption) (by kernel_rfl) ?_
          repeat (go_big_quiet_step (fail))
          refine wpQuiet_nil ?_
          intro w9 hw9
          obtain ⟨⟨nd, osq⟩, rfl⟩ := hw9
          have hb9 := below_regrown wr nd osq
          have HB9 : Hid (Below wr.heap.size wr (Go.Sort.grow (redrawn wr nd) osq)) := hb9
          have hs9 := hb9.size
          clear C0 C1 Y0 Y1
          generalize Go.Sort.grow (redrawn wr nd) osq = w9 at HB9 hs9 ⊢
          clear hb9
          go_wp2_with fail
          go_roundw
          case rel => exact ⟨k + 1, by omega, by go_num, by rw [HS2.out]; exact HO.out.below HB9.out, box_below HX.out HB9.out, hb.out.trans (HB9.out.mono hb.out.size), by omega⟩
          case measure => simp [intOf]; omega
      · have HS2 : Hid (idxs (S.take (k + 1)) z X Y = idxs (S.take k) z X Y) := by show _ = _; rw [HSN.out, if_neg (fun hh => e1 hh.1)]
        have q2 : (cx == X) = false := by simpa using e1
        clear HSN e1
        go_wp2_with fail
        refine wp_region_quiet_below (by assumption) (by kernel_rfl) ?_
        repeat (go_big_quiet_step (fail))
        refine wpQuiet_nil ?_
        intro w9 hw9
        obtain ⟨⟨nd, osq⟩, rfl⟩ := hw9
        have hb9 := below_regrown wr nd osq
        have HB9 : Hid (Below wr.heap.size wr (Go.Sort.grow (redrawn wr nd) osq)) := hb9
        have hs9 := hb9.size
        clear C0 C1 Y0 Y1
        generalize Go.Sort.grow (redrawn wr nd) osq = w9 at HB9 hs9 ⊢
        clear hb9
        go_wp2_with fail
        go_roundw
        case rel => exact ⟨k + 1, by omega, by go_num, by rw [HS2.out]; exact HO.out.below HB9.out, box_below HX.out HB9.out, hb.out.trans (HB9.out.mono hb.out.size), by omega⟩
        case measure => simp [intOf]; omega
    · have hk' : k = n := by omega
      have HO := Lib.hid ho
      clear ho hx
      go_wp2
      go_ret
      exact ⟨_, rfl, by have e := HO.out; rw [hk', List.take_of_length_le (by rw [← hN.out]; omega)] at e; exact e.lower (Nat.le_succ _), hb.out⟩
end Go.Proofs.Ytehflakmellooaa.Ne
