/- Networks: lists of numbers held against one another, and the weight of two stops' link: the document's, walked. -/
import Derived.Test.YteihffnmgacfpaaNuQ
namespace Go.Proofs.Yteihffnmgacfpaa.Ne
open Go.RowKit Go.V Go.Proofs Go.Sort

set_option maxHeartbeats 1000000 in
theorem isame_any (a1 : Option Addr) (n1 cap1 : Nat) (xs : List Int) (a2 : Option Addr) (n2 cap2 : Nat) (ys : List Int) (w : World) (h1 : Sl icod w a1 n1 cap1 xs) (h2 : Sl icod w a2 n2 cap2 ys) :
    Calls Try.prog 27 #[.slice a1 n1 cap1, .slice a2 n2 cap2] w fun e w' => e = .returned (.bool (decide (xs = ys))) ∧ Below w.heap.size w w' := by
  have hN := Lib.hid h1.hlen
  have hM := Lib.hid h2.hlen
  have hm : n1 ≤ 9223372036854775807 := by have := h1.hcap; have := h1.hmax; unfold maxLen at this; omega
  by_cases hlen : n1 = n2
  · subst hlen
    go_enter Try.func27, Try.ntmps27
    go_wp2
    go_loopw [5] (fun i wr => ∃ (k : Nat), k ≤ n1 ∧ i = .int .i64 k ∧ Hid (xs.take k = ys.take k) ∧ Below w.heap.size w wr) (fun i _ => n1 - (intOf i).toNat)
    case atStart => exact ⟨0, by omega, rfl, by show _ = _; rw [List.take_zero, List.take_zero], Below.refl _ _⟩
    case round =>
      obtain ⟨k, hk, rfl, he, hb⟩ := hrel
      by_cases hlt : k < n1
      · obtain ⟨b, off, r, rfl, -, hr, c0⟩ := int_at (h1.below hb) hlt
        obtain ⟨b', off', r', rfl, -, hr', c0'⟩ := int_at (h2.below hb) hlt
        have HR := Lib.hid hr
        have HR' := Lib.hid hr'
        have HB := Lib.hid hb
        have hltz : (k : Int) < n1 := by omega
        clear hr hr' hb
        by_cases heq : r = r'
        · subst heq
          go_wp2_with fail
          go_quiet (fail)
          go_wp2_with fail
          go_roundw
          case rel => exact ⟨k + 1, by omega, by go_num, by show _ = _; rw [take_at HR.out, take_at HR'.out, he.out], below_drewN HB.out _⟩
          case measure => simp [intOf]; omega
        · have hq : (r != r') = true := by simpa using heq
          have hq2 : (r == r') = false := by simpa using heq
          have HE := Lib.hid heq
          clear heq
          go_wp2_with fail
          go_quiet (fail)
          go_wp2_with fail
          go_ret
          exact ⟨ret_bool (by
            symm; rw [decide_eq_false_iff_not]
            intro h; apply HE.out
            have a1 := HR.out; have a2 := HR'.out
            rw [h, a2] at a1; exact (Option.some.inj a1).symm), below_drewN HB.out _⟩
      · have hk' : k = n1 := by omega
        have HK := Lib.hid hk'; clear hk'
        go_wp2
        go_ret
        exact ⟨ret_bool (by
          have e := he.out
          rw [HK.out, List.take_of_length_le (by rw [← hN.out]; omega), List.take_of_length_le (by rw [← hM.out]; omega)] at e
          simp [e]), hb⟩
  · have hl : (((n1 : Int)) != (n2 : Int)) = true := by simp; omega
    have HL := Lib.hid hlen
    clear hlen
    go_enter Try.func27, Try.ntmps27
    go_wp2
    go_ret
    exact ⟨ret_bool (by
      have := HL.out
      symm; rw [decide_eq_false_iff_not]
      intro h; apply this; rw [hN.out, hM.out, h]), Below.refl _ _⟩

theorem wtE_past {L : List Lnk} {a b : Int} {k : Nat} {l : Lnk} (hk : L[k]? = some l) (hn : ∀ x ∈ L.take k, twoB a b x = false) (hl : twoB a b l = true) : wtE L a b = l.w := by
  unfold wtE
  have e : L = L.take k ++ L.drop k := (List.take_append_drop _ _).symm
  rw [e, List.find?_append, List.find?_eq_none.2 (fun x hx => by rw [hn x hx]; simp), drop_at hk]
  simp [hl]
theorem wtE_none {L : List Lnk} {a b : Int} (hn : ∀ x ∈ L, twoB a b x = false) : wtE L a b = 0 := by
  unfold wtE
  rw [List.find?_eq_none.2 (fun x hx => by rw [hn x hx]; simp)]

set_option maxHeartbeats 4000000 in
set_option maxRecDepth 100000 in
theorem rwt_any (n : Net) (hs hl : Hdr) (a b : Int) (w : World) (h : NetIn w n hs hl) :
    Calls Try.prog 30 #[n.val hs hl, .int .i64 a, .int .i64 b] w fun e w' => e = .returned (.int .i64 (wtE n.links a b)) ∧ Below w.heap.size w w' := by
  have mixed : Try.prog.follows .mixedOrders = true := by kernel_rfl
  obtain ⟨sa, k, sc⟩ := hs
  obtain ⟨la, m, lc⟩ := hl
  have hln : m = n.links.length := h.l.hlen
  have hm9 : m ≤ 9223372036854775807 := by have h1 : m ≤ lc := h.l.hcap; have h2 : lc ≤ maxLen := h.l.hmax; unfold maxLen at h2; omega
  have HLN := Lib.hid hln
  have HH := Lib.hid h
  have HX0 := Lib.hid (box_new w (n.box ⟨sa, k, sc⟩ ⟨la, m, lc⟩))
  have HB0 : Hid (Below w.heap.size w (w.alloc (n.box ⟨sa, k, sc⟩ ⟨la, m, lc⟩))) := (Below.refl _ _).alloc (Nat.le_refl _) _
  clear h hln
  go_enter Try.func30, Try.ntmps30
  go_wp2_with fail
  go_loopw [7] (fun i wr => ∃ j : Nat, i = .int .i64 j ∧ j ≤ m ∧ Hid (∀ x ∈ n.links.take j, twoB a b x = false) ∧ Hid (wr.heap[w.heap.size]? = some (n.box ⟨sa, k, sc⟩ ⟨la, m, lc⟩)) ∧ Hid (Below w.heap.size w wr)) (fun i _ => m - (intOf i).toNat)
  case atStart => exact ⟨0, by go_num, by omega, (fun x hx => by simp at hx), HX0.out, HB0.out⟩
  case round =>
    obtain ⟨j, rfl, hj, hno, HXr, HBX⟩ := hrel
    obtain ⟨c0, c1, c2, -, -, -⟩ := box3_cells HXr.out
    by_cases hlt : j < m
    · obtain ⟨b', off, l, ha, hbl, hr, p0, p1, p2⟩ := lnk_at (HH.out.l.below HBX.out) hlt
      have ha : la = _ := ha
      subst ha
      have HR := Lib.hid hr
      obtain ⟨xa, xb, xw⟩ := l
      have b0 : (j : Int) < (m : Int) := by omega
      have HBE := Lib.hid (HBX.out.alloc HBX.out.size (.cells #[.int .i64 xa, .int .i64 xb, .int .i64 xw] 49))
      have HXE := Lib.hid (box_alloc (o := .cells #[.int .i64 xa, .int .i64 xb, .int .i64 xw] 49) HXr.out)
      clear hr
      obtain ⟨bb, hbb⟩ : ∃ bb, twoB a b ⟨xa, xb, xw⟩ = bb := ⟨_, rfl⟩
      have HBB := Lib.hid hbb
      clear hbb
      cases bb with
      | true =>
        have hc : xa = a ∧ xb = b ∨ xa = b ∧ xb = a := of_decide_eq_true HBB.out
        have hc : (xa == a) = true ∧ (xb == b) = true ∨ ((xa == a) = true ∧ (xb == b) = false ∧ (xa == b) = true ∧ (xb == a) = true) ∨ ((xa == a) = false ∧ (xa == b) = true ∧ (xb == a) = true) := by
          simp only [beq_iff_eq, beq_eq_false_iff_ne]
          omega
        rcases hc with ⟨d1, d2⟩ | ⟨d1, d2, d3, d4⟩ | ⟨d1, d2, d3⟩
        all_goals
          go_wp2_with fail
          go_ret
          exact ⟨by rw [wtE_past HR.out hno.out HBB.out]; rfl, HBE.out⟩
      | false =>
        have hc : ¬ (xa = a ∧ xb = b ∨ xa = b ∧ xb = a) := of_decide_eq_false HBB.out
        have HNO : Hid (∀ x ∈ n.links.take (j + 1), twoB a b x = false) := by
          intro x hx
          rw [take_at HR.out] at hx
          rcases List.mem_append.1 hx with hx | hx
          · exact hno.out x hx
          · rw [List.mem_singleton] at hx; subst hx; exact HBB.out
        have hc : ((xa == a) = false ∧ (xa == b) = false) ∨ ((xa == a) = false ∧ (xa == b) = true ∧ (xb == a) = false) ∨ ((xa == a) = true ∧ (xb == b) = false ∧ (xa == b) = false) ∨ ((xa == a) = true ∧ (xb == b) = false ∧ (xa == b) = true ∧ (xb == a) = false) := by
          simp only [beq_iff_eq, beq_eq_false_iff_ne]
          omega
        rcases hc with ⟨d1, d2⟩ | ⟨d1, d2, d3⟩ | ⟨d1, d2, d3⟩ | ⟨d1, d2, d3, d4⟩
        all_goals
          go_wp2_with fail
          go_roundw
          case rel => exact ⟨j + 1, by go_num, by omega, HNO.out, HXE.out, HBE.out⟩
          case measure => simp [intOf]; omega
    · have hjm : m = j := by omega
      subst hjm
      have HZ : Hid (wtE n.links a b = 0) := by
        show _ = _
        refine wtE_none fun x hx => hno.out x ?_
        rw [List.take_of_length_le (by have := HLN.out; omega)]; exact hx
      go_wp2_with fail
      go_ret
      exact ⟨by rw [HZ.out]; rfl, HBX.out⟩
end Go.Proofs.Yteihffnmgacfpaa.Ne
