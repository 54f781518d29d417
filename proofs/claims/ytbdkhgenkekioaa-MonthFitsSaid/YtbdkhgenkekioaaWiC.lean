/- Numbers as bytes: varint.Put, walked. -/
/- Numbers as bytes: taken, walked. -/
import Derived.Test.YtbdkhgenkekioaaWiA
import Derived.ScopeJumps
namespace Go.Proofs.Ytbdkhgenkekioaa.Wi
open Go.RowKit Go.V Go.Proofs

/-- A scope with jumps back, the way from the label on shown once. -/
theorem scope_jumps {P : Program} {a : Act} {w : World} {Q : Exit → Act → World → Prop} {c rest : Code} (l : Nat) (J : Act → World → Prop) (μ : Act → World → Nat) (hf : findLabel c l = some (Code.skip.seq rest))
    (first : (∀ a w, J a w → rest.wp P (Exit.jump l J Q) a w) → c.wp P (Exit.jump l J Q) a w)
    (pass : ∀ a w, J a w → rest.wp P (Exit.jump l (fun a' w' => J a' w' ∧ μ a' w' < μ a w) Q) a w) : (Code.scope c).wp P Q a w :=
  wp_scope_jumps l J μ hf (first fun a w h => Code.wp_mono (fun e a' w' hq => by
    cases e <;> first | exact ⟨hq.1, hq.2.1⟩ | exact hq) (pass a w h)) (fun a w h => wp_seq (wp_skip (pass a w h)))

set_option maxHeartbeats 1000000 in
theorem vput_any (n : Nat) (w : World) (hn : n < 18446744073709551616) : Calls Try.prog 99 #[.int .u64 (n : Int)] w fun e w' => ∃ v, e = .returned v ∧ V.Own 5 bcod w.heap.size w' v (putV n) ∧ Below w.heap.size w w' := by
  go_enter Try.func99, Try.ntmps99
  go_wp2_with fail
  refine scope_jumps 0 (fun a' w' => ∃ (k : Nat) (pre : List Int) (v u1 u2 u4 u5 u6 u7 u8 u9 u10 u11 u12 u13 u14 u15 u16 u17 u18 : Value), a' = { tmps := #[.int .u64 ((k : Nat) : Int), u1, u2, v, u4, u5, u6, u7, u8, u9, u10, u11, u12, u13, u14, u15, u16, u17, u18], defers := [] } ∧ k ≤ n ∧ V.Own 5 bcod w.heap.size w' v pre ∧ Below w.heap.size w w' ∧ pre ++ putV k = putV n) (fun a' _ => (intOf (a'.tmps.getD 0 undef)).toNat) rfl ?_ ?_
  · intro hpass
    have HPS := Lib.hid hpass
    clear hpass
    go_wp2_with fail
    go_step3
    simp only [Exit.then]
    refine (show ∀ (a : Act) (w : World), Code.wp Try.prog _ _ a w → _ from by assumption) _ _ ?_
    exact HPS.out _ _ ⟨n, [], .slice none 0 0, _, _, _, _, _, _, _, _, _, _, _, _, _, _, _, _, _, rfl, Nat.le_refl _, Own.nil, Below.refl _ _, rfl⟩
  · intro a1 w1 hJ1
    obtain ⟨k, pre, v, u1, u2, u4, u5, u6, u7, u8, u9, u10, u11, u12, u13, u14, u15, u16, u17, u18, ha1, hk, ho, hb, he⟩ := hJ1
    subst ha1
    go_hide hQ
    have HO := Lib.hid ho
    have HB := Lib.hid hb
    have HE := Lib.hid he
    clear ho hb he
    have hpl := put_len HE.out hn
    have HM1 : Hid (pre.length + 1 ≤ maxLen) := by show _ ≤ _; unfold maxLen; omega
    have HM2 : Hid ((pre.length + 1) * 1 ≤ 140737488355328) := by show _ ≤ _; omega
    clear hpl
    by_cases hs : k < 128
    · have hd : decide ((127 : Int) < (k : Int)) = false := decide_eq_false (by omega)
      have hc1 : IntKind.u8.wrap (k : Int) = (k : Int) := by rw [wraps_u8n]; omega
      have HPS : Hid (pre ++ [(k : Int)] = putV n) := by
        have := HE.out
        rwa [putV_small hs] at this
      go_wp2_with (at_builtin; go_loud (refine wpList_app eltB rfl (.tmp 14) (.tmp 17) rfl (base := w.heap.size) _ pre rfl (HO.out.alloc _) _ 1 1 [(k : Int)] rfl (sl_new (c := bcod) _ #[.int .u8 k] 5 [(k : Int)] 1 rfl (by unfold maxLen; omega) rfl) HM1.out HM2.out (by have := HB.out.size; simp; omega) ?_); intro v1 w1 ho hg; have HO1 := Lib.hid ho; have HB1 : Hid (Below w.heap.size w w1) := (HB.out.alloc HB.out.size _).trans (own_below (HO.out.alloc _) hg (by have := HB.out.size; simp; omega)); clear ho hg)
      subst hQ
      simp only [Exit.jump]
      go_ret
      exact ⟨_, rfl, by rw [← HPS.out]; exact HO1.out, HB1.out⟩
    · have hd : decide ((127 : Int) < (k : Int)) = true := decide_eq_true (by omega)
      have hk6 : (k : Int) < 18446744073709551616 := by omega
      obtain ⟨y, hy⟩ : ∃ y : Int, y = ((k % 128 + 128 : Nat) : Int) := ⟨_, rfl⟩
      obtain ⟨q, hq⟩ : ∃ q : Int, q = ((k / 128 : Nat) : Int) := ⟨_, rfl⟩
      have hc1 : Go.bits BinOp.or IntKind.u8 ((k : Int) % 256) 128 = y := by
        rw [hy]; exact or128_u8 k
      have hc2 : (k : Int) / 128 = q := by omega
      have HP := Lib.hid (put_pre HE.out hs)
      rw [← hy] at HP
      replace hy := Lib.hid hy
      replace hq := Lib.hid hq
      go_wp2_with (at_builtin; go_loud (refine wpList_app eltB rfl (.tmp 6) (.tmp 10) rfl (base := w.heap.size) _ pre rfl (HO.out.alloc _) _ 1 1 [y] rfl (sl_new (c := bcod) _ #[.int .u8 y] 5 [y] 1 rfl (by unfold maxLen; omega) rfl) HM1.out HM2.out (by have := HB.out.size; simp; omega) ?_); intro v1 w1 ho hg; have HO1 := Lib.hid ho; have HB1 : Hid (Below w.heap.size w w1) := (HB.out.alloc HB.out.size _).trans (own_below (HO.out.alloc _) hg (by have := HB.out.size; simp; omega)); clear ho hg)
      have hq' := hq.out
      subst hq'
      subst hQ
      go_step3
      exact ⟨rfl, ⟨k / 128, _, _, _, _, _, _, _, _, _, _, _, _, _, _, _, _, _, _, _, rfl, by omega, HO1.out, HB1.out, HP.out⟩, by simp [intOf]; omega⟩
end Go.Proofs.Ytbdkhgenkekioaa.Wi

namespace Go.Proofs.Ytbdkhgenkekioaa.Wi
open Go.RowKit Go.V Go.Proofs

theorem drop_at {l : List Int} {i : Nat} {r : Int} (h : l[i]? = some r) : l.drop i = r :: l.drop (i + 1) := by
  obtain ⟨hl, e⟩ := List.getElem?_eq_some_iff.1 h
  rw [← e]; exact List.drop_eq_getElem_cons hl
theorem takeGo_at {l : List Int} {i m : Nat} {r : Int} (h : l[i]? = some r) : takeGo (l.drop i) i m = if i = 9 ∧ 1 < r then (0, 0, 11) else if 127 < r then takeGo (l.drop (i + 1)) (i + 1) (m + (r.toNat % 128) * 128 ^ i) else if r = 0 ∧ 0 < i then (0, 0, 11) else (m + (r.toNat % 128) * 128 ^ i, i + 1, 0) := by
  rw [drop_at h]; rfl
theorem takeGo_end {l : List Int} {i m : Nat} (h : l.length ≤ i) : takeGo (l.drop i) i m = (0, 0, 10) := by
  rw [List.drop_eq_nil_of_le h]; rfl
theorem wraps_u64n (n : Int) : IntKind.u64.wrap n = n % 18446744073709551616 := by simp [IntKind.wrap, IntKind.bits, IntKind.signed]
/-- A digit more. -/
theorem dig_lt {m i c : Nat} (h : m < 128 ^ i) : m + (c % 128) * 128 ^ i < 128 ^ (i + 1) := by
  have h1 : c % 128 * 128 ^ i ≤ 127 * 128 ^ i := Nat.mul_le_mul_right _ (by omega)
  rw [Nat.pow_succ]; omega
theorem dig_or {m i c : Nat} (h : m < 128 ^ i) : m ||| (c % 128) * 128 ^ i = m + (c % 128) * 128 ^ i := by
  have e : (128 : Nat) ^ i = 2 ^ (7 * i) := by rw [Nat.pow_mul]
  rw [e] at h ⊢
  rw [Nat.mul_comm, Nat.or_comm, ← Nat.two_pow_add_eq_or_of_lt h]
  omega
set_option maxRecDepth 10000 in
theorem and127 : ∀ x : Fin 256, (x.val &&& 127) = x.val % 128 := by decide

theorem dig_b {m i c : Nat} (hm : m < 128 ^ i) (hi : i ≤ 9) (h9 : i = 9 → c ≤ 1) : m < 2 ^ 64 ∧ (c % 128) * 128 ^ i < 2 ^ 64 := by
  have h1 : (128 : Nat) ^ i ≤ 128 ^ 9 := Nat.pow_le_pow_right (by decide) hi
  have h2 : (128 : Nat) ^ 9 < 2 ^ 64 := by decide
  refine ⟨by omega, ?_⟩
  by_cases e : i = 9
  · subst e
    have : c % 128 ≤ 1 := by have := h9 rfl; omega
    have := Nat.mul_le_mul_right (128 ^ 9) this
    omega
  · have h3 : (128 : Nat) ^ i ≤ 128 ^ 8 := Nat.pow_le_pow_right (by decide) (by omega)
    have h4 : c % 128 * 128 ^ i ≤ 127 * 128 ^ 8 := Nat.mul_le_mul (by omega) h3
    have h5 : 127 * 128 ^ 8 < 2 ^ 64 := by decide
    omega
theorem or_shift {m i c : Nat} (hm : m < 128 ^ i) (hi : i ≤ 9) (h9 : i = 9 → c ≤ 1) : Go.bits BinOp.or IntKind.u64 (m : Int) (IntKind.u64.wrap (((c % 128 : Nat) : Int) * 2 ^ (7 * i))) = ((m + c % 128 * 128 ^ i : Nat) : Int) := by
  obtain ⟨h1, h2⟩ := dig_b (c := c) hm hi h9
  have e1 : ((c % 128 : Nat) : Int) * 2 ^ (7 * i) = ((c % 128 * 128 ^ i : Nat) : Int) := by
    rw [show (128 : Nat) ^ i = 2 ^ (7 * i) by rw [Nat.pow_mul]]
    push_cast; rfl
  have e2 : IntKind.u64.wrap ((c % 128 * 128 ^ i : Nat) : Int) = ((c % 128 * 128 ^ i : Nat) : Int) := by
    rw [wraps_u64n]; omega
  rw [e1, e2, ← dig_or hm]
  exact (bits_nat .u64 64 (by decide) (fun n h0 h1 => by rw [wraps_u64n]; omega) m _ h1 h2).2

set_option maxHeartbeats 4000000 in
theorem vtake_any (a : Option Addr) (n cap : Nat) (l : List Int) (w : World) (h : Sl bcod w a n cap l) (hl : Byt l) (hn : n ≤ 1000000000) :
    Calls Try.prog 129 #[.slice a n cap] w fun e w' => e = .returned (.tuple #[.int .u64 ((takeV l).1 : Int), .int .i64 ((takeV l).2.1 : Int), .int .i64 (takeV l).2.2]) ∧ Below w.heap.size w w' := by
  have hln : n = l.length := h.hlen
  have HS := Lib.hid h
  have HLB := Lib.hid hl
  have HLN := Lib.hid hln
  clear h hl hln
  go_enter Try.func129, Try.ntmps129
  go_wp2_with fail
  refine scope_jumps 0 (fun a' w' => ∃ (m i : Nat) (u1 u2 u3 u4 u7 u8 u9 u10 u11 u12 u13 u14 u15 u16 u17 u18 u19 u20 u21 u22 u23 u24 u25 u26 u27 u28 u29 u30 u31 u32 u33 u34 u35 u36 u37 u38 u39 u40 u41 u42 : Value), a' = { tmps := #[.slice a n cap, u1, u2, u3, u4, .int .u64 ((m : Nat) : Int), .int .i64 ((i : Nat) : Int), u7, u8, u9, u10, u11, u12, u13, u14, u15, u16, u17, u18, u19, u20, u21, u22, u23, u24, u25, u26, u27, u28, u29, u30, u31, u32, u33, u34, u35, u36, u37, u38, u39, u40, u41, u42], defers := [] } ∧ i ≤ 9 ∧ i ≤ n ∧ m < 128 ^ i ∧ Below w.heap.size w w' ∧ takeGo (l.drop i) i m = takeV l) (fun a' _ => n - (intOf (a'.tmps.getD 6 undef)).toNat) rfl ?_ ?_
  · intro hpass
    have HPS := Lib.hid hpass
    clear hpass
    go_wp2_with fail
    go_step3
    simp only [Exit.then]
    refine (show ∀ (a : Act) (w : World), Code.wp Try.prog _ _ a w → _ from by assumption) _ _ ?_
    exact HPS.out _ _ ⟨0, 0, _, _, _, _, _, _, _, _, _, _, _, _, _, _, _, _, _, _, _, _, _, _, _, _, _, _, _, _, _, _, _, _, _, _, _, _, _, _, _, _, rfl, by omega, by omega, by decide, Below.refl _ _, rfl⟩
  · intro a1 w1 hJ1
    obtain ⟨m, i, u1, u2, u3, u4, u7, u8, u9, u10, u11, u12, u13, u14, u15, u16, u17, u18, u19, u20, u21, u22, u23, u24, u25, u26, u27, u28, u29, u30, u31, u32, u33, u34, u35, u36, u37, u38, u39, u40, u41, u42, ha1, hi9, hin, hm, hb, he⟩ := hJ1
    subst ha1
    go_hide hQ
    have HB := Lib.hid hb
    have HE := Lib.hid he
    have HM := Lib.hid hm
    clear hb he hm
    by_cases hend : i = n
    · have hd : ((i : Int) == (n : Int)) = true := by rw [beq_iff_eq]; omega
      have HT : Hid (takeV l = (0, 0, 10)) := by
        show _ = _
        rw [← HE.out]; exact takeGo_end (by have := HLN.out; omega)
      go_wp2_with fail
      subst hQ
      simp only [Exit.jump]
      go_ret3
      exact ⟨by rw [HT.out]; rfl, HB.out⟩
    · have hd : ((i : Int) == (n : Int)) = false := by rw [beq_eq_false_iff_ne]; omega
      have hlt : i < n := by omega
      obtain ⟨b, off, r, rfl, hbl, hr, hc⟩ := byte_at (HS.out.below HB.out) hlt
      have hrb := HLB.out r (List.mem_of_getElem? hr)
      have HT := Lib.hid ((takeGo_at (m := m) hr).symm.trans HE.out)
      clear hr
      have hii : (i : Int) < (n : Int) := by omega
      by_cases h9 : i = 9 ∧ 1 < r
      · have hd1 : ((i : Int) == 9) = true := by rw [beq_iff_eq]; omega
        have hd2 : decide (1 < r) = true := decide_eq_true h9.2
        have HR : Hid (takeV l = (0, 0, 11)) := by
          show _ = _
          rw [← HT.out, if_pos h9]
        clear h9
        go_wp2_with fail
        subst hQ
        simp only [Exit.jump]
        go_ret3
        exact ⟨by rw [HR.out]; rfl, HB.out⟩
      · obtain ⟨c, hcr⟩ : ∃ c : Nat, r = c := ⟨r.toNat, by omega⟩
        subst hcr
        have hc256 : c < 256 := by omega
        obtain ⟨y, hy⟩ : ∃ y : Int, y = ((c % 128 : Nat) : Int) := ⟨_, rfl⟩
        have hy1 : Go.bits BinOp.and IntKind.u8 (c : Int) 127 = y := by
          have h := (bits_nat .u8 8 (by decide) wraps_u8 c 127 (by omega) (by decide)).1
          rw [and127 ⟨c, hc256⟩] at h
          rw [hy]; exact h
        have hy2 : 0 ≤ y ∧ y < 128 := by omega
        have h91 : i = 9 → c ≤ 1 := fun e => by
          by_cases q : c ≤ 1
          · exact q
          · exact absurd ⟨e, by omega⟩ h9
        have HTT : Hid (takeV l = if 127 < (c : Int) then takeGo (List.drop (i + 1) l) (i + 1) (m + c % 128 * 128 ^ i) else if (c : Int) = 0 ∧ 0 < i then (0, 0, 11) else (m + c % 128 * 128 ^ i, i + 1, 0)) := by
          show _ = _
          rw [← HT.out, if_neg h9]; rfl
        obtain ⟨x, hx⟩ : ∃ x : Nat, x = m + c % 128 * 128 ^ i := ⟨_, rfl⟩
        have hz : Go.bits BinOp.or IntKind.u64 (m : Int) (IntKind.u64.wrap (y * 2 ^ (7 * i))) = ((x : Nat) : Int) := by
          rw [hy, hx]; exact or_shift HM.out hi9 h91
        have HX := Lib.hid hx
        have HC : Hid (c < 256) := hc256
        clear hy hx h9 hc256
        by_cases hbig : 127 < c
        · have hd1 : ((i : Int) == 9) = false := by rw [beq_eq_false_iff_ne]; omega
          have hd3 : decide ((127 : Int) < (c : Int)) = true := decide_eq_true (by omega)
          have HR : Hid (takeGo (List.drop (i + 1) l) (i + 1) x = takeV l) := by
            show _ = _
            rw [HTT.out, if_pos (by omega), HX.out]
          have HXL : Hid (x < 128 ^ (i + 1)) := by show _ < _; rw [HX.out]; exact dig_lt HM.out
          have hi8 : i < 9 := by
            rcases Nat.lt_or_ge i 9 with q | q
            · exact q
            · have := h91 (by omega); omega
          clear h91
          go_wp2_with fail
          subst hQ
          go_step3
          exact ⟨rfl, ⟨x, i + 1, _, _, _, _, _, _, _, _, _, _, _, _, _, _, _, _, _, _, _, _, _, _, _, _, _, _, _, _, _, _, _, _, _, _, _, _, _, _, _, _, rfl, by omega, by omega, HXL.out, HB.out, HR.out⟩, by simp [intOf]; omega⟩
        · have hd3 : decide ((127 : Int) < (c : Int)) = false := decide_eq_false (by omega)
          by_cases hz0 : c = 0 ∧ 0 < i
          · have hd4 : ((c : Int) == 0) = true := by rw [beq_iff_eq]; omega
            have hd5 : decide ((1 : Int) < (i : Int) + 1) = true := decide_eq_true (by omega)
            have HR : Hid (takeV l = (0, 0, 11)) := by
              show _ = _
              rw [HTT.out, if_neg (by omega), if_pos (by omega)]
            have hd2 : decide ((1 : Int) < (c : Int)) = false := decide_eq_false (by omega)
            clear h91 hz0
            by_cases h9i : i = 9
            · have hd1 : ((i : Int) == 9) = true := by rw [beq_iff_eq]; omega
              clear h9i
              go_wp2_with fail
              subst hQ
              simp only [Exit.jump]
              go_ret3
              exact ⟨by rw [HR.out]; rfl, HB.out⟩
            · have hd1 : ((i : Int) == 9) = false := by rw [beq_eq_false_iff_ne]; omega
              go_wp2_with fail
              subst hQ
              simp only [Exit.jump]
              go_ret3
              exact ⟨by rw [HR.out]; rfl, HB.out⟩
          · have HR : Hid (takeV l = (x, i + 1, 0)) := by
              show _ = _
              rw [HTT.out, if_neg (by omega), if_neg (by omega), HX.out]
            by_cases hc0 : c = 0
            · have hd4 : ((c : Int) == 0) = true := by rw [beq_iff_eq]; omega
              have hd5 : decide ((1 : Int) < (i : Int) + 1) = false := decide_eq_false (by omega)
              have hd1 : ((i : Int) == 9) = false := by rw [beq_eq_false_iff_ne]; omega
              clear h91 hc0 hz0
              go_wp2_with fail
              subst hQ
              simp only [Exit.jump]
              go_ret3
              exact ⟨by rw [HR.out]; rfl, HB.out⟩
            · have hd4 : ((c : Int) == 0) = false := by rw [beq_eq_false_iff_ne]; omega
              by_cases h9i : i = 9
              · have hd1 : ((i : Int) == 9) = true := by rw [beq_iff_eq]; omega
                have hd2 : decide ((1 : Int) < (c : Int)) = false := decide_eq_false (by have := h91 h9i; omega)
                clear h91 h9i
                go_wp2_with fail
                subst hQ
                simp only [Exit.jump]
                go_ret3
                exact ⟨by rw [HR.out]; rfl, HB.out⟩
              · have hd1 : ((i : Int) == 9) = false := by rw [beq_eq_false_iff_ne]; omega
                clear h91
                go_wp2_with fail
                subst hQ
                simp only [Exit.jump]
                go_ret3
                exact ⟨by rw [HR.out]; rfl, HB.out⟩
end Go.Proofs.Ytbdkhgenkekioaa.Wi
