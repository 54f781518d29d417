/- Numbers as bytes: varint.Put, walked. -/
import Derived.Test.YtnjgonplojpcnaaWiA
import Derived.ScopeJumps
namespace Go.Proofs.Ytnjgonplojpcnaa.Wi
open Go.RowKit Go.V Go.Proofs

/-- A scope with jumps back, the way from the label on shown once. -/
theorem scope_jumps {P : Program} {a : Act} {w : World} {Q : Exit → Act → World → Prop} {c rest : Code} (l : Nat) (J : Act → World → Prop) (μ : Act → World → Nat) (hf : findLabel c l = some (Code.skip.seq rest))
    (first : (∀ a w, J a w → rest.wp P (Exit.jump l J Q) a w) → c.wp P (Exit.jump l J Q) a w)
    (pass : ∀ a w, J a w → rest.wp P (Exit.jump l (fun a' w' => J a' w' ∧ μ a' w' < μ a w) Q) a w) : (Code.scope c).wp P Q a w :=
  wp_scope_jumps l J μ hf (first fun a w h => Code.wp_mono (fun e a' w' hq => by
    cases e <;> first | exact ⟨hq.1, hq.2.1⟩ | exact hq) (pass a w h)) (fun a w h => wp_seq (wp_skip (pass a w h)))

set_option maxHeartbeats 1000000 in
theorem vput_any (n : Nat) (w : World) (hn : n < 18446744073709551616) : Calls Try.prog 73 #[.int .u64 (n : Int)] w fun e w' => ∃ v, e = .returned v ∧ V.Own 5 bcod w.heap.size w' v (putV n) ∧ Below w.heap.size w w' := by
  go_enter Try.func73, Try.ntmps73
  go_wp2_with fail
  refine scope_jumps 0 (fun a' w' => ∃ (k : Nat) (pre : List Int) (v u1 u2 u4 u5 u6 u7 u8 u9 u10 u11 u12 u13 u14 u15 u16 u17 u18 : Value), a' = { tmps := #[.int .u64 ((k : Nat) : Int), u1, u2, v, u4, u5, u6, u7, u8, u9, u10, u11, u12, u13, u14, u15, u16, u17, u18], defers := [] } ∧ k ≤ n ∧ V.Own 5 bcod w.heap.size w' v pre ∧ Below w.heap.size w w' ∧ pre ++ putV k = putV n) (fun a' _ => (intOf (a'.tmps.getD 0 undef)).toNat) rfl ?_ ?_
  · intro hpass
    have HPS := Lib.hid hpass
    clear hpass
    go_wp2_with fail
    go_step3
    simp only [Exit.then]
    refine (show ∀ (a : Act) (w : World), Code.wp Try.prog _ _ a w → _ from by assumption) _ _ ?_
    exact HPS.out _ _ ⟨n, [], .slice none 0 0, _, _, _, _, _, _, _, _, _, _, _, _, _, _, _, _, _, rfl, Nat.le_refl _, Own.nil, Below.refl _ _, rfl⟩
  · intro a1 w1 hJ1
    obtain ⟨k, pre, v, u1, u2, u4, u5, u6, u7, u8, u9, u10, u11, u12, u13, u14, u15, u16, u17, u18, ha1, hk, ho, hb, he⟩ := hJ1
    subst ha1
    go_hide hQ
    have HO := Lib.hid ho
    have HB := Lib.hid hb
    have HE := Lib.hid he
    clear ho hb he
    have hpl := put_len HE.out hn
    have HM1 : Hid (pre.length + 1 ≤ maxLen) := by show _ ≤ _; unfold maxLen; omega
    have HM2 : Hid ((pre.length + 1) * 1 ≤ 140737488355328) := by show _ ≤ _; omega
    clear hpl
    by_cases hs : k < 128
    · have hd : decide ((127 : Int) < (k : Int)) = false := decide_eq_false (by omega)
      have hc1 : IntKind.u8.wrap (k : Int) = (k : Int) := by rw [wraps_u8n]; omega
      have HPS : Hid (pre ++ [(k : Int)] = putV n) := by
        have := HE.out
        rwa [putV_small hs] at this
      go_wp2_with (at_builtin; go_loud (refine wpList_app eltB rfl (.tmp 14) (.tmp 17) rfl (base := w.heap.size) _ pre rfl (HO.out.alloc _) _ 1 1 [(k : Int)] rfl (sl_new (c := bcod) _ #[.int .u8 k] 5 [(k : Int)] 1 rfl (by unfold maxLen; omega) rfl) HM1.out HM2.out (by have := HB.out.size; simp; omega) ?_); intro v1 w1 ho hg; have HO1 := Lib.hid ho; have HB1 : Hid (Below w.heap.size w w1) := (HB.out.alloc HB.out.size _).trans (own_below (HO.out.alloc _) hg (by have := HB.out.size; simp; omega)); clear ho hg)
      subst hQ
      simp only [Exit.jump]
      go_ret
      exact ⟨_, rfl, by rw [← HPS.out]; exact HO1.out, HB1.out⟩
    · have hd : decide ((127 : Int) < (k : Int)) = true := decide_eq_true (by omega)
      have hk6 : (k : Int) < 18446744073709551616 := by omega
      obtain ⟨y, hy⟩ : ∃ y : Int, y = ((k % 128 + 128 : Nat) : Int) := ⟨_, rfl⟩
      obtain ⟨q, hq⟩ : ∃ q : Int, q = ((k / 128 : Nat) : Int) := ⟨_, rfl⟩
      have hc1 : Go.bits BinOp.or IntKind.u8 ((k : Int) % 256) 128 = y := by
        rw [hy]; exact or128_u8 k
      have hc2 : (k : Int) / 128 = q := by omega
      have HP := Lib.hid (put_pre HE.out hs)
      rw [← hy] at HP
      replace hy := Lib.hid hy
      replace hq := Lib.hid hq
      go_wp2_with (at_builtin; go_loud (refine wpList_app eltB rfl (.tmp 6) (.tmp 10) rfl (base := w.heap.size) _ pre rfl (HO.out.alloc _) _ 1 1 [y] rfl (sl_new (c := bcod) _ #[.int .u8 y] 5 [y] 1 rfl (by unfold maxLen; omega) rfl) HM1.out HM2.out (by have := HB.out.size; simp; omega) ?_); intro v1 w1 ho hg; have HO1 := Lib.hid ho; have HB1 : Hid (Below w.heap.size w w1) := (HB.out.alloc HB.out.size _).trans (own_below (HO.out.alloc _) hg (by have := HB.out.size; simp; omega)); clear ho hg)
      have hq' := hq.out
      subst hq'
      subst hQ
      go_step3
      exact ⟨rfl, ⟨k / 128, _, _, _, _, _, _, _, _, _, _, _, _, _, _, _, _, _, _, _, rfl, by omega, HO1.out, HB1.out, HP.out⟩, by simp [intOf]; omega⟩
end Go.Proofs.Ytnjgonplojpcnaa.Wi
