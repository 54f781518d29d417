/- Fares: what a way of a distance costs. -/
import Derived.Test.YtjnggjhijedcpaaFaB
import Derived.Scope
import Derived.WalkMore
import Derived.ScopeJumps
namespace Go.V
open Go.RowKit
/-- A scope with one label: it is come to once, and gone through till a pass leaves. -/
theorem wp_scope_enter {P : Program} {a : Act} {w : World} {Q : Exit → Act → World → Prop} {c rest : Code} (l : Nat) (J : Act → World → Prop) (μ : Act → World → Nat) (hf : findLabel c l = some (Code.skip.seq rest))
    (enter : ∃ a0 w0, J a0 w0 ∧ ∀ Q', rest.wp P Q' a0 w0 → c.wp P Q' a w)
    (pass : ∀ a w, J a w → rest.wp P (Exit.jump l (fun a' w' => J a' w' ∧ μ a' w' < μ a w) Q) a w) : (Code.scope c).wp P Q a w := by
  have pass' : ∀ a w, J a w → (Code.skip.seq rest).wp P (Exit.jump l (fun a' w' => J a' w' ∧ μ a' w' < μ a w) Q) a w := fun a w h => wp_seq (wp_skip (pass a w h))
  refine wp_scope_jumps l J μ hf ?_ pass'
  obtain ⟨a0, w0, hJ, hc⟩ := enter
  refine hc _ (wp_mono (pass _ _ hJ) ?_)
  intro e a1 w1 h
  cases e with
  | goto l' => exact ⟨h.1, h.2.1⟩
  | _ => exact h
end Go.V
namespace Go.Proofs.Ytjnggjhijedcpaa
open Go.RowKit Go.V Go.Proofs

set_option maxHeartbeats 1000000 in
set_option maxRecDepth 1000000 in
theorem first_any (a : Option Addr) (n cap : Nat) (l : List Pair) (far : Int) (w : World) (hm : n ≤ 1000000) (hs : l.Pairwise (fun x y => x.a < y.a)) (h : Sl Pair.cod w a n cap l) :
    Calls Try.prog 168 #[.slice a n cap, .int .i64 far] w fun e w' => (∃ i : Nat, e = .returned (.int .i64 i) ∧ i ≤ n ∧ (∀ j x, j < i → l[j]? = some x → x.a < far) ∧ (∀ x, l[i]? = some x → far ≤ x.a)) ∧ w = w' := by
  have hN := Lib.hid h.hlen
  have HS := Lib.hid hs
  clear hs
  have mixed : Try.prog.follows .mixedOrders = true := by kernel_rfl
  go_enter Try.func168, Try.ntmps168
  go_wp2
  refine wp_scope_enter 0 (fun a' w' => w = w' ∧ ∃ (lo hi : Nat) (u4 u7 u8 u9 u10 u11 u12 u13 u14 u15 u16 u17 u18 u19 u20 u21 u22 u23 u24 u25 u26 u27 : Value), a' = { tmps := #[.slice a n cap, .int .i64 far, undef, undef, u4, .int .i64 lo, .int .i64 hi, u7, u8, u9, u10, u11, u12, u13, u14, u15, u16, u17, u18, u19, u20, u21, u22, u23, u24, u25, u26, u27], defers := [] } ∧ lo ≤ hi ∧ hi ≤ n ∧ Hid (∀ j x, j < lo → l[j]? = some x → x.a < far) ∧ Hid (∀ j x, hi ≤ j → l[j]? = some x → far ≤ x.a)) (fun a' _ => (intOf (a'.tmps.getD 6 undef) - intOf (a'.tmps.getD 5 undef)).toNat) rfl ?_ ?_
  · refine ⟨_, w, ⟨rfl, 0, n, .int .i64 0, undef, .slice a n cap, .int .i64 n, undef, undef, undef, undef, undef, undef, undef, undef, undef, undef, undef, undef, undef, undef, undef, undef, undef, undef, rfl, by omega, by omega, (fun j x hj => by omega), (fun j x hj hx => by
      have := (List.getElem?_eq_some_iff.1 hx).1; have := hN.out; omega)⟩, fun Q' hQ => ?_⟩
    go_wp2
    go_step3
    rename_i hK
    exact hK _ _ hQ
  · rintro a' w' ⟨rfl, lo, hi, u4, u7, u8, u9, u10, u11, u12, u13, u14, u15, u16, u17, u18, u19, u20, u21, u22, u23, u24, u25, u26, u27, rfl, h1, h2, h3, h4⟩
    by_cases he : lo = hi
    · subst he
      go_wp2
      simp only [Exit.jump]
      go_ret
      exact ⟨⟨lo, rfl, h2, h3.out, fun x hx => h4.out lo x (Nat.le_refl _) hx⟩, rfl⟩
    · have he' : ((lo : Int) == (hi : Int)) = false := by simp; omega
      obtain ⟨m, hmid⟩ : ∃ m, (lo + hi) / 2 = m := ⟨_, rfl⟩
      have m1 : lo ≤ m := by omega
      have m2 : m < hi := by omega
      have e1 : ((lo : Int) + (hi : Int)).tdiv 2 = (m : Int) := by rw [Int.tdiv_eq_ediv_of_nonneg (by omega)]; omega
      have e2 : ((lo : Int) + (hi : Int)) / 2 = (m : Int) := by omega
      obtain ⟨b, off, x, rfl, hbl, hx, c0, c1⟩ := pair_at h (show m < n by omega)
      have HX := Lib.hid hx
      have b1 : (m : Int) < (n : Int) := by omega
      have HMID := Lib.hid hmid
      clear hx hmid he
      by_cases hc : far ≤ x.a
      · go_wp2
        go_step3
        refine ⟨rfl, ⟨rfl, lo, m, _, _, _, _, _, _, _, _, _, _, _, _, _, _, _, _, _, _, _, _, _, _, rfl, by omega, by omega, h3.out, ?_⟩, ?_⟩
        · intro j y hj hy
          by_cases e : j = m
          · subst e; rw [HX.out] at hy; rw [← Option.some.inj hy]; exact hc
          · obtain ⟨q1, q2⟩ := List.getElem?_eq_some_iff.1 hy
            obtain ⟨q3, q4⟩ := List.getElem?_eq_some_iff.1 HX.out
            have := List.pairwise_iff_getElem.1 HS.out m j q3 q1 (by omega)
            rw [q2, q4] at this
            omega
        · simp [intOf]; omega
      · go_wp2
        go_step3
        refine ⟨rfl, ⟨rfl, m + 1, hi, _, _, _, _, _, _, _, _, _, _, _, _, _, _, _, _, _, _, _, _, _, _, rfl, by omega, by omega, ?_, h4.out⟩, ?_⟩
        · intro j y hj hy
          by_cases e : j = m
          · subst e; rw [HX.out] at hy; rw [← Option.some.inj hy]; omega
          · obtain ⟨q1, q2⟩ := List.getElem?_eq_some_iff.1 hy
            obtain ⟨q3, q4⟩ := List.getElem?_eq_some_iff.1 HX.out
            have := List.pairwise_iff_getElem.1 HS.out j m q1 q3 (by omega)
            rw [q2, q4] at this
            omega
        · simp [intOf]; omega
end Go.Proofs.Ytjnggjhijedcpaa
