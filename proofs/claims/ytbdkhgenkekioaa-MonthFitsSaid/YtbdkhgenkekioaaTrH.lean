/- The transfer layer: which rides are right. -/
/- The transfer layer: the reference's Right. -/
import Derived.Test.YtbdkhgenkekioaaTrF
import Derived.Maps.OwnSet
import Derived.Maps.OwnOps
namespace Go.Proofs.Ytbdkhgenkekioaa
open Go.RowKit Go.V Go.Sort Go.Shelf Go.Proofs Go.Maps

/-- Its numbers are numbers. -/
def Ride.ok (r : Ride) : Prop := (Lit.int .i64 r.t).wf = true ∧ (Lit.int .i64 r.s).wf = true ∧ (Lit.int .i64 r.e).wf = true ∧ (Lit.int .i64 r.f).wf = true

def RightP (l : List Ride) : Prop := l.length ≤ 2048 ∧ (∀ r ∈ l, oneB r = true) ∧ (l.map Ride.t).Nodup
instance (l : List Ride) : Decidable (RightP l) := inferInstanceAs (Decidable (_ ∧ _ ∧ _))

def keysOf (l : List Ride) : List Lit := l.map fun r => Lit.int .i64 r.t
theorem keysOf_key (l : List Ride) : ∀ x ∈ keysOf l, WideAt.IsKeyLit x := by
  intro x hx
  obtain ⟨r, -, rfl⟩ := List.mem_map.1 hx
  simp [WideAt.IsKeyLit]
theorem has_keys (l : List Ride) (t : Int) : Maps.has (Maps.setOf (H := Unit) (.lit (.int .i64 1)) (keysOf l)) (.int .i64 t) = decide (t ∈ l.map Ride.t) := by
  rw [Maps.has_setOf _ _ _ (keysOf_key l), Bool.eq_iff_iff]
  simp [keysOf, Lit.sameKey, List.any_map]

theorem grown_of_below {w w' : World} (h : Below w.heap.size w w') : w.grownBy w' none := ⟨h.os, h.tape, h.output, h.size, fun k hk _ => h.block k hk⟩

theorem lawI : Maps.Keyed Try.prog 3 := Maps.int_keyed Try.underlying3
theorem zeroI (w : World) : (zeroValue 3).run Try.prog w = .ok (.int .i64 0) w := by kernel_rfl

set_option maxHeartbeats 1000000 in
theorem right_any (a : Option Addr) (n cap : Nat) (xs : List Ride) (w : World) (hn : n ≤ 1000000) (hw : ∀ r ∈ xs, Ride.ok r) (h : Sl Ride.cod w a n cap xs) :
    Calls Try.prog 46 #[.slice a n cap] w fun e w' => e = .returned (.bool (decide (RightP xs))) ∧ Below w.heap.size w w' := by
  have hN := Lib.hid h.hlen
  have hmm := @run_makeMap Try.prog
  by_cases hmany : 2048 < n
  · go_enter Try.func46, Try.ntmps46
    go_wp2_with fail
    go_ret
    exact ⟨ret_bool (by symm; rw [decide_eq_false_iff_not]; intro hr; have := hr.1; have := hN.out; omega), Below.refl _ _⟩
  · go_enter Try.func46, Try.ntmps46
    go_wp2_with fail
    go_loopw [14] (fun i wr => ∃ k : Nat, i = .int .i64 k ∧ k ≤ n ∧ Hid (wr.ownsMap Try.prog 3 (plainElem (H := Unit) Try.prog 3) w.heap.size k (Maps.setOf (.lit (.int .i64 1)) (keysOf (xs.take k)))) ∧ Hid (∀ r ∈ xs.take k, oneB r = true) ∧ Hid (((xs.take k).map Ride.t).Nodup) ∧ Below w.heap.size w wr) (fun i _ => n - (intOf i).toNat)
    case atStart => exact ⟨0, rfl, by omega, World.ownsMap_made _ _ _ _, fun r hr => by simp at hr, by show List.Nodup _; simp, (Below.refl _ _).alloc (Nat.le_refl _) _⟩
    case round =>
      obtain ⟨k, rfl, hk, hown, hone, hnd, hb⟩ := hrel
      by_cases hlt : k < n
      · obtain ⟨b, off, r, rfl, hbl, hr, c0, c1, c2, c3⟩ := ride_at (h.below hb) hlt
        have hok := (hw r (List.mem_of_getElem? hr)).1
        have hkey : keyOf Try.prog 3 (.int .i64 r.t) = some (.int .i64 r.t) := keyOf_int_mk Try.underlying3 hok
        have HR := Lib.hid hr
        have HB := Lib.hid hb
        have hbs := hb.size
        have hkn : k < maxLen := by unfold maxLen; omega
        clear hr hb hok
        cases hin : decide (r.t ∈ (xs.take k).map Ride.t) with
        | true =>
          have hhas : Maps.has (Maps.setOf (H := Unit) (.lit (.int .i64 1)) (keysOf (xs.take k))) (.int .i64 r.t) = true := by rw [has_keys]; exact hin
          have HIN := Lib.hid hin
          clear hin
          go_wp2_with (first
            | (at_lookup; refine wpList_lookup_own_ok_int _ rfl _ _ 126 rfl 3 3 .i64 lawI Try.underlying126 Try.underlying3 (zeroI _) w.heap.size k _ rfl (hown.out.alloc _) _ _ rfl hkey ?_; intro c hat hwc))
          go_ret
          exact ⟨ret_bool (by
            symm; rw [decide_eq_false_iff_not]
            intro hp
            have h2 := hp.2.2
            have hx : xs = xs.take k ++ xs.drop k := (List.take_append_drop k xs).symm
            rw [hx, drop_at HR.out, List.map_append, List.nodup_append] at h2
            exact h2.2.2 r.t (of_decide_eq_true HIN.out) r.t (by simp) rfl), HB.out.alloc hbs _⟩
        | false =>
          have hhas : Maps.has (Maps.setOf (H := Unit) (.lit (.int .i64 1)) (keysOf (xs.take k))) (.int .i64 r.t) = false := by rw [has_keys]; exact hin
          have HIN := Lib.hid hin
          clear hin
          cases ho1 : oneB r with
          | false =>
            have HO1 := Lib.hid ho1
            go_wp2_with (first
              | (at_lookup; refine wpList_lookup_own_ok_int _ rfl _ _ 126 rfl 3 3 .i64 lawI Try.underlying126 Try.underlying3 (zeroI _) w.heap.size k _ rfl (hown.out.alloc _) _ _ rfl hkey ?_; intro c hat hwc)
              | (go_at_call 90; refine (one_any r _).mono ?_; rintro e w1 ⟨rfl, hb1⟩))
            go_ret
            exact ⟨ret_bool (by
              symm; rw [decide_eq_false_iff_not]
              intro hp
              have := hp.2.1 r (List.mem_of_getElem? HR.out)
              rw [HO1.out] at this; cases this), (HB.out.alloc hbs _).trans (hb1.mono (by simp; omega))⟩
          | true =>
            have HO1 := Lib.hid ho1
            go_wp2_with (first
              | (at_lookup; refine wpList_lookup_own_ok_int _ rfl _ _ 126 rfl 3 3 .i64 lawI Try.underlying126 Try.underlying3 (zeroI _) w.heap.size k _ rfl (hown.out.alloc _) _ _ rfl hkey ?_; intro c hat hwc)
              | (go_at_call 90; refine (one_any r _).mono ?_; rintro e w1 ⟨rfl, hb1⟩; obtain ⟨hc, hf⟩ := bcell hb1; have HM := Lib.hid ((hown.out.alloc _).kept (grown_of_below hb1) (by simp)); have HB1 := Lib.hid hb1; have hs1 := hb1.size; clear hb1)
              | (at_mapUpdate; refine wpList_mapUpdate_own _ rfl _ _ _ 126 rfl 3 3 lawI Try.underlying126 _ w.heap.size k _ rfl HM.out hkn _ _ _ rfl rfl hkey _ [] (plainElem_int Try.underlying3 (by decide)) ?_; intro w2 hown2 hg2))
            have HBF : Below w.heap.size w w2 := ((HB.out.alloc hbs _).trans (HB1.out.mono (by simp; omega))).grown hg2 (by have := HB.out.size; simp at hs1; omega) (fun j hj => by cases hj; exact Nat.le_refl _)
            have hk1 : keysOf (xs.take (k + 1)) = keysOf (xs.take k) ++ [.int .i64 r.t] := by rw [take_at HR.out]; simp [keysOf]
            have HO2 := Lib.hid hown2
            clear hown2 hg2 hc hf
            go_roundw
            case rel =>
              refine ⟨k + 1, by go_num, by omega, ?_, ?_, ?_, HBF⟩
              · show World.ownsMap _ _ _ _ _ _ _
                rw [hk1, Maps.setOf_snoc]; exact HO2.out
              · intro r' hr'
                rw [take_at HR.out] at hr'
                rcases List.mem_append.1 hr' with h1 | h1
                · exact hone.out r' h1
                · simp at h1; subst h1; exact HO1.out
              · show List.Nodup _
                rw [take_at HR.out, List.map_append, List.nodup_append]
                refine ⟨hnd.out, by simp, fun x hx y hy hxy => ?_⟩
                simp at hy; subst hy; subst hxy
                exact absurd hx (of_decide_eq_false HIN.out)
            case measure => simp [intOf]; omega
      · have hk' : k = n := by omega
        have HK := Lib.hid hk'; clear hk'
        go_wp2_with fail
        go_ret
        exact ⟨ret_bool (by
          symm; rw [decide_eq_true_iff]
          have e : xs.take k = xs := List.take_of_length_le (by rw [HK.out, hN.out]; omega)
          have h1 := hone.out; have h2 := hnd.out
          rw [e] at h1 h2
          exact ⟨by have := hN.out; omega, h1, h2⟩), hb⟩
end Go.Proofs.Ytbdkhgenkekioaa

namespace Go.Proofs.Ytbdkhgenkekioaa
open Go.RowKit Go.V Go.Sort Go.Shelf Go.Proofs Go.Maps

theorem oneB_iff (r : Ride) : oneB r = true ↔ 1 ≤ r.t ∧ r.t ≤ 2147483648 ∧ 0 ≤ r.e ∧ r.e ≤ 1099511627776 ∧ 0 ≤ r.s ∧ r.s ≤ r.e ∧ -1 ≤ r.f ∧ r.f ≤ 4294967296 := by
  simp only [oneB, withinB, Bool.and_eq_true, decide_eq_true_eq]; omega

set_option maxHeartbeats 1000000 in
theorem rright_any (a : Option Addr) (n cap : Nat) (xs : List Ride) (w : World) (hn : n ≤ 1000000) (h : Sl Ride.cod w a n cap xs) :
    Calls Try.prog 26 #[.slice a n cap] w fun e w' => e = .returned (.bool (decide (RightP xs))) ∧ Below w.heap.size w w' := by
  have hN := Lib.hid h.hlen
  have mixed : Try.prog.follows .mixedOrders = true := by kernel_rfl
  go_enter Try.func26, Try.ntmps26
  go_wp2_with fail
  go_loopw [3] (fun i wr => ∃ k : Nat, i = .int .i64 k ∧ k ≤ n ∧ Hid (∀ r ∈ xs.take k, oneB r = true) ∧ Hid (((xs.take k).map Ride.t).Nodup) ∧ Below w.heap.size w wr) (fun i _ => n - (intOf i).toNat)
  case atStart => exact ⟨0, rfl, by omega, fun r hr => by simp at hr, by show List.Nodup _; simp, Below.refl _ _⟩
  case round =>
    obtain ⟨k, rfl, hk, hone, hnd, hb⟩ := hrel
    by_cases hlt : k < n
    · obtain ⟨b, off, r, rfl, hbl, hr, c0, c1, c2, c3⟩ := ride_at (h.below hb) hlt
      have HR := Lib.hid hr
      have HB := Lib.hid hb
      have hbs := hb.size
      clear hr hb
      by_cases ho : 1 ≤ r.t ∧ r.t ≤ 2147483648 ∧ 0 ≤ r.e ∧ r.e ≤ 1099511627776 ∧ 0 ≤ r.s ∧ r.s ≤ r.e ∧ -1 ≤ r.f ∧ r.f ≤ 4294967296
      · have HO1 := Lib.hid ((oneB_iff r).2 ho)
        obtain ⟨o1, o2, o3, o4, o5, o6, o7, o8⟩ := ho
        go_wp2_with fail
        obtain ⟨wo, rfl⟩ : ∃ wo : World, wo = wr := ⟨_, rfl⟩
        go_loopw [5] (fun i wr => ∃ j : Nat, i = .int .i64 j ∧ j ≤ k ∧ Hid (r.t ∉ (xs.take j).map Ride.t) ∧ Hid (Below (wo.alloc (.cells #[.int .i64 r.t, .int .i64 r.s, .int .i64 r.e, .int .i64 r.f] 24)).heap.size (wo.alloc (.cells #[.int .i64 r.t, .int .i64 r.s, .int .i64 r.e, .int .i64 r.f] 24)) wr)) (fun i _ => k - (intOf i).toNat)
        case atStart => exact ⟨0, rfl, by omega, by show _ ∉ _; simp, Below.refl _ _⟩
        case round =>
          obtain ⟨j, rfl, hj, hni, hb2⟩ := hrel
          have hb3 : Below w.heap.size w wr := (HB.out.alloc hbs _).trans (hb2.out.mono (by simp; omega))
          have hbox : wr.cell? ⟨wo.heap.size, 0, none⟩ = some (.int .i64 r.t) := by rw [(bcell hb2.out).1 _ _ (by simp)]; simp [go_sem]
          by_cases hlt2 : j < k
          · obtain ⟨b', off', r', e', hbl', hr', d0, d1, d2, d3⟩ := ride_at (h.below hb3) (show j < n by omega)
            cases e'
            have HR' := Lib.hid hr'
            have HB3 := Lib.hid hb3
            have b1 : (j : Int) < (n : Int) := by omega
            have b2 : (j : Int) < (k : Int) := by omega
            clear hr' hb3 c0 c1 c2 c3
            by_cases he : r'.t = r.t
            · have hq : (r'.t == r.t) = true := by simpa using he
              have HE := Lib.hid he
              clear he
              go_wp2_with fail
              go_quiet (fail)
              go_wp2_with fail
              go_ret
              exact ⟨ret_bool (by
                symm; rw [decide_eq_false_iff_not]
                intro hp
                have h2 := hp.2.2
                have hx : xs = xs.take k ++ xs.drop k := (List.take_append_drop k xs).symm
                rw [hx, drop_at HR.out, List.map_append, List.nodup_append] at h2
                refine h2.2.2 r'.t (List.mem_map.2 ⟨r', ?_, rfl⟩) r.t (by simp) HE.out
                have hjt : j < (xs.take k).length := by have := hN.out; simp; omega
                have : (xs.take k)[j]? = some r' := by rw [List.getElem?_take_of_lt (by omega)]; exact HR'.out
                exact List.mem_of_getElem? this), below_drewN HB3.out _⟩
            · have hq : (r'.t == r.t) = false := by simpa using he
              have HE := Lib.hid he
              clear he
              go_wp2_with fail
              go_quiet (fail)
              go_wp2_with fail
              go_roundw
              case rel => exact ⟨j + 1, by go_num, by omega, by
                show _ ∉ _
                rw [take_at HR'.out, List.map_append, List.mem_append]
                rintro (h1 | h1)
                · exact hni.out h1
                · simp at h1; exact HE.out h1.symm, below_drewN hb2.out _⟩
              case measure => simp [intOf]; omega
          · have hj' : j = k := by omega
            have HJ := Lib.hid hj'
            have HB3 := Lib.hid hb3
            have b2 : ¬ (j : Int) < (k : Int) := by omega
            clear hj' hb3
            go_wp2_with fail
            go_roundw
            case rel =>
              refine ⟨k + 1, by go_num, by omega, ?_, ?_, HB3.out⟩
              · intro r' hr'
                rw [take_at HR.out] at hr'
                rcases List.mem_append.1 hr' with h1 | h1
                · exact hone.out r' h1
                · simp at h1; subst h1; exact HO1.out
              · show List.Nodup _
                rw [take_at HR.out, List.map_append, List.nodup_append]
                refine ⟨hnd.out, by simp, fun x hx y hy hxy => ?_⟩
                simp at hy; subst hy; subst hxy
                have := hni.out
                rw [HJ.out] at this
                exact this hx
            case measure => simp [intOf]; omega
      · have HO1 := Lib.hid ho
        go_wp2_with fail
        all_goals
          go_ret
          exact ⟨ret_bool (by
            symm; rw [decide_eq_false_iff_not]
            intro hp
            exact HO1.out ((oneB_iff r).1 (hp.2.1 r (List.mem_of_getElem? HR.out)))), HB.out.alloc hbs _⟩
    · have hk' : k = n := by omega
      have HK := Lib.hid hk'; clear hk'
      by_cases hmany : n ≤ 2048
      all_goals
        go_wp2_with fail
        go_ret
        exact ⟨ret_bool (by
          have e : xs.take k = xs := List.take_of_length_le (by rw [HK.out, hN.out]; omega)
          have h1 := hone.out; have h2 := hnd.out
          rw [e] at h1 h2
          have h3 := hN.out
          have key : RightP xs ↔ n ≤ 2048 := ⟨fun hp => by have := hp.1; omega, fun _ => ⟨by omega, h1, h2⟩⟩
          rw [Bool.eq_iff_iff, decide_eq_true_iff (p := RightP xs), key]
          simp <;> omega), hb⟩
end Go.Proofs.Ytbdkhgenkekioaa
