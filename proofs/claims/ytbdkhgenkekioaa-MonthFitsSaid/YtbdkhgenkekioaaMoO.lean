/- Months: one more, walked. -/
import Derived.Test.YtbdkhgenkekioaaMoC
import Derived.Test.YtbdkhgenkekioaaMoI
import Derived.Test.YtbdkhgenkekioaaInS
namespace Go.Proofs.Ytbdkhgenkekioaa
open Go.RowKit Go.V Go.Sort Go.Shelf Go.Proofs Go.Maps
open Go.Proofs.Ytbdkhgenkekioaa.Ne (box_alloc box_new box_cell box_below box_lt box2_cells)

theorem begE_bad {ms : List Mon} {m : Mon} (h : ¬ (RightM ms ∧ OneM m)) : begRE ms m = 2 ∧ begR ms m = [] := by
  have e : begRE ms m = 2 := by
    unfold begRE begE
    by_cases h1 : RightM ms
    · rw [if_pos h1, if_neg (fun q => h ⟨h1, q⟩)]
    · rw [if_neg h1]
  exact ⟨e, by unfold begR; rw [e, if_neg (by decide)]⟩
theorem begE_has {ms : List Mon} {m : Mon} (h1 : RightM ms) (h2 : OneM m) (h3 : 0 ≤ findM ms m.a m.m) : begRE ms m = 0 ∧ begR ms m = ms := by
  have e : begRE ms m = 0 := by unfold begRE begE; rw [if_pos h1, if_pos h2, if_pos h3]
  exact ⟨e, by unfold begR; rw [if_pos e, if_pos h3]⟩
theorem begE_full {ms : List Mon} {m : Mon} (h1 : RightM ms) (h2 : OneM m) (h3 : ¬ 0 ≤ findM ms m.a m.m) (h4 : ms.length = 4096) : begRE ms m = 3 ∧ begR ms m = [] := by
  have e : begRE ms m = 3 := by unfold begRE begE; rw [if_pos h1, if_pos h2, if_neg h3, if_pos h4]
  exact ⟨e, by unfold begR; rw [e, if_neg (by decide)]⟩
theorem begE_new {ms : List Mon} {m : Mon} (h1 : RightM ms) (h2 : OneM m) (h3 : ¬ 0 ≤ findM ms m.a m.m) (h4 : ¬ ms.length = 4096) : begRE ms m = 0 ∧ begR ms m = insM m ms := by
  have e : begRE ms m = 0 := by unfold begRE begE; rw [if_pos h1, if_pos h2, if_neg h3, if_neg h4]
  exact ⟨e, by unfold begR; rw [if_pos e, if_neg h3]⟩
theorem posM_step {m : Mon} {ms : List Mon} {k : Nat} {x : Mon} (hx : ms[k]? = some x) (hk : k ≤ posM m ms) (h : aheadM x m) : k + 1 ≤ posM m ms := by
  rcases Nat.lt_or_ge k (posM m ms) with h1 | h1
  · exact h1
  · have e : k = posM m ms := by omega
    subst e
    have := posM_at m ms x hx
    unfold aheadM at h this
    omega
theorem posM_stop {m : Mon} {ms : List Mon} {k : Nat} {x : Mon} (hx : ms[k]? = some x) (hk : k ≤ posM m ms) (h : ¬ aheadM x m) (hf : findM ms m.a m.m < 0) : k = posM m ms := by
  rcases Nat.lt_or_ge k (posM m ms) with h1 | h1
  · exfalso
    have h2 := posM_lt m ms k x hx h1
    rcases findM_cases ms m.a m.m with ⟨-, h3⟩ | ⟨j, r, h3, -⟩
    · have := h3 x (List.mem_of_getElem? hx)
      unfold isM at this
      unfold aheadM at h h2
      omega
    · omega
  · omega

set_option maxHeartbeats 8000000 in
set_option maxRecDepth 100000 in
theorem mbegin_any (a : Option Addr) (n cap : Nat) (hs : List Hdr) (ms : List Mon) (m : Mon) (h : Hdr) (w : World) (hn : n ≤ 100000) (hl : ∀ m ∈ ms, m.rides.length ≤ 1000000) (hok : ∀ m ∈ ms, ∀ r ∈ m.rides, Ride.ok r) (hml : m.rides.length ≤ 1000000) (hmok : ∀ r ∈ m.rides, Ride.ok r) (h0 : MonIn w a n cap hs ms) (hr : Sl Ride.cod w h.a h.n h.cap m.rides) :
    Calls Try.prog 11 #[.slice a n cap, .agg (m.box h)] w fun e w' => ∃ a' c' hs', e = .returned (.tuple #[.slice a' (begR ms m).length c', .int .i64 (begRE ms m)]) ∧ MonIn w' a' (begR ms m).length c' hs' (begR ms m) ∧ Below w.heap.size w w' := by
  have mixed : Try.prog.follows .mixedOrders = true := by kernel_rfl
  have HN := Lib.hid h0.n_eq
  obtain ⟨ha, hnn, hc⟩ := h
  obtain rfl : hnn = m.rides.length := hr.hlen
  unfold Mon.box
  have X0 : Hid ((w.alloc (.cells #[.int .i64 m.a, .int .i64 m.m, .int .i64 m.t, .int .i64 m.c, .slice ha m.rides.length hc, .bool m.z] 27)).heap[w.heap.size]? = some (.cells #[.int .i64 m.a, .int .i64 m.m, .int .i64 m.t, .int .i64 m.c, .slice ha m.rides.length hc, .bool m.z] 27 (0, 0))) := box_new w _
  have B0 : Hid (Below w.heap.size w (w.alloc (.cells #[.int .i64 m.a, .int .i64 m.m, .int .i64 m.t, .int .i64 m.c, .slice ha m.rides.length hc, .bool m.z] 27))) := (Below.refl _ _).alloc (Nat.le_refl _) _
  obtain ⟨p1, hp1⟩ : ∃ p, decide (RightM ms) = p := ⟨_, rfl⟩
  obtain ⟨p2, hp2⟩ : ∃ p, decide (OneM m) = p := ⟨_, rfl⟩
  obtain ⟨F, hF⟩ : ∃ F, findM ms m.a m.m = F := ⟨_, rfl⟩
  have HP : Hid (decide (RightM ms) = p1 ∧ decide (OneM m) = p2 ∧ findM ms m.a m.m = F) := ⟨hp1, hp2, hF⟩
  clear hp1 hp2 hF
  have HNIL : Hid (∀ w9, Below w.heap.size w w9 → begR ms m = [] → ∃ a' c' hs', (Value.tuple #[.slice none 0 0, .int .i64 (begRE ms m)]) = (Value.tuple #[.slice a' (begR ms m).length c', .int .i64 (begRE ms m)]) ∧ MonIn w9 a' (begR ms m).length c' hs' (begR ms m) ∧ Below w.heap.size w w9) := fun w9 hb9 e => by
    rw [e]
    exact ⟨none, 0, [], rfl, MonIn.nil w9, hb9⟩
  cases p1 with
  | false =>
    have HE := Lib.hid (begE_bad (ms := ms) (m := m) (fun q => of_decide_eq_false HP.out.1 q.1))
    go_enter Try.func11, Try.ntmps11
    go_wp2_with (go_at_call 9; refine (mright_any a n cap hs ms _ (by omega) hl hok (h0.below B0.out)).mono ?_; rintro e w1 ⟨rfl, hb1⟩; rw [HP.out.1]; have HB1 := Lib.hid (B0.out.trans (hb1.mono B0.out.size)); clear hb1)
    go_ret2
    obtain ⟨a', c', hs', e1, e2⟩ := HNIL.out _ HB1.out HE.out.2
    refine ⟨a', c', hs', ?_, e2⟩
    rw [HE.out.1] at e1 ⊢
    exact congrArg Ending.returned e1
  | true =>
    have HR := Lib.hid (of_decide_eq_true HP.out.1)
    cases p2 with
    | false =>
      have HE := Lib.hid (begE_bad (ms := ms) (m := m) (fun q => of_decide_eq_false HP.out.2.1 q.2))
      go_enter Try.func11, Try.ntmps11
      go_wp2_with (first
        | (go_at_call 9; refine (mright_any a n cap hs ms _ (by omega) hl hok (h0.below B0.out)).mono ?_; rintro e w1 ⟨rfl, hb1⟩; rw [HP.out.1]; have HB1 : Hid (Below w.heap.size w w1) := B0.out.trans (hb1.mono B0.out.size); have X1 := Lib.hid (box_below X0.out hb1); obtain ⟨y0, y1, y2, y3, y4, y5⟩ := box6_cells X1.out; have hz := box_lt X1.out; clear hb1)
        | (go_at_call 35; go_fit (mone_any m ⟨ha, m.rides.length, hc⟩ _ hml hmok (hr.below HB1.out)); rintro e w2 ⟨rfl, hb2⟩; rw [HP.out.2.1]; have HB2 := Lib.hid (HB1.out.trans (hb2.mono HB1.out.size)); clear hb2))
      go_ret2
      obtain ⟨a', c', hs', e1, e2⟩ := HNIL.out _ HB2.out HE.out.2
      refine ⟨a', c', hs', ?_, e2⟩
      rw [HE.out.1] at e1 ⊢
      exact congrArg Ending.returned e1
    | true =>
      have HO := Lib.hid (of_decide_eq_true HP.out.2.1)
      by_cases hF0 : 0 ≤ F
      · have HE := Lib.hid (begE_has (ms := ms) (m := m) HR.out HO.out (by rw [HP.out.2.2]; exact hF0))
        go_enter Try.func11, Try.ntmps11
        go_wp2_with (first
          | (go_at_call 9; refine (mright_any a n cap hs ms _ (by omega) hl hok (h0.below B0.out)).mono ?_; rintro e w1 ⟨rfl, hb1⟩; rw [HP.out.1]; have HB1 : Hid (Below w.heap.size w w1) := B0.out.trans (hb1.mono B0.out.size); have X1 := Lib.hid (box_below X0.out hb1); obtain ⟨y0, y1, y2, y3, y4, y5⟩ := box6_cells X1.out; have hz := box_lt X1.out; clear hb1)
          | (go_at_call 35; go_fit (mone_any m ⟨ha, m.rides.length, hc⟩ _ hml hmok (hr.below HB1.out)); rintro e w2 ⟨rfl, hb2⟩; rw [HP.out.2.1]; have HB2 := Lib.hid (HB1.out.trans (hb2.mono HB1.out.size)); have X2 := Lib.hid (box_below X1.out hb2); clear hb2 y0 y1 y2 y3 y4 y5 hz; obtain ⟨y0, y1, y2, y3, y4, y5⟩ := box6_cells X2.out; have hz := box_lt X2.out)
          | (go_at_call 36; refine (of_any _ _ _ _ _ _ _).mono ?_; rintro e w3 ⟨rfl, hb3⟩; have HB3 := Lib.hid (HB2.out.trans (hb3.mono HB2.out.size)); clear hb3)
          | (go_at_call 41; go_fit (mplace_any a n cap hs ms m.a m.m _ (by omega) (h0.below HB3.out)); rintro e w4 ⟨rfl, hb4⟩; rw [HP.out.2.2]; have HB4 := Lib.hid (HB3.out.trans (hb4.mono HB3.out.size)); clear hb4)
          | (go_at_call 42; go_fit (mclone_any a n cap _ _ (by omega) (h0.below HB4.out).hd); rintro e w5 ⟨v, rfl, ho, hb5⟩; have HO5 := Lib.hid ho; have HB5 := Lib.hid (HB4.out.trans (hb5.mono HB4.out.size)); clear ho hb5))
        go_ret2
        rw [HE.out.1, HE.out.2]
        obtain ⟨a', c', e5, s5, -⟩ := HO5.out.slice
        have e6 : (List.zipWith Mon.hd ms hs).length = ms.length := by rw [List.length_zipWith, h0.len, Nat.min_self]
        rw [e6] at e5 s5
        exact ⟨a', c', hs, by rw [e5]; rfl, ⟨s5, h0.len, (h0.below HB5.out).each⟩, HB5.out⟩
      · have hF1 : F < 0 := by omega
        have hF2 : decide (0 ≤ F) = false := decide_eq_false hF0
        by_cases hfull : n = 4096
        · have HE := Lib.hid (begE_full (ms := ms) (m := m) HR.out HO.out (by rw [HP.out.2.2]; exact hF0) (by rw [← HN.out]; exact hfull))
          subst hfull
          go_enter Try.func11, Try.ntmps11
          go_wp2_with (first
            | (go_at_call 9; refine (mright_any a 4096 cap hs ms _ (by omega) hl hok (h0.below B0.out)).mono ?_; rintro e w1 ⟨rfl, hb1⟩; rw [HP.out.1]; have HB1 : Hid (Below w.heap.size w w1) := B0.out.trans (hb1.mono B0.out.size); have X1 := Lib.hid (box_below X0.out hb1); obtain ⟨y0, y1, y2, y3, y4, y5⟩ := box6_cells X1.out; have hz := box_lt X1.out; clear hb1)
            | (go_at_call 35; go_fit (mone_any m ⟨ha, m.rides.length, hc⟩ _ hml hmok (hr.below HB1.out)); rintro e w2 ⟨rfl, hb2⟩; rw [HP.out.2.1]; have HB2 := Lib.hid (HB1.out.trans (hb2.mono HB1.out.size)); have X2 := Lib.hid (box_below X1.out hb2); clear hb2 y0 y1 y2 y3 y4 y5 hz; obtain ⟨y0, y1, y2, y3, y4, y5⟩ := box6_cells X2.out; have hz := box_lt X2.out)
            | (go_at_call 36; refine (of_any _ _ _ _ _ _ _).mono ?_; rintro e w3 ⟨rfl, hb3⟩; have HB3 := Lib.hid (HB2.out.trans (hb3.mono HB2.out.size)); clear hb3)
            | (go_at_call 41; go_fit (mplace_any a 4096 cap hs ms m.a m.m _ (by omega) (h0.below HB3.out)); rintro e w4 ⟨rfl, hb4⟩; rw [HP.out.2.2]; have HB4 := Lib.hid (HB3.out.trans (hb4.mono HB3.out.size)); clear hb4))
          go_ret2
          obtain ⟨a', c', hs', e1, e2⟩ := HNIL.out _ HB4.out HE.out.2
          refine ⟨a', c', hs', ?_, e2⟩
          rw [HE.out.1] at e1 ⊢
          exact congrArg Ending.returned e1
        · have HE := Lib.hid (begE_new (ms := ms) (m := m) HR.out HO.out (by rw [HP.out.2.2]; exact hF0) (by rw [← HN.out]; exact hfull))
          have z4 : ((n : Int) == 4096) = false := by simp; omega
          clear hfull
          go_enter Try.func11, Try.ntmps11
          go_upto_block 1 with (first
            | (go_at_call 9; refine (mright_any a n cap hs ms _ (by omega) hl hok (h0.below B0.out)).mono ?_; rintro e w1 ⟨rfl, hb1⟩; rw [HP.out.1]; have HB1 : Hid (Below w.heap.size w w1) := B0.out.trans (hb1.mono B0.out.size); have X1 := Lib.hid (box_below X0.out hb1); obtain ⟨y0, y1, y2, y3, y4, y5⟩ := box6_cells X1.out; have hz := box_lt X1.out; clear hb1)
            | (go_at_call 35; go_fit (mone_any m ⟨ha, m.rides.length, hc⟩ _ hml hmok (hr.below HB1.out)); rintro e w2 ⟨rfl, hb2⟩; rw [HP.out.2.1]; have HB2 := Lib.hid (HB1.out.trans (hb2.mono HB1.out.size)); have X2 := Lib.hid (box_below X1.out hb2); clear hb2 y0 y1 y2 y3 y4 y5 hz; obtain ⟨y0, y1, y2, y3, y4, y5⟩ := box6_cells X2.out; have hz := box_lt X2.out)
            | (go_at_call 36; refine (of_any _ _ _ _ _ _ _).mono ?_; rintro e w3 ⟨rfl, hb3⟩; have HB3 := Lib.hid (HB2.out.trans (hb3.mono HB2.out.size)); have X3 := Lib.hid (box_below X2.out hb3); clear hb3)
            | (go_at_call 41; go_fit (mplace_any a n cap hs ms m.a m.m _ (by omega) (h0.below HB3.out)); rintro e w4 ⟨rfl, hb4⟩; rw [HP.out.2.2]; have HB4 := Lib.hid (HB3.out.trans (hb4.mono HB3.out.size)); have X4 := Lib.hid (box_below X3.out hb4); clear hb4 y0 y1 y2 y3 y4 y5 hz))
          have HNP : Hid (posM m ms ≤ n) := by show _ ≤ _; rw [HN.out]; exact posM_le m ms
          go_cut [6] (fun v wr => ∃ k : Nat, v = .int .i64 k ∧ k ≤ n ∧ Hid (k = posM m ms) ∧ Hid (Below w4.heap.size w4 wr))
          case first =>
            go_wp2_with fail
            go_loopw [6] (fun i wr => ∃ k : Nat, i = .int .i64 k ∧ k ≤ n ∧ Hid (k ≤ posM m ms) ∧ Hid (Below w4.heap.size w4 wr)) (fun i _ => n - (intOf i).toNat)
            case atStart => exact ⟨0, rfl, by omega, Nat.zero_le _, Below.refl _ _⟩
            case round =>
              obtain ⟨k, rfl, hk, hup, hB⟩ := hrel
              have XR := Lib.hid (box_below X4.out hB.out)
              have HBR : Hid (Below w.heap.size w wr) := HB4.out.trans (hB.out.mono HB4.out.size)
              obtain ⟨y0, y1, y2, y3, y4, y5⟩ := box6_cells XR.out
              have Y0 := cell_regrown y0
              have Y1 := cell_regrown y1
              have Y2 := cell_regrown y2
              have Y3 := cell_regrown y3
              have Y4 := cell_regrown y4
              have Y5 := cell_regrown y5
              clear y0 y1 y2 y3 y4 y5
              by_cases hlt : k < n
              · obtain ⟨b, off, at_, ct, x, rfl, hbb, hx, -, ⟨c0, c1, c2, c3, c4, c5⟩, -⟩ := (h0.below HBR.out).at hlt
                have HX := Lib.hid hx
                have b1 : (k : Int) < (n : Int) := by omega
                have b2 : decide ((k : Int) < (n : Int)) = true := decide_eq_true b1
                have Z0 := cell_regrown c0
                have Z1 := cell_regrown c1
                have Z2 := cell_regrown c2
                have Z3 := cell_regrown c3
                have Z4 := cell_regrown c4
                have Z5 := cell_regrown c5
                have q2 : ∀ nd osq, Calls Try.prog 36 #[.agg #[.int .i64 x.a, .int .i64 x.m, .int .i64 x.t, .int .i64 x.c, .slice at_ x.rides.length ct, .bool x.z]] (Go.Sort.grow (redrawn wr nd) osq) fun e w' => e = .returned (kval x.a x.m) ∧ Below (Go.Sort.grow (redrawn wr nd) osq).heap.size (Go.Sort.grow (redrawn wr nd) osq) w' := fun nd osq => of_any _ _ _ _ _ _ _
                have q3 : ∀ nd osq, Calls Try.prog 36 #[.agg #[.int .i64 m.a, .int .i64 m.m, .int .i64 m.t, .int .i64 m.c, .slice ha m.rides.length hc, .bool m.z]] (Go.Sort.grow (redrawn wr nd) osq) fun e w' => e = .returned (kval m.a m.m) ∧ Below (Go.Sort.grow (redrawn wr nd) osq).heap.size (Go.Sort.grow (redrawn wr nd) osq) w' := fun nd osq => of_any _ _ _ _ _ _ _
                obtain ⟨K, hK⟩ : ∃ K, kcmp x.a x.m m.a m.m = K := ⟨_, rfl⟩
                have q4 : ∀ nd osq, Calls Try.prog 37 #[kval x.a x.m, kval m.a m.m] (Go.Sort.grow (redrawn wr nd) osq) fun e w' => e = .returned (.int .i64 K) ∧ Below (Go.Sort.grow (redrawn wr nd) osq).heap.size (Go.Sort.grow (redrawn wr nd) osq) w' := fun nd osq => by
                  have := kcmp_any x.a x.m m.a m.m (Go.Sort.grow (redrawn wr nd) osq)
                  rwa [hK] at this
                have hKK : decide (0 ≤ K) = !(decide (aheadM x m)) := by rw [← hK]; exact kcmp_lt _ _ _ _
                have HKK := Lib.hid hKK
                clear c0 c1 c2 c3 c4 c5 hx hK hKK
                by_cases hge : 0 ≤ K
                · have d1 : decide (K < 0) = false := decide_eq_false (by omega)
                  have HD : Hid (¬ aheadM x m) := by
                    intro q
                    have h2 := HKK.out
                    rw [decide_eq_true q, decide_eq_true hge] at h2
                    cases h2
                  go_upto_region 8 with fail
                  refine wp_region_quiet_below (by assumption) (by kernel_rfl) ?_
                  repeat (go_big_quiet_step (first
                    | (go_at_call 36; exact Calls.regrown_of (q2 _ _))
                    | (go_at_call 36; exact Calls.regrown_of (q3 _ _))
                    | (go_at_call 37; exact Calls.regrown_of (q4 _ _))))
                  refine wpQuiet_nil ?_
                  intro w9 hw9
                  obtain ⟨⟨nd, osq⟩, rfl⟩ := hw9
                  have hb9 := below_regrown wr nd osq
                  have HB9 : Hid (Below w4.heap.size w4 (Go.Sort.grow (redrawn wr nd) osq)) := hB.out.trans (hb9.mono hB.out.size)
                  generalize Go.Sort.grow (redrawn wr nd) osq = w9 at HB9 ⊢
                  clear hb9
                  go_wp2_with fail
                  go_meet
                  exact ⟨k, rfl, hk, posM_stop HX.out hup.out HD.out (by rw [HP.out.2.2]; exact hF1), HB9.out⟩
                · have d1 : decide (K < 0) = true := decide_eq_true (by omega)
                  have HD : Hid (aheadM x m) := by
                    have h2 := HKK.out
                    rw [decide_eq_false hge] at h2
                    have h3 : decide (aheadM x m) = true := by simpa using h2
                    exact (of_decide_eq_true h3 : aheadM x m)
                  go_upto_region 8 with fail
                  refine wp_region_quiet_below (by assumption) (by kernel_rfl) ?_
                  repeat (go_big_quiet_step (first
                    | (go_at_call 36; exact Calls.regrown_of (q2 _ _))
                    | (go_at_call 36; exact Calls.regrown_of (q3 _ _))
                    | (go_at_call 37; exact Calls.regrown_of (q4 _ _))))
                  refine wpQuiet_nil ?_
                  intro w9 hw9
                  obtain ⟨⟨nd, osq⟩, rfl⟩ := hw9
                  have hb9 := below_regrown wr nd osq
                  have HB9 : Hid (Below w4.heap.size w4 (Go.Sort.grow (redrawn wr nd) osq)) := hB.out.trans (hb9.mono hB.out.size)
                  generalize Go.Sort.grow (redrawn wr nd) osq = w9 at HB9 ⊢
                  clear hb9
                  go_wp2_with fail
                  go_roundw
                  case rel => exact ⟨k + 1, by go_num, by omega, posM_step HX.out hup.out HD.out, HB9.out⟩
                  case measure => simp [intOf]; omega
              · have hk' : k = n := by omega
                subst hk'
                have b2 : decide ((k : Int) < (k : Int)) = false := decide_eq_false (by omega)
                go_upto_region 8 with fail
                refine wp_region_quiet_below (by assumption) (by kernel_rfl) ?_
                repeat (go_big_quiet_step (fail))
                refine wpQuiet_nil ?_
                intro w9 hw9
                obtain ⟨⟨nd, osq⟩, rfl⟩ := hw9
                have hb9 := below_regrown wr nd osq
                have HB9 : Hid (Below w4.heap.size w4 (Go.Sort.grow (redrawn wr nd) osq)) := hB.out.trans (hb9.mono hB.out.size)
                generalize Go.Sort.grow (redrawn wr nd) osq = w9 at HB9 ⊢
                clear hb9
                go_wp2_with fail
                go_meet
                exact ⟨k, rfl, by omega, Nat.le_antisymm hup.out HNP.out, HB9.out⟩
          obtain ⟨j, rfl, hjn, hjp, hb⟩ := hcut
          have XC := Lib.hid (box_below X4.out hb.out)
          have HBC : Hid (Below w.heap.size w wc) := HB4.out.trans (hb.out.mono HB4.out.size)
          have hsc := HBC.out.size
          clear hb
          obtain ⟨y0, y1, y2, y3, y4, y5⟩ := box6_cells XC.out
          have hz := box_lt XC.out
          have HRC := Lib.hid (hr.below HBC.out)
          go_upto_region 11 with (go_at_call 43; refine (clone_any ha m.rides.length hc m.rides _ (by omega) HRC.out).mono ?_; rintro e w5 ⟨v, rfl, ho, hb5, -⟩; obtain ⟨a5, c5, rfl, s5, -⟩ := ownR_sl ho; have HO5 : Hid (V.Own 24 Ride.cod wc.heap.size w5 (.slice a5 m.rides.length c5) m.rides) := ho; have HB5 := Lib.hid hb5; have X5 := Lib.hid (box_below XC.out hb5); obtain ⟨t0, t1, t2, t3, t4, t5⟩ := box6_free X5.out; have hz5 := box_lt X5.out; clear ho hb5 s5 y0 y1 y2 y3 y4 y5; obtain ⟨-, -, -, -, x4, -⟩ := box6_cells X5.out)
          have hs5 := HB5.out.size
          have XN : Hid ((w5.setCell ⟨w.heap.size, 4, none⟩ (.slice a5 m.rides.length c5)).heap[w.heap.size]? = some (.cells #[.int .i64 m.a, .int .i64 m.m, .int .i64 m.t, .int .i64 m.c, .slice a5 m.rides.length c5, .bool m.z] 27 (0, 0))) := heap_setCell_same w5 w.heap.size 4 _ _ _ X5.out
          have HBN : Hid (Below w.heap.size w (w5.setCell ⟨w.heap.size, 4, none⟩ (.slice a5 m.rides.length c5))) := (HBC.out.trans (HB5.out.mono hsc)).setCell (p := ⟨w.heap.size, 4, none⟩) (Nat.le_refl _) _
          have HON : Hid (V.Own 24 Ride.cod wc.heap.size (w5.setCell ⟨w.heap.size, 4, none⟩ (.slice a5 m.rides.length c5)) (.slice a5 m.rides.length c5) m.rides) := HO5.out.kept (Wi.set_grown _ w.heap.size 4 _) (Wi.own_lt_ne HO5.out hz)
          obtain ⟨Z, hZ⟩ : ∃ Z, w5.setCell ⟨w.heap.size, 4, none⟩ (.slice a5 m.rides.length c5) = Z := ⟨_, rfl⟩
          rw [hZ] at XN HBN HON ⊢
          clear hZ t0 t1 t2 t3 t4 t5 x4
          obtain ⟨y0, y1, y2, y3, y4, y5⟩ := box6_cells XN.out
          have hzn := box_lt XN.out
          have HIN := Lib.hid (h0.below HBN.out)
          have HSR := Lib.hid (Wi.own_sl HON.out)
          have HLZ : Hid ((List.zipWith Mon.hd ms hs).length = n) := by
            show _ = _
            rw [List.length_zipWith, h0.len, Nat.min_self, HN.out]
          have QC : ∀ W, Below Z.heap.size Z W → Calls Try.prog 42 #[.slice a n cap] W fun e w' => ∃ v, e = .returned v ∧ V.Own 27 MH.cod W.heap.size w' v (List.zipWith Mon.hd ms hs) ∧ Below W.heap.size W w' := fun W hW => mclone_any a n cap _ W (by omega) (HIN.out.below hW).hd
          have QI : ∀ (v : Value) (vb : Nat) (W : World), V.Own 27 MH.cod Z.heap.size W v (List.zipWith Mon.hd ms hs) → Below Z.heap.size Z W → v.ownBlock ≠ some vb → W.heap[vb]? = some (.cells #[.int .i64 m.a, .int .i64 m.m, .int .i64 m.t, .int .i64 m.c, .slice a5 m.rides.length c5, .bool m.z] 27 (0, 0)) → Calls Try.prog 44 #[v, .int .i64 j, .slice (some ⟨vb, 0, none⟩) 1 1] W fun e w' => ∃ v', e = .returned v' ∧ V.Own 27 MH.cod Z.heap.size w' v' ((List.zipWith Mon.hd ms hs).take j ++ m.hd ⟨a5, m.rides.length, c5⟩ :: (List.zipWith Mon.hd ms hs).drop j) ∧ Below Z.heap.size Z w' := fun v vb W ho hb hv hx => (In.insertMonth v n j _ (m.hd ⟨a5, m.rides.length, c5⟩) vb Z.heap.size W hn HLZ.out.symm ho hjn hb.size hv hx).mono fun e w' ⟨v', h1, h2, h3⟩ => ⟨v', h1, h2, hb.trans h3⟩
          have HD2 : Hid (Below Z.heap.size Z (Z.alloc (.cells #[.int .i64 m.a, .int .i64 m.m, .int .i64 m.t, .int .i64 m.c, .slice a5 m.rides.length c5, .bool m.z] 27)).drew) := Below.drew ((Below.refl _ _).alloc (Nat.le_refl _) _)
          have HD1 : Hid (Below Z.heap.size Z Z.drew) := Below.drew (Below.refl _ _)
          go_region_held3 (fun wx => wx.cell? ⟨w.heap.size, 0, none⟩ = some (.int .i64 m.a) ∧ wx.cell? ⟨w.heap.size, 1, none⟩ = some (.int .i64 m.m) ∧ wx.cell? ⟨w.heap.size, 2, none⟩ = some (.int .i64 m.t) ∧ wx.cell? ⟨w.heap.size, 3, none⟩ = some (.int .i64 m.c) ∧ wx.cell? ⟨w.heap.size, 4, none⟩ = some (.slice a5 m.rides.length c5) ∧ wx.cell? ⟨w.heap.size, 5, none⟩ = some (.bool m.z)) (first | (exact box6_cells (box_below XN.out HB7.out)) | (exact box6_cells X6.out) | go_keep) (first
            | (go_at_call 42; go_fit (QC Z.drew HD1.out); rintro e w6 ⟨v6, rfl, ho6, hb6⟩; have HO6 : Hid (V.Own 27 MH.cod Z.heap.size w6 v6 (List.zipWith Mon.hd ms hs)) := ho6; have HB6 : Hid (Below Z.heap.size Z w6) := HD1.out.trans hb6; have X6 := Lib.hid (box_below XN.out HB6.out); clear ho6 hb6)
            | (go_at_call 44; go_fit (QI v6 w6.heap.size (w6.alloc (.cells #[.int .i64 m.a, .int .i64 m.m, .int .i64 m.t, .int .i64 m.c, .slice a5 m.rides.length c5, .bool m.z] 27)) (HO6.out.alloc _) (HB6.out.alloc HB6.out.size _) (fun q => by have := (World.ownsRow.lt HO6.out _ q).2; omega) (box_new w6 _)); rintro e w7 ⟨v7, rfl, ho7, hb7⟩; have HO7 := Lib.hid ho7; have HB7 : Hid (Below Z.heap.size Z w7) := hb7; clear ho7 hb7)
            | (go_at_call 42; go_fit (QC (Z.alloc (.cells #[.int .i64 m.a, .int .i64 m.m, .int .i64 m.t, .int .i64 m.c, .slice a5 m.rides.length c5, .bool m.z] 27)).drew HD2.out); rintro e w6 ⟨v6, rfl, ho6, hb6⟩; have HO6 := Lib.hid (ho6.lower HD2.out.size); have HV6 : Hid (v6.ownBlock ≠ some Z.heap.size) := (fun q => by have := (World.ownsRow.lt ho6 _ q).1; have e2 : (Z.alloc (.cells #[.int .i64 m.a, .int .i64 m.m, .int .i64 m.t, .int .i64 m.c, .slice a5 m.rides.length c5, .bool m.z] 27)).drew.heap.size = Z.heap.size + 1 := (by show (Z.alloc (.cells #[.int .i64 m.a, .int .i64 m.m, .int .i64 m.t, .int .i64 m.c, .slice a5 m.rides.length c5, .bool m.z] 27)).heap.size = _; simp); omega); have X66 := Lib.hid (box_below (w := (Z.alloc (.cells #[.int .i64 m.a, .int .i64 m.m, .int .i64 m.t, .int .i64 m.c, .slice a5 m.rides.length c5, .bool m.z] 27)).drew) (box_new Z (.cells #[.int .i64 m.a, .int .i64 m.m, .int .i64 m.t, .int .i64 m.c, .slice a5 m.rides.length c5, .bool m.z] 27)) hb6); have HB6 : Hid (Below Z.heap.size Z w6) := HD2.out.trans (hb6.mono HD2.out.size); have X6 := Lib.hid (box_below XN.out HB6.out); clear ho6 hb6)
            | (go_at_call 44; go_fit (QI v6 Z.heap.size w6 HO6.out HB6.out HV6.out X66.out); rintro e w7 ⟨v7, rfl, ho7, hb7⟩; have HO7 := Lib.hid ho7; have HB7 : Hid (Below Z.heap.size Z w7) := hb7; clear ho7 hb7))
          all_goals
            go_wp2_with fail
            go_ret2
            rw [HE.out.1, HE.out.2]
            obtain ⟨a', c', e9, s9, -⟩ := HO7.out.slice
            subst e9
            have hins := MonIn.ins (j := j) (HIN.out.below HB7.out) (h := ⟨a5, m.rides.length, c5⟩) (m := m) (HSR.out.below HB7.out) s9
            have hlen : ((List.zipWith Mon.hd ms hs).take j ++ m.hd ⟨a5, m.rides.length, c5⟩ :: (List.zipWith Mon.hd ms hs).drop j).length = (insM m ms).length := by
              have := hins.n_eq
              unfold insM
              rw [← hjp.out]
              exact this
            unfold insM at hlen ⊢
            rw [← hjp.out] at hlen ⊢
            rw [hlen] at hins
            exact ⟨a', c', _, by rw [hlen]; rfl, hins, HBN.out.trans (HB7.out.mono HBN.out.size)⟩
end Go.Proofs.Ytbdkhgenkekioaa
