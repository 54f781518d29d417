/- The transfer layer: the reference's sort. -/
import Derived.Test.YtbdkhgenkekioaaTrE
import Derived.Lib.QuietBelow
import Derived.Deep.CutBlock
import Derived.Deep.DeepCutAuto
namespace Go.Proofs.Ytbdkhgenkekioaa
open Go.RowKit Go.V Go.Sort Go.Shelf Go.Proofs

theorem eltRide : Elt Try.prog 25 24 Ride.cod 32 := Elt.of Try.underlying25 infoRide rfl (by decide)

theorem own_lt {α : Type} {e : TypeId} {c : Cod α} {base : Nat} {w : World} {v : Value} {xs : List α} (h : Own e c base w v xs) (k : Nat) (hk : v.ownBlock = some k) : base ≤ k := (World.ownsRow.lt h k hk).1

/-- Where one is put into what is sorted. -/
theorem ins_at {lt : Ride → Ride → Bool} (h : Ord lt) {s : List Ride} {x : Ride} {j : Nat} (hs : Srt lt s) (h1 : ∀ t y, j ≤ t → s[t]? = some y → lt x y = true) (h2 : ∀ y, 0 < j → s[j - 1]? = some y → lt x y = false) (hj : j ≤ s.length) :
    s.take j ++ [x] ++ s.drop j = mrg lt s [x] := by
  have hd : Srt lt (s.take j ++ s.drop j) := by rw [List.take_append_drop]; exact hs
  obtain ⟨s1, s2, s3⟩ := List.pairwise_append.1 hd
  have y := mrg_split (lt := lt) (a1 := s.take j) (a2 := s.drop j) (b1 := [x]) (b2 := []) (fun y hy z hz => by
    simp at hz; subst hz
    obtain ⟨t, ht⟩ := List.mem_iff_getElem?.1 hy
    rw [List.getElem?_drop] at ht
    exact h1 _ _ (by omega) ht) (fun _ _ y hy => by simp at hy) s3
  simp only [List.append_nil] at y
  rw [List.take_append_drop, mrg_nil_of_srt s2] at y
  rw [y]
  congr 1
  have z := mrg_split (lt := lt) (a1 := s.take j) (a2 := []) (b1 := []) (b2 := [x]) (fun y hy => by simp at hy) (fun y hy w hw => by
    simp at hw; subst hw
    obtain ⟨t, ht⟩ := List.mem_iff_getElem?.1 hy
    have htj : t < j := by
      have := (List.getElem?_eq_some_iff.1 ht).1; simp at this; omega
    rw [List.getElem?_take_of_lt htj] at ht
    have hl : j - 1 < s.length := by omega
    have e2 := h2 _ (by omega) (List.getElem?_eq_getElem hl)
    by_cases c : t = j - 1
    · subst c; rw [List.getElem?_eq_getElem hl] at ht; rw [← Option.some.inj ht]; exact e2
    · have htl : t < s.length := (List.getElem?_eq_some_iff.1 ht).1
      have e3 : lt s[j - 1] s[t] = false := List.pairwise_iff_getElem.1 hs t (j - 1) htl hl (by omega)
      rw [← (List.getElem?_eq_some_iff.1 ht).2]
      exact h.neg _ _ _ e2 e3) (fun y _ w hw => by simp at hw)
  simp only [List.append_nil, List.nil_append] at z
  rw [z, mrg_nil_of_srt s1]; rfl

theorem isort_take {lt : Ride → Ride → Bool} (h : Ord lt) {xs : List Ride} {k : Nat} {x : Ride} (hx : xs[k]? = some x) : isort lt (xs.take (k + 1)) = mrg lt (isort lt (xs.take k)) [x] := by
  rw [take_at hx, isort_append h]; rfl

set_option maxHeartbeats 1000000 in
theorem rsort_any (a : Option Addr) (n cap : Nat) (xs : List Ride) (w : World) (hn : n ≤ 1000000) (h : Sl Ride.cod w a n cap xs) :
    Calls Try.prog 97 #[.slice a n cap] w fun e w' => ∃ v, e = .returned v ∧ Own 24 Ride.cod w.heap.size w' v (isort ltR xs) ∧ Below w.heap.size w w' := by
  have hN := Lib.hid h.hlen
  have mixed : Try.prog.follows .mixedOrders = true := by kernel_rfl
  go_enter Try.func97, Try.ntmps97
  go_wp2_with fail
  go_loopw [3, 4] (fun out i wr => ∃ (k : Nat) (ao : Option Addr) (co : Nat), i = .int .i64 k ∧ k ≤ n ∧ out = .slice ao k co ∧ Hid (Own 24 Ride.cod w.heap.size wr (.slice ao k co) (isort ltR (xs.take k))) ∧ Below w.heap.size w wr) (fun _ i _ => n - (intOf i).toNat)
  case atStart => exact ⟨0, none, 0, rfl, by omega, rfl, Own.nil, Below.refl _ _⟩
  case round =>
    obtain ⟨k, ao, co, rfl, hk, rfl, ho, hb⟩ := hrel
    by_cases hlt : k < n
    · obtain ⟨b, off, x, rfl, hbl, hx, c0, c1, c2, c3⟩ := ride_at (h.below hb) hlt
      have HX := Lib.hid hx
      have HB := Lib.hid hb
      have HS : Hid (Sl Ride.cod wr ao k co (isort ltR (xs.take k))) := by
        obtain ⟨a', cap', e1, e2, -⟩ := ho.out.slice
        have hl : (isort ltR (xs.take k)).length = k := by rw [(isort_perm _).length_eq]; have := hN.out; simp; omega
        rw [hl] at e1 e2
        cases e1; exact e2
      have HAO : Hid (∀ d, ao = some d → ∃ bo, d = ⟨bo, 0, none⟩ ∧ bo < wr.heap.size) := by
        obtain ⟨a', cap', e1, -, e3⟩ := ho.out.slice
        injection e1 with e6
        intro d hd
        obtain ⟨g, cur, e4, -, e5⟩ := e3 d (e6 ▸ hd)
        exact ⟨g, e4, (Array.getElem?_eq_some_iff.1 e5).1⟩
      obtain ⟨s, hs⟩ : ∃ s, isort ltR (xs.take k) = s := ⟨_, rfl⟩
      have hsl : s.length = k := by rw [← hs, (isort_perm _).length_eq]; have := hN.out; simp; omega
      have hso : Srt ltR s := by rw [← hs]; exact isort_srt ordR _
      rw [hs] at ho HS
      have HSS := Lib.hid hs
      have HSL := Lib.hid hsl
      have HSO := Lib.hid hso
      clear hx hb hs hsl hso
      obtain ⟨wo, rfl⟩ : ∃ wo : World, wo = wr := ⟨_, rfl⟩
      go_upto_block 2 with fail
      go_cut [5] (fun v wr => ∃ j : Nat, v = .int .i64 j ∧ j ≤ k ∧ Hid (∀ t y, j ≤ t → s[t]? = some y → ltR x y = true) ∧ Hid (∀ y, 0 < j → s[j - 1]? = some y → ltR x y = false) ∧ Below wo.heap.size wo wr)
      case first =>
        go_wp2_with fail
        go_loopw [5] (fun v wr => ∃ j : Nat, v = .int .i64 j ∧ j ≤ k ∧ Hid (∀ t y, j ≤ t → s[t]? = some y → ltR x y = true) ∧ Below wo.heap.size wo wr) (fun v _ => (intOf v).toNat)
        case atStart => exact ⟨k, rfl, Nat.le_refl _, fun t y h1 h2 => by have := (List.getElem?_eq_some_iff.1 h2).1; rw [HSL.out] at this; omega, Below.refl _ _⟩
        case round =>
          obtain ⟨j, rfl, hj, hall, hb⟩ := hrel
          have HB2 := Lib.hid hb
          obtain ⟨hc, -⟩ := bcell hb
          have k0 : wr.cell? ⟨b, off + k * 4, none⟩ = some (.int .i64 x.t) := by rw [hc _ _ hbl]; exact c0
          have k1 : wr.cell? ⟨b, off + k * 4 + 1, none⟩ = some (.int .i64 x.s) := by rw [hc _ _ hbl]; exact c1
          have k2 : wr.cell? ⟨b, off + k * 4 + 2, none⟩ = some (.int .i64 x.e) := by rw [hc _ _ hbl]; exact c2
          have k3 : wr.cell? ⟨b, off + k * 4 + 3, none⟩ = some (.int .i64 x.f) := by rw [hc _ _ hbl]; exact c3
          by_cases hj0 : 0 < j
          · obtain ⟨j, rfl⟩ : ∃ j', j = j' + 1 := ⟨j - 1, by omega⟩
            obtain ⟨bo, oo, y, rfl, hbo, hy, d0, d1, d2, d3⟩ := ride_at (HS.out.below hb) (show j < k by omega)
            have K0 := cell_regrown k0
            have K1 := cell_regrown k1
            have K2 := cell_regrown k2
            have K3 := cell_regrown k3
            have D0 := cell_regrown d0
            have D1 := cell_regrown d1
            have D2 := cell_regrown d2
            have D3 := cell_regrown d3
            have HY := Lib.hid hy
            have r2 : IntKind.i64.wrap (j : Int) = (j : Int) := by rw [IntKind.wrap_i64]; omega
            have p2 : (0 : Int) < (j : Int) + 1 := by omega
            have b2 : (j : Int) < (k : Int) := by omega
            have b1 : (k : Int) < (n : Int) := by omega
            have HC := Lib.hid hc
            clear hy hb hc k0 k1 k2 k3 c0 c1 c2 c3 d0 d1 d2 d3
            go_wp2_with fail
            refine wp_region_quiet_below (by assumption) (by kernel_rfl) ?_
            repeat (quiet_step (first | (go_at_call 39; exact Calls.regrown_of (ahead_any _ _ _))))
            refine wpQuiet_nil ?_
            intro w2 hw2
            obtain ⟨⟨nd, osq⟩, rfl⟩ := hw2
            have hb2 := below_regrown wr nd osq
            generalize grow (redrawn wr nd) osq = w2 at hb2 ⊢
            have HB3 : Hid (Below wo.heap.size wo w2) := HB2.out.trans (hb2.mono HB2.out.size)
            clear hb2 K0 K1 K2 K3 D0 D1 D2 D3
            cases hl : ltR x y with
            | true =>
              have HL := Lib.hid hl
              clear hl
              go_wp2_with fail
              go_roundw
              case rel => exact ⟨j, by first | rfl | go_num, by omega, fun t y' h1 h2 => by
                by_cases e : t = j
                · subst e; rw [HY.out] at h2; rw [← Option.some.inj h2]; exact HL.out
                · exact hall.out t y' (by omega) h2, HB3.out⟩
              case measure => simp [intOf]
            | false =>
              have HL := Lib.hid hl
              clear hl
              go_wp2_with fail
              go_meet
              exact ⟨j + 1, by first | rfl | go_num, by omega, hall.out, fun y' _ h2 => by rw [Nat.add_sub_cancel, HY.out] at h2; rw [← Option.some.inj h2]; exact HL.out, HB3.out⟩
          · have : j = 0 := by omega
            subst this
            have hd : decide ((0 : Int) > (0 : Int)) = false := by decide
            go_wp2_with fail
            go_quiet (fail)
            go_wp2_with fail
            go_meet
            exact ⟨0, rfl, by omega, hall.out, fun y' h2 => by omega, below_drewN HB2.out _⟩
      obtain ⟨j, rfl, hj, hall, hlast, hb⟩ := hcut
      have HFIN : Hid (s.take j ++ [x] ++ s.drop j = isort ltR (xs.take (k + 1))) := by
        show _ = _
        rw [isort_take ordR HX.out, HSS.out]; exact ins_at ordR HSO.out hall.out hlast.out (by rw [HSL.out]; exact hj)
      have HBW : Hid (Below w.heap.size w wc) := HB.out.trans (hb.mono HB.out.size)
      have hsz : w.heap.size ≤ wc.heap.size := HBW.out.size
      have HSc := Lib.hid (HS.out.below hb)
      have HU := Lib.hid (HSc.out.upto hj)
      have hcap := HSc.out.hcap
      obtain ⟨hc, -⟩ := bcell hb
      have k0 : wc.cell? ⟨b, off + k * 4, none⟩ = some (.int .i64 x.t) := by rw [hc _ _ hbl]; exact c0
      have k1 : wc.cell? ⟨b, off + k * 4 + 1, none⟩ = some (.int .i64 x.s) := by rw [hc _ _ hbl]; exact c1
      have k2 : wc.cell? ⟨b, off + k * 4 + 2, none⟩ = some (.int .i64 x.e) := by rw [hc _ _ hbl]; exact c2
      have k3 : wc.cell? ⟨b, off + k * 4 + 3, none⟩ = some (.int .i64 x.f) := by rw [hc _ _ hbl]; exact c3
      have hblc := World.block_lt_of_cell? wc _ k0
      have b1 : (k : Int) < (n : Int) := by omega
      have hjc : (j : Int) ≤ (co : Int) := by omega
      have hjk : (j : Int) ≤ (k : Int) := by omega
      have HM1 : Hid (([] : List Ride).length + j ≤ maxLen) := by show _ ≤ _; unfold maxLen; simp; omega
      have HM2 : Hid ((([] : List Ride).length + j) * 32 ≤ 140737488355328) := by show _ ≤ _; simp; omega
      clear hc hb c0 c1 c2 c3
      have K0 : Hid (wc.cell? ⟨b, off + k * 4, none⟩ = some (.int .i64 x.t) ∧ wc.cell? ⟨b, off + k * 4 + 1, none⟩ = some (.int .i64 x.s) ∧ wc.cell? ⟨b, off + k * 4 + 2, none⟩ = some (.int .i64 x.e) ∧ wc.cell? ⟨b, off + k * 4 + 3, none⟩ = some (.int .i64 x.f)) := ⟨k0, k1, k2, k3⟩
      clear k0 k1 k2 k3
      have hF : ∃ (aF : Option Addr) (cF : Nat), ((j < co ∧ cF = co - j ∧ ∃ bo oo, ao = some ⟨bo, oo, none⟩ ∧ aF = some ⟨bo, oo + j * 4, none⟩) ∨ (j = co ∧ cF = 0 ∧ aF = ao ∧ (ao = none ∨ ∃ bo oo, ao = some ⟨bo, oo, none⟩))) ∧ Sl Ride.cod wc aF (k - j) cF (s.drop j) := by
        by_cases e : j = co
        · refine ⟨ao, 0, .inr ⟨e, rfl, rfl, ?_⟩, ?_⟩
          · cases ao with
            | none => exact .inl rfl
            | some d =>
              obtain ⟨bo, e4, -⟩ := HAO.out d rfl
              exact .inr ⟨bo, 0, by rw [e4]⟩
          have e2 : s.drop j = [] := List.drop_eq_nil_of_le (by rw [HSL.out]; omega)
          rw [e2]
          exact ⟨by simp; omega, by omega, by unfold maxLen; omega, fun _ => by omega, fun d hd hc => by omega⟩
        · cases ao with
          | none => have := (HSc.out.hnil rfl).2; omega
          | some d =>
            obtain ⟨bo, e4, -⟩ := HAO.out d rfl
            subst e4
            exact ⟨_, _, .inl ⟨by omega, rfl, bo, 0, rfl, rfl⟩, HSc.out.from hj (by omega)⟩
      obtain ⟨aF, cF, hA, hF⟩ := hF
      have HF := Lib.hid hF
      have htl : (s.take j).length = j := by rw [List.length_take, HSL.out]; omega
      have HM3 : Hid ((s.take j).length + 1 ≤ maxLen) := by show _ ≤ _; rw [htl]; unfold maxLen; omega
      have HM4 : Hid (((s.take j).length + 1) * 32 ≤ 140737488355328) := by show _ ≤ _; rw [htl]; omega
      have HM5 : Hid ((s.take j ++ [x]).length + (k - j) ≤ maxLen) := by show _ ≤ _; rw [List.length_append, htl]; unfold maxLen; simp; omega
      have HM6 : Hid (((s.take j ++ [x]).length + (k - j)) * 32 ≤ 140737488355328) := by show _ ≤ _; rw [List.length_append, htl]; simp; omega
      have hco : (co : Int) ≤ 9223372036854775807 := by have := HSc.out.hmax; unfold maxLen at this; omega
      clear hF htl hcap
      rcases hA with ⟨hA1, rfl, bo, oo, rfl, rfl⟩ | ⟨rfl, rfl, rfl, rfl | ⟨bo, oo, rfl⟩⟩
      all_goals
        go_wp2_with (first | (at_builtin; refine wpList_app eltRide rfl (.tmp 31) (.tmp 34) rfl (base := wc.heap.size) _ [] rfl Own.nil _ j _ (s.take j) rfl HU.out HM1.out HM2.out (Nat.le_refl _) ?_; intro v1 w1 hown1 hg1; have hb1 : Below wc.heap.size wc w1 := (Below.refl _ _).grown hg1 (Nat.le_refl _) (fun k hk => by cases hk); obtain ⟨m0, m1, m2, m3⟩ : w1.cell? ⟨b, off + k * 4, none⟩ = some (.int .i64 x.t) ∧ w1.cell? ⟨b, off + k * 4 + 1, none⟩ = some (.int .i64 x.s) ∧ w1.cell? ⟨b, off + k * 4 + 2, none⟩ = some (.int .i64 x.e) ∧ w1.cell? ⟨b, off + k * 4 + 3, none⟩ = some (.int .i64 x.f) := (by obtain ⟨c, -⟩ := bcell hb1; rw [c _ _ hblc, c _ _ hblc, c _ _ hblc, c _ _ hblc]; exact K0.out); have HO1 := Lib.hid hown1; have HB1 := Lib.hid hb1; have hs1 := hb1.size; clear hown1 hg1 hb1) | (at_builtin; refine wpList_app eltRide rfl (.tmp 36) (.tmp 41) rfl (base := wc.heap.size) v1 (s.take j) rfl (HO1.out.alloc _) _ 1 1 [x] rfl (sl_new w1 _ _ [x] 1 rfl (by unfold maxLen; omega) rfl) HM3.out HM4.out (by simp; omega) ?_; intro v2 w2 hown2 hg2; have hb2 : Below wc.heap.size wc w2 := (HB1.out.alloc hs1 _).grown hg2 (by simp; omega) (fun k hk => own_lt HO1.out k hk); have HO2 := Lib.hid hown2; have HB2 := Lib.hid hb2; have hs2 := hb2.size; have HF2 := Lib.hid (HF.out.below hb2); clear hown2 hg2 hb2) | (at_builtin; refine wpList_app eltRide rfl (.tmp 43) (.tmp 46) rfl (base := wc.heap.size) v2 (s.take j ++ [x]) rfl HO2.out _ (k - j) _ (s.drop j) rfl HF2.out HM5.out HM6.out hs2 ?_; intro v3 w3 hown3 hg3; have hb3 : Below wc.heap.size wc w3 := HB2.out.grown hg3 hs2 (fun k hk => own_lt HO2.out k hk); have HO3 := Lib.hid hown3; have HB3 := Lib.hid hb3; clear hown3 hg3 hb3))
        have h3 := HO3.out
        rw [HFIN.out] at h3
        obtain ⟨a3, c3, e3, e4, -⟩ := h3.slice
        have hl3 : (isort ltR (xs.take (k + 1))).length = k + 1 := by rw [(isort_perm _).length_eq]; have := hN.out; simp; omega
        rw [hl3] at e3
        subst e3
        go_roundw
        case rel => exact ⟨k + 1, a3, c3, by go_num, by omega, rfl, h3.lower hsz, HBW.out.trans (HB3.out.mono hsz)⟩
        case measure => simp [intOf]; omega
    · have hk' : k = n := by omega
      have HK := Lib.hid hk'; clear hk'
      go_wp2
      go_ret
      exact ⟨_, rfl, by have := ho.out; rw [HK.out, List.take_of_length_le (by rw [← hN.out]; omega)] at this; rw [HK.out]; exact this, hb⟩
end Go.Proofs.Ytbdkhgenkekioaa
