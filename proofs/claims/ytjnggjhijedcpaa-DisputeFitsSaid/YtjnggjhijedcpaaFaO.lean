/- Fares: bills held against one another; which tariffs a play goes through with. -/
import Derived.Test.YtjnggjhijedcpaaFaL
namespace Go.Proofs.Ytjnggjhijedcpaa
open Go.RowKit Go.V Go.Proofs

/-- The bill's groups, as they read. -/
structure BillIn (w : World) (a : Option Addr) (n cap : Nat) (hs : List GH) (gs : List Grp) : Prop where
  hd : Sl GH.cod w a n cap hs
  len : hs.length = gs.length
  each : ∀ (i : Nat) (h : GH) (g : Grp), hs[i]? = some h → gs[i]? = some g → Sl icod w h.h.a h.h.n h.h.cap g.trips ∧ h.far = g.far ∧ h.price = g.price
theorem BillIn.below {w w' : World} {a : Option Addr} {n cap : Nat} {hs : List GH} {gs : List Grp} (h : BillIn w a n cap hs gs) (hb : Below w.heap.size w w') : BillIn w' a n cap hs gs :=
  ⟨h.hd.below hb, h.len, fun i x g h1 h2 => ⟨(h.each i x g h1 h2).1.below hb, (h.each i x g h1 h2).2⟩⟩
theorem BillIn.n_eq {w : World} {a : Option Addr} {n cap : Nat} {hs : List GH} {gs : List Grp} (h : BillIn w a n cap hs gs) : n = gs.length := by rw [h.hd.hlen, h.len]
theorem BillIn.at {w : World} {a : Option Addr} {n cap : Nat} {hs : List GH} {gs : List Grp} (h : BillIn w a n cap hs gs) {i : Nat} (hi : i < n) : ∃ b off at_ ct g, a = some ⟨b, off, none⟩ ∧ b < w.heap.size ∧ gs[i]? = some g ∧ w.cell? ⟨b, off + i * 3, none⟩ = some (.slice at_ g.trips.length ct) ∧ w.cell? ⟨b, off + i * 3 + 1, none⟩ = some (.int .i64 g.far) ∧ w.cell? ⟨b, off + i * 3 + 2, none⟩ = some (.int .i64 g.price) ∧ Sl icod w at_ g.trips.length ct g.trips := by
  obtain ⟨b, off, rfl, hb, x, hx, hc⟩ := h.hd.some hi
  have hg : i < gs.length := by rw [← h.n_eq]; exact hi
  obtain ⟨k1, k2, k3⟩ := h.each i x gs[i] hx (List.getElem?_eq_getElem hg)
  have hl := k1.hlen
  refine ⟨b, off, x.h.a, x.h.cap, gs[i], rfl, hb, List.getElem?_eq_getElem hg, ?_, ?_, ?_, by rw [← hl]; exact k1⟩
  · have := hc 0 _ rfl; rw [hl] at this; exact this
  · have := hc 1 _ rfl; rw [k2] at this; exact this
  · have := hc 2 _ rfl; rw [k3] at this; exact this
theorem BillR.billIn {base : Nat} {w : World} {v : Value} {gs : List Grp} {sum pay : Int} (h : BillR base w v gs sum pay) : ∃ a cap hs, v = .agg #[.slice a gs.length cap, .int .i64 sum, .int .i64 pay] ∧ BillIn w a gs.length cap hs gs := by
  obtain ⟨a, n, cap, hs, rfl, ho⟩ := h
  obtain ⟨a', cap', e, hsl⟩ := ho.slice
  cases e
  refine ⟨a, cap, hs, rfl, hsl, ho.len, fun i x g h1 h2 => ?_⟩
  obtain ⟨k1, k2⟩ := ho.each i x g h1 h2
  obtain ⟨a', c', e, hs', -⟩ := k1.slice
  obtain ⟨⟨u, v, z⟩, fa, pr⟩ := x
  simp only [Hdr.val, Value.slice.injEq] at e
  obtain ⟨rfl, rfl, rfl⟩ := e
  exact ⟨hs', k2⟩

theorem box_belowN {w : World} {g : Nat} {ob : Obj} (h : w.heap[g]? = some ob) (k : Nat) : (w.drewN k).heap[g]? = some ob := h

set_option maxHeartbeats 4000000 in
set_option maxRecDepth 100000 in
theorem rsame_eq (a1 a2 : Option Addr) (n c1 c2 : Nat) (hs1 hs2 : List GH) (gs : List Grp) (S P : Int) (w : World) (hn : n ≤ 1000000) (hg : ∀ g ∈ gs, g.trips.length ≤ 1000000) (h1 : BillIn w a1 n c1 hs1 gs) (h2 : BillIn w a2 n c2 hs2 gs) :
    Calls Try.prog 15 #[.agg #[.slice a1 n c1, .int .i64 S, .int .i64 P], .agg #[.slice a2 n c2, .int .i64 S, .int .i64 P]] w fun e w' => e = .returned (.bool true) ∧ Below w.heap.size w w' := by
  have mixed : Try.prog.follows .mixedOrders = true := by kernel_rfl
  have B1 : Hid (((w.alloc (.cells #[.slice a1 n c1, .int .i64 S, .int .i64 P] 32)).alloc (.cells #[.slice a2 n c2, .int .i64 S, .int .i64 P] 32)).heap[w.heap.size]? = some (.cells #[.slice a1 n c1, .int .i64 S, .int .i64 P] 32 (0, 0))) := box_alloc (box_new _ _)
  have B2 : Hid (((w.alloc (.cells #[.slice a1 n c1, .int .i64 S, .int .i64 P] 32)).alloc (.cells #[.slice a2 n c2, .int .i64 S, .int .i64 P] 32)).heap[w.heap.size + 1]? = some (.cells #[.slice a2 n c2, .int .i64 S, .int .i64 P] 32 (0, 0))) := by
    have := box_new (w.alloc (.cells #[.slice a1 n c1, .int .i64 S, .int .i64 P] 32)) (.cells #[.slice a2 n c2, .int .i64 S, .int .i64 P] 32)
    rwa [World.size_alloc] at this
  have BB : Hid (Below w.heap.size w ((w.alloc (.cells #[.slice a1 n c1, .int .i64 S, .int .i64 P] 32)).alloc (.cells #[.slice a2 n c2, .int .i64 S, .int .i64 P] 32))) := ((Below.refl _ _).alloc (Nat.le_refl _) _).alloc (by simp) _
  go_enter Try.func15, Try.ntmps15
  go_wp2_with fail
  go_loopw [5] (fun i wr => ∃ k : Nat, i = .int .i64 k ∧ k ≤ n ∧ Hid (wr.heap[w.heap.size]? = some (.cells #[.slice a1 n c1, .int .i64 S, .int .i64 P] 32 (0, 0))) ∧ Hid (wr.heap[w.heap.size + 1]? = some (.cells #[.slice a2 n c2, .int .i64 S, .int .i64 P] 32 (0, 0))) ∧ Hid (Below w.heap.size w wr)) (fun i _ => n - (intOf i).toNat)
  case atStart => exact ⟨0, rfl, by omega, B1.out, B2.out, BB.out⟩
  case round =>
    obtain ⟨k, rfl, hk, hb1, hb2, hb⟩ := hrel
    have hsz := hb.out.size
    have p0 : wr.cell? ⟨w.heap.size, 0, none⟩ = some (.slice a1 n c1) := (box_cell hb1.out 0).1
    have p1 : wr.cell? ⟨w.heap.size + 1, 0, none⟩ = some (.slice a2 n c2) := (box_cell hb2.out 0).1
    have l0 := World.block_lt_of_cell? wr _ p0
    have l1 := World.block_lt_of_cell? wr _ p1
    by_cases hlt : k < n
    · obtain ⟨b, off, at_, ct, g, rfl, hbl, hgk, x0, x1, x2, hsx⟩ := (h1.below hb.out).at hlt
      obtain ⟨b', off', at', ct', g', rfl, hbl', hgk', y0, y1, y2, hsy⟩ := (h2.below hb.out).at hlt
      have hgg : g' = g := by rw [hgk] at hgk'; exact (Option.some.inj hgk').symm
      subst hgg
      have hgl := hg g' (List.mem_of_getElem? hgk)
      obtain ⟨T, hT⟩ : ∃ T, g'.trips.length = T := ⟨_, rfl⟩
      rw [hT] at x0 y0 hsx hsy hgl
      have HT := Lib.hid hT
      have HSX := Lib.hid hsx
      have HSY := Lib.hid hsy
      have b1 : (k : Int) < (n : Int) := by omega
      clear hgk hgk' hT hsx hsy
      obtain ⟨wk, rfl⟩ : ∃ wk : World, wk = wr := ⟨_, rfl⟩
      have D1 : Hid (((wk.alloc (.cells #[.slice at_ T ct, .int .i64 g'.far, .int .i64 g'.price] 46)).alloc (.cells #[.slice at' T ct', .int .i64 g'.far, .int .i64 g'.price] 46)).heap[wk.heap.size]? = some (.cells #[.slice at_ T ct, .int .i64 g'.far, .int .i64 g'.price] 46 (0, 0))) := box_alloc (box_new _ _)
      have D2 : Hid (((wk.alloc (.cells #[.slice at_ T ct, .int .i64 g'.far, .int .i64 g'.price] 46)).alloc (.cells #[.slice at' T ct', .int .i64 g'.far, .int .i64 g'.price] 46)).heap[wk.heap.size + 1]? = some (.cells #[.slice at' T ct', .int .i64 g'.far, .int .i64 g'.price] 46 (0, 0))) := by
        have := box_new (wk.alloc (.cells #[.slice at_ T ct, .int .i64 g'.far, .int .i64 g'.price] 46)) (.cells #[.slice at' T ct', .int .i64 g'.far, .int .i64 g'.price] 46)
        rwa [World.size_alloc] at this
      go_wp2_with fail
      go_loopw [8] (fun i wr => ∃ j : Nat, i = .int .i64 j ∧ j ≤ T ∧ Hid (wr.heap[wk.heap.size]? = some (.cells #[.slice at_ T ct, .int .i64 g'.far, .int .i64 g'.price] 46 (0, 0))) ∧ Hid (wr.heap[wk.heap.size + 1]? = some (.cells #[.slice at' T ct', .int .i64 g'.far, .int .i64 g'.price] 46 (0, 0))) ∧ Hid (Below wk.heap.size wk wr)) (fun i _ => T - (intOf i).toNat)
      case atStart => exact ⟨0, rfl, by omega, D1.out, D2.out, ((Below.refl _ _).alloc (Nat.le_refl _) _).alloc (by simp) _⟩
      case round =>
        obtain ⟨j, rfl, hj, hd1, hd2, hbk⟩ := hrel
        have e0 : wr.cell? ⟨wk.heap.size, 0, none⟩ = some (.slice at_ T ct) := (box_cell hd1.out 0).1
        have e1 : wr.cell? ⟨wk.heap.size + 1, 0, none⟩ = some (.slice at' T ct') := (box_cell hd2.out 0).1
        by_cases hjT : j < T
        · obtain ⟨b3, o3, z, rfl, hb3, hz, z0⟩ := int_at (HSX.out.below hbk.out) hjT
          obtain ⟨b4, o4, z', rfl, hb4, hz', z1⟩ := int_at (HSY.out.below hbk.out) hjT
          have hzz : z' = z := by rw [hz] at hz'; exact (Option.some.inj hz').symm
          subst hzz
          have b2 : (j : Int) < (T : Int) := by omega
          clear hz hz'
          go_wp2_with fail
          go_quiet (fail)
          go_wp2_with fail
          go_roundw
          case rel => exact ⟨j + 1, by go_num, by omega, (by show _ = _; exact box_belowN hd1.out _), (by show _ = _; exact box_belowN hd2.out _), below_drewN hbk.out _⟩
          case measure => simp [intOf]; omega
        · have hjj : j = T := by omega
          subst hjj
          go_wp2_with fail
          go_roundw
          case rel => exact ⟨k + 1, by go_num, by omega, (hbk.out.block _ l0).trans hb1.out, (hbk.out.block _ l1).trans hb2.out, hb.out.trans (hbk.out.mono hsz)⟩
          case measure => simp [intOf]; omega
    · have hk' : k = n := by omega
      subst hk'
      go_wp2_with fail
      go_ret
      exact ⟨rfl, hb.out⟩
end Go.Proofs.Ytjnggjhijedcpaa
