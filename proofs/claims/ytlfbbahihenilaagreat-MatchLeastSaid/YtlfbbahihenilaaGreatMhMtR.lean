/- Ways: a trace's way, by a table: walked (printed by gen_XMtR.py). -/
import Derived.Test.YtlfbbahihenilaaGreatMhMtO
namespace Go.Proofs.YtlfbbahihenilaaGreat.Ne
open Go.RowKit Go.V Go.Proofs

theorem mt_results_row {P : Program} {fn : Func} {p u : Tmp} {ty : TypeId} (h : fn.results = #[.cell p ty, .tmp u]) (tmps : Array Value) (w : World) (g : Nat) (t : TypeId) (cs : Array Value) (fr : Nat × Nat) (d : TypeDesc)
    (hp : tmps.getD p undef = .pointer (some ⟨g, 0, none⟩)) (hg : w.heap[g]? = some (.cells cs t fr))
    (hu : P.underlying ty = some d) (hd : (match d with | .struct _ | .array _ _ => true | _ => false) = true) (hi : (P.info? ty).map (·.size) = some cs.size) :
    (results fn tmps).run P w = .ok (.tuple #[.agg cs, tmps.getD u undef]) w := by
  rw [results_cell_tmp h, hp]
  simp [asAddr, run_loadVar_row w g t ty cs fr d hg hu hd hi, Result.andThen]
theorem mt_box4_set {w : World} {g : Nat} {e : TypeId} {u0 u1 u2 u3 : Value} (h : w.heap[g]? = some (.cells #[u0, u1, u2, u3] e (0, 0))) (v0 v1 v2 v3 : Value) : ((((w.setCell ⟨g, 0, none⟩ v0).setCell ⟨g, 1, none⟩ v1).setCell ⟨g, 2, none⟩ v2).setCell ⟨g, 3, none⟩ v3).heap[g]? = some (.cells #[v0, v1, v2, v3] e (0, 0)) := by
  have h1 := heap_setCell_same w g 0 _ e v0 h
  have h2 := heap_setCell_same _ g 1 _ e v1 h1
  have h3 := heap_setCell_same _ g 2 _ e v2 h2
  have h4 := heap_setCell_same _ g 3 _ e v3 h3
  rw [h4]; rfl
theorem own_set {α : Type} {c : Cod α} {e : TypeId} {B : Nat} {w : World} {v : Value} {xs : List α} (h : V.Own e c B w v xs) {A i : Nat} (hA : A < B) (u : Value) : V.Own e c B (w.setCell ⟨A, i, none⟩ u) v xs :=
  h.kept (mt_set w A i u) (.inr fun q => by have := (World.ownsRow.lt h _ q).1; omega)
theorem OwnG.set {α : Type} {e1 e2 : TypeId} {c : Cod α} {B : Nat} {w : World} {v : Value} {hs : List Hdr} {gs : List (List α)} (h : OwnG e1 e2 c B w v hs gs) {A i : Nat} (hA : A < B) (u : Value) : OwnG e1 e2 c B (w.setCell ⟨A, i, none⟩ u) v hs gs :=
  ⟨own_set h.own hA u, h.len, fun j hh g h1 h2 => ⟨own_set (h.each j hh g h1 h2).1 hA u, (h.each j hh g h1 h2).2⟩, h.inc⟩
theorem mayT_zero {r : Rul} {n0 n : Net} (h : mayT r n0 n = 0) : mayR r = true ∧ n0.ver = n.ver := by
  unfold mayT at h
  split at h
  · next hh => exact hh
  · cases h
theorem mayT_two {r : Rul} {n0 n : Net} (h : mayT r n0 n ≠ 0) : mayT r n0 n = 2 := by
  unfold mayT at h ⊢
  split
  · next hh => exact absurd (if_pos hh) h
  · rfl
/-- What a call by a table of another network, too, answers. -/
def trT (n0 n : Net) (k : Nat) (r : Rul) (l : List Smp) : WayR := if n0.ver = n.ver then trE n k r l else if checkE n ≠ 0 then wayNo (checkE n) else wayNo 2
theorem trT_check {n0 n : Net} {k : Nat} {r : Rul} {l : List Smp} (h : checkE n ≠ 0) : trT n0 n k r l = wayNo (checkE n) := by
  unfold trT trE
  rw [if_pos h]
  split <;> rfl
theorem trT_may {n0 n : Net} {k : Nat} {r : Rul} {l : List Smp} (h : checkE n = 0) (h2 : mayT r n0 n ≠ 0) : trT n0 n k r l = wayNo 2 := by
  unfold mayT at h2
  unfold trT
  by_cases hv : n0.ver = n.ver
  · rw [if_pos hv, trE, if_neg (fun e => e h)]
    cases hm : mayR r with
    | false => rw [if_pos rfl]
    | true => exact absurd (if_pos ⟨hm, hv⟩) h2
  · rw [if_neg hv, if_neg (fun e => e h)]
theorem trT_right {n0 n : Net} {k : Nat} {r : Rul} {l : List Smp} (h : checkE n = 0) (hm : mayR r = true) (hv : n0.ver = n.ver) (hr : rightS l = false) : trT n0 n k r l = wayNo 2 := by
  unfold trT trE
  rw [if_pos hv, if_neg (fun e => e h), if_neg (by rw [hm]; decide), if_pos hr]
theorem trT_all {n0 n : Net} {k : Nat} {r : Rul} {l : List Smp} (h : checkE n = 0) (hm : mayR r = true) (hv : n0.ver = n.ver) (hr : rightS l = true) (ha : allErr n r.x (keepE r.f l) ≠ 0) : trT n0 n k r l = wayNo (allErr n r.x (keepE r.f l)) := by
  unfold trT trE
  rw [if_pos hv, if_neg (fun e => e h), if_neg (by rw [hm]; decide), if_neg (by rw [hr]; decide), if_pos ha]
theorem trT_none {n0 n : Net} {k : Nat} {r : Rul} {l : List Smp} (h : checkE n = 0) (hm : mayR r = true) (hv : n0.ver = n.ver) (hr : rightS l = true) (ha : allErr n r.x (keepE r.f l) = 0) (hg : goE (stepE n k r.x) (rowsE n r.x (keepE r.f l)) none = none) : trT n0 n k r l = wayNo 31 := by
  unfold trT trE
  rw [if_pos hv, if_neg (fun e => e h), if_neg (by rw [hm]; decide), if_neg (by rw [hr]; decide), if_neg (fun e => e ha), hg]
theorem trT_some {n0 n : Net} {k : Nat} {r : Rul} {l : List Smp} {ss : List Int} (h : checkE n = 0) (hm : mayR r = true) (hv : n0.ver = n.ver) (hr : rightS l = true) (ha : allErr n r.x (keepE r.f l) = 0) (hg : goE (stepE n k r.x) (rowsE n r.x (keepE r.f l)) none = some ss) :
    trT n0 n k r l = ⟨0, ss, (pickE (stepE n k r.x) none (rowsE n r.x (keepE r.f l))).1, runsE ss (keepE r.f l), legsE (runsE ss (keepE r.f l)) r.stay⟩ := by
  unfold trT trE
  rw [if_pos hv, if_neg (fun e => e h), if_neg (by rw [hm]; decide), if_neg (by rw [hr]; decide), if_neg (fun e => e ha), hg]

set_option maxHeartbeats 16000000 in
set_option maxRecDepth 100000 in
theorem with_any (base tg mg N : Nat) (n0 n : Net) (h0 hl0 hs hl : Hdr) (r : Rul) (la : Option Addr) (ln lc : Nat) (l : List Smp) (w : World)
    (hT : TabIn w base tg mg N n0 h0 hl0) (hne : tg ≠ mg) (hN : n0.ver = n.ver → N ≤ 10) (hnet : NetIn w n hs hl) (hhn : h0.n = hs.n) (hm : hs.n ≤ 60 ∧ hl.n ≤ 120) (hln : ln ≤ 60) (hL : Sl Smp.cod w la ln lc l) (hsame : n0.ver = n.ver → n0 = n ∧ h0 = hs ∧ hl0 = hl) :
    Calls Tryz.prog 14 #[.pointer (some ⟨tg, 0, none⟩), n.val hs hl, r.val, .slice la ln lc] w fun e w' => ∃ s rr lg, e = .returned (.tuple #[wayV s rr lg (trT n0 n hs.n r l).cost, .int .i64 (trT n0 n hs.n r l).err]) ∧ WayOwn w.heap.size w' s rr lg (trT n0 n hs.n r l).ss (trT n0 n hs.n r l).R (trT n0 n hs.n r l).L ∧ TabIn w' base tg mg (N + 20000) n0 h0 hl0 ∧ Chg w w' mg none := by
  have htg := box_lt hT.box
  have hmg := hT.mg_lt
  have HT := Lib.hid hT
  have HNT := Lib.hid hnet
  have HL := Lib.hid hL
  have HSM := Lib.hid hsame
  have HBT : Hid (base ≤ w.heap.size) := by have := hT.bt; show _ ≤ _; omega
  have HLN : Hid (ln = l.length) := hL.hlen
  have HNL : Hid (n.stops.length ≤ 60) := by have := hnet.s.hlen; show _ ≤ _; omega
  obtain ⟨K, hK⟩ : ∃ K, keepE r.f l = K := ⟨_, rfl⟩
  have hkl : K.length ≤ 60 := by
    have := keepN_len r.f l l.length (Nat.le_refl _)
    have h2 : (keepE r.f l).length ≤ l.length := this
    rw [hK] at h2
    have := HLN.out
    omega
  obtain ⟨G, hG⟩ : ∃ G, rowsE n r.x K = G := ⟨_, rfl⟩
  obtain ⟨C, hC⟩ : ∃ C, (pickE (stepE n hs.n r.x) none G).1 = C := ⟨_, rfl⟩
  have HKE := Lib.hid hK
  have HGE := Lib.hid hG
  have HCE := Lib.hid hC
  clear hT hnet hL hsame hK hG hC
  obtain ⟨X, hX⟩ : ∃ X, trT n0 n hs.n r l = X := ⟨_, rfl⟩
  have HXE := Lib.hid hX
  rw [hX]
  clear hX
  have HEND : Hid (∀ (W : World) (e : Int), X = wayNo e → TabIn W base tg mg (N + 20000) n0 h0 hl0 → Chg w W mg none → ∀ B4, w.heap.size ≤ B4 → W.heap[B4]? = some (.cells #[.slice none 0 0, .int .i64 0, .slice none 0 0, .slice none 0 0] 39 (0, 0)) →
      ∃ s rr lg, Ending.returned (.tuple #[.agg #[.slice none 0 0, .int .i64 0, .slice none 0 0, .slice none 0 0], .int .i64 e]) = .returned (.tuple #[wayV s rr lg X.cost, .int .i64 X.err]) ∧ WayOwn w.heap.size ((((W.setCell ⟨B4, 0, none⟩ (.slice none 0 0)).setCell ⟨B4, 1, none⟩ (.int .i64 0)).setCell ⟨B4, 2, none⟩ (.slice none 0 0)).setCell ⟨B4, 3, none⟩ (.slice none 0 0)) s rr lg X.ss X.R X.L ∧ TabIn ((((W.setCell ⟨B4, 0, none⟩ (.slice none 0 0)).setCell ⟨B4, 1, none⟩ (.int .i64 0)).setCell ⟨B4, 2, none⟩ (.slice none 0 0)).setCell ⟨B4, 3, none⟩ (.slice none 0 0)) base tg mg (N + 20000) n0 h0 hl0 ∧ Chg w ((((W.setCell ⟨B4, 0, none⟩ (.slice none 0 0)).setCell ⟨B4, 1, none⟩ (.int .i64 0)).setCell ⟨B4, 2, none⟩ (.slice none 0 0)).setCell ⟨B4, 3, none⟩ (.slice none 0 0)) mg none) := by
    intro W e hXe ht hc B4 hB hb
    subst hXe
    have hbt := HBT.out
    have k0 := heap_setCell_same W B4 0 _ _ (.slice none 0 0) hb
    have k1 := heap_setCell_same _ B4 1 _ _ (.int .i64 0) k0
    have k2 := heap_setCell_same _ B4 2 _ _ (.slice none 0 0) k1
    refine ⟨⟨none, 0, 0⟩, ⟨none, 0, 0⟩, ⟨none, 0, 0⟩, rfl, WayOwn.nil _ _, ?_, ?_⟩
    · exact (((ht.setBox hb (by decide) (by omega) (by omega) (by omega) _).setBox k0 (by decide) (by omega) (by omega) (by omega) _).setBox k1 (by decide) (by omega) (by omega) (by omega) _).setBox k2 (by decide) (by omega) (by omega) (by omega) _
    · exact chg_below hc (((((Below.refl w.heap.size W).setCell (p := ⟨B4, 0, none⟩) hB _).setCell (p := ⟨B4, 1, none⟩) hB _).setCell (p := ⟨B4, 2, none⟩) hB _).setCell (p := ⟨B4, 3, none⟩) hB _)
  go_enter Tryz.func14, Tryz.ntmps14
  go_upto_block 0 with fail
  obtain ⟨W0, hW0, hz0, hb0, w0, w1, w2, w3, w4, w5, w6, w7, w8⟩ := alloc9 w (.cells #[.pointer (some ⟨tg, 0, none⟩)] 47) (n.box hs hl) r.box (.cells #[.slice la ln lc] 32) (.cells #[.slice none 0 0, .int .i64 0, .slice none 0 0, .slice none 0 0] 39) (.cells #[.slice none 0 0] 32) (.cells #[.slice none 0 0] 63) (.cells #[.slice none 0 0, .int .i64 0, .slice none 0 0, .slice none 0 0] 39) (.cells #[.func (.func 36) #[] #[.pointer (some ⟨w.heap.size + 1, 0, none⟩)], .func (.func 37) #[] #[.pointer (some ⟨w.heap.size + 1 + 1, 0, none⟩), .pointer (some ⟨w.heap.size, 0, none⟩), .pointer (some ⟨w.heap.size + 1, 0, none⟩)], .func (.func 40) #[] #[.pointer (some ⟨w.heap.size + 1 + 1, 0, none⟩), .pointer (some ⟨w.heap.size + 1 + 1 + 1, 0, none⟩), .pointer (some ⟨w.heap.size + 1 + 1 + 1 + 1 + 1, 0, none⟩)], .func (.func 41) #[] #[.pointer (some ⟨w.heap.size + 1, 0, none⟩), .pointer (some ⟨w.heap.size + 1 + 1, 0, none⟩), .pointer (some ⟨w.heap.size + 1 + 1 + 1 + 1 + 1, 0, none⟩), .pointer (some ⟨w.heap.size + 1 + 1 + 1 + 1 + 1 + 1, 0, none⟩)], .func (.func 42) #[] #[.pointer (some ⟨w.heap.size, 0, none⟩), .pointer (some ⟨w.heap.size + 1 + 1, 0, none⟩), .pointer (some ⟨w.heap.size + 1 + 1 + 1 + 1 + 1 + 1, 0, none⟩), .pointer (some ⟨w.heap.size + 1 + 1 + 1 + 1 + 1 + 1 + 1, 0, none⟩)], .func (.func 44) #[] #[.pointer (some ⟨w.heap.size + 1 + 1 + 1 + 1 + 1 + 1 + 1, 0, none⟩), .pointer (some ⟨w.heap.size + 1 + 1 + 1 + 1 + 1, 0, none⟩)], .func (.func 46) #[] #[.pointer (some ⟨w.heap.size + 1 + 1 + 1 + 1 + 1 + 1 + 1, 0, none⟩), .pointer (some ⟨w.heap.size + 1 + 1, 0, none⟩)]] 94)
  rw [hW0]
  obtain ⟨B1, hB1⟩ : ∃ x, w.heap.size + 1 = x := ⟨_, rfl⟩
  obtain ⟨B2, hB2⟩ : ∃ x, w.heap.size + 1 + 1 = x := ⟨_, rfl⟩
  obtain ⟨B3, hB3⟩ : ∃ x, w.heap.size + 1 + 1 + 1 = x := ⟨_, rfl⟩
  obtain ⟨B4, hB4⟩ : ∃ x, w.heap.size + 1 + 1 + 1 + 1 = x := ⟨_, rfl⟩
  obtain ⟨B5, hB5⟩ : ∃ x, w.heap.size + 1 + 1 + 1 + 1 + 1 = x := ⟨_, rfl⟩
  obtain ⟨B6, hB6⟩ : ∃ x, w.heap.size + 1 + 1 + 1 + 1 + 1 + 1 = x := ⟨_, rfl⟩
  obtain ⟨B7, hB7⟩ : ∃ x, w.heap.size + 1 + 1 + 1 + 1 + 1 + 1 + 1 = x := ⟨_, rfl⟩
  obtain ⟨B8, hB8⟩ : ∃ x, w.heap.size + 1 + 1 + 1 + 1 + 1 + 1 + 1 + 1 = x := ⟨_, rfl⟩
  have hNine : Nine w.heap.size w.heap.size B1 B2 B3 B4 B5 B6 B7 B8 := by unfold Nine; omega
  rw [hB8] at w8 ⊢
  rw [hB7] at w7 w8 ⊢
  rw [hB6] at w6 w8 ⊢
  rw [hB5] at w5 w8 ⊢
  rw [hB4] at w4 ⊢
  rw [hB3] at w3 w8 ⊢
  rw [hB2] at w2 w8 ⊢
  rw [hB1] at w1 w8 ⊢
  have HWS : Hid (WS W0 w.heap.size B1 B2 B3 B4 B5 B6 B7 B8 tg n hs hl r la ln lc (.slice none 0 0) (.slice none 0 0) (.slice none 0 0) (.int .i64 0) (.slice none 0 0) (.slice none 0 0) ∧ Below w.heap.size w W0 ∧ TabIn W0 base tg mg N n0 h0 hl0) := ⟨⟨w0, w1, w2, w3, w4, w5, w6, w7, w8⟩, hb0, HT.out.below hb0⟩
  have HNN := Lib.hid hNine
  have hadr : B1 = w.heap.size + 1 ∧ B2 = w.heap.size + 2 ∧ B3 = w.heap.size + 3 ∧ B4 = w.heap.size + 4 ∧ B5 = w.heap.size + 5 ∧ B6 = w.heap.size + 6 ∧ B7 = w.heap.size + 7 ∧ B8 = w.heap.size + 8 := by unfold Nine at hNine; omega
  have HAD := Lib.hid hadr
  have HZ0 := Lib.hid hz0
  clear hW0 hz0 hb0 w0 w1 w2 w3 w4 w5 w6 w7 w8 hB1 hB2 hB3 hB4 hB5 hB6 hB7 hB8 hNine hadr
  go_wp2_with fail
  go_loopw [27] (fun iv W => ∃ (j : Nat), iv = .int .i64 j ∧ Hid ((j = 0 ∧ WS W w.heap.size B1 B2 B3 B4 B5 B6 B7 B8 tg n hs hl r la ln lc (.slice none 0 0) (.slice none 0 0) (.slice none 0 0) (.int .i64 0) (.slice none 0 0) (.slice none 0 0) ∧ Below w.heap.size w W ∧ TabIn W base tg mg N n0 h0 hl0) ∨ (j = 1 ∧ WS W w.heap.size B1 B2 B3 B4 B5 B6 B7 B8 tg n hs hl r la ln lc (.slice none 0 0) (.slice none 0 0) (.slice none 0 0) (.int .i64 0) (.slice none 0 0) (.slice none 0 0) ∧ Below w.heap.size w W ∧ TabIn W base tg mg N n0 h0 hl0 ∧ checkE n = 0) ∨ (j = 2 ∧ WS W w.heap.size B1 B2 B3 B4 B5 B6 B7 B8 tg n hs hl r la ln lc (.slice none 0 0) (.slice none 0 0) (.slice none 0 0) (.int .i64 0) (.slice none 0 0) (.slice none 0 0) ∧ Below w.heap.size w W ∧ TabIn W base tg mg N n0 h0 hl0 ∧ checkE n = 0 ∧ mayR r = true ∧ n0.ver = n.ver) ∨ (j = 3 ∧ ∃ (ka : Option Addr) (kc : Nat), WS W w.heap.size B1 B2 B3 B4 B5 B6 B7 B8 tg n hs hl r la ln lc (.slice ka K.length kc) (.slice none 0 0) (.slice none 0 0) (.int .i64 0) (.slice none 0 0) (.slice none 0 0) ∧ Below w.heap.size w W ∧ TabIn W base tg mg N n0 h0 hl0 ∧ checkE n = 0 ∧ mayR r = true ∧ n0.ver = n.ver ∧ rightS l = true ∧ V.Own 73 Smp.cod (w.heap.size + 9) W (.slice ka K.length kc) K) ∨ (j = 4 ∧ ∃ (ka : Option Addr) (kc : Nat) (ga : Option Addr) (gn gc : Nat), WS W w.heap.size B1 B2 B3 B4 B5 B6 B7 B8 tg n hs hl r la ln lc (.slice ka K.length kc) (.slice ga gn gc) (.slice none 0 0) (.int .i64 0) (.slice none 0 0) (.slice none 0 0) ∧ Below w.heap.size w W ∧ TabIn W base tg mg N n0 h0 hl0 ∧ checkE n = 0 ∧ mayR r = true ∧ n0.ver = n.ver ∧ rightS l = true ∧ V.Own 73 Smp.cod (w.heap.size + 9) W (.slice ka K.length kc) K ∧ allErr n r.x K = 0 ∧ PtsIn W ga gn gc G) ∨ (j = 5 ∧ ∃ (ka : Option Addr) (kc : Nat) (gv : Value) (sa : Option Addr) (sc : Nat) (ss : List Int), WS W w.heap.size B1 B2 B3 B4 B5 B6 B7 B8 tg n hs hl r la ln lc (.slice ka K.length kc) (gv) (.slice sa K.length sc) (.int .i64 C) (.slice none 0 0) (.slice none 0 0) ∧ (TabIn W base tg mg (N + 20000) n0 h0 hl0 ∧ Chg w W mg none) ∧ checkE n = 0 ∧ mayR r = true ∧ n0.ver = n.ver ∧ rightS l = true ∧ V.Own 73 Smp.cod (w.heap.size + 9) W (.slice ka K.length kc) K ∧ allErr n r.x K = 0 ∧ goE (stepE n hs.n r.x) G none = some ss ∧ V.Own 3 icod (w.heap.size + 9) W (.slice sa K.length sc) ss) ∨ (j = 6 ∧ ∃ (kv gv : Value) (sa : Option Addr) (sc : Nat) (ss : List Int) (ra : Option Addr) (rc : Nat), WS W w.heap.size B1 B2 B3 B4 B5 B6 B7 B8 tg n hs hl r la ln lc (kv) (gv) (.slice sa K.length sc) (.int .i64 C) (.slice ra (runsE ss K).length rc) (.slice none 0 0) ∧ (TabIn W base tg mg (N + 20000) n0 h0 hl0 ∧ Chg w W mg none) ∧ checkE n = 0 ∧ mayR r = true ∧ n0.ver = n.ver ∧ rightS l = true ∧ allErr n r.x K = 0 ∧ goE (stepE n hs.n r.x) G none = some ss ∧ V.Own 3 icod (w.heap.size + 9) W (.slice sa K.length sc) ss ∧ V.Own 57 Rn.cod (w.heap.size + 9) W (.slice ra (runsE ss K).length rc) (runsE ss K)) ∨ (j = 7 ∧ ∃ (kv gv : Value) (sa : Option Addr) (sc : Nat) (ss : List Int) (ra : Option Addr) (rc : Nat) (ga : Option Addr) (gc : Nat), WS W w.heap.size B1 B2 B3 B4 B5 B6 B7 B8 tg n hs hl r la ln lc (kv) (gv) (.slice sa K.length sc) (.int .i64 C) (.slice ra (runsE ss K).length rc) (.slice ga (legsE (runsE ss K) r.stay).length gc) ∧ (TabIn W base tg mg (N + 20000) n0 h0 hl0 ∧ Chg w W mg none) ∧ checkE n = 0 ∧ mayR r = true ∧ n0.ver = n.ver ∧ rightS l = true ∧ allErr n r.x K = 0 ∧ goE (stepE n hs.n r.x) G none = some ss ∧ V.Own 3 icod (w.heap.size + 9) W (.slice sa K.length sc) ss ∧ V.Own 57 Rn.cod (w.heap.size + 9) W (.slice ra (runsE ss K).length rc) (runsE ss K) ∧ V.Own 53 Lg.cod (w.heap.size + 9) W (.slice ga (legsE (runsE ss K) r.stay).length gc) (legsE (runsE ss K) r.stay)))) (fun iv _ => 7 - (intOf iv).toNat)
  case atStart => exact ⟨0, rfl, .inl ⟨rfl, HWS.out⟩⟩
  case round =>
    clear HWS
    obtain ⟨j, rfl, hP⟩ := hrel
    have hP' := hP.out
    clear hP
    rcases hP' with ⟨rfl, P⟩ | ⟨rfl, P⟩ | ⟨rfl, P⟩ | ⟨rfl, P⟩ | ⟨rfl, P⟩ | ⟨rfl, P⟩ | ⟨rfl, P⟩ | ⟨rfl, P⟩
    · obtain ⟨ws, hbw, htw⟩ := P
      have WSH := Lib.hid ws
      have HBW := Lib.hid hbw
      have HTW := Lib.hid htw
      have f0 : wr.cell? ⟨B8, 0, none⟩ = some (.func (.func 36) #[] #[.pointer (some ⟨B1, 0, none⟩)]) := (box_cell ws.b8 0).1
      clear ws hbw htw
      obtain ⟨ce, hce⟩ : ∃ ce, checkE n = ce := ⟨_, rfl⟩
      have HCK := Lib.hid hce
      clear hce
      by_cases h0 : ce = 0
      · subst h0
        go_wp2_with (go_at_call 36; go_fit (st1_any B1 n hs hl _ hm WSH.out.b1 (HNT.out.below HBW.out)); rintro e w1 ⟨rfl, hb1⟩; rw [HCK.out]; have HB1 := Lib.hid hb1; clear hb1)
        go_roundw
        case rel => exact ⟨1, by go_num, .inr (.inl ⟨rfl, WSH.out.below HB1.out, HBW.out.trans (HB1.out.mono HBW.out.size), HTW.out.below HB1.out, HCK.out⟩)⟩
        case measure => simp [intOf]
      · have h0b : (ce != 0) = true := by simpa using h0
        have HC0 := Lib.hid h0
        clear h0
        go_wp2_with (go_at_call 36; go_fit (st1_any B1 n hs hl _ hm WSH.out.b1 (HNT.out.below HBW.out)); rintro e w1 ⟨rfl, hb1⟩; rw [HCK.out]; have HB1 := Lib.hid hb1; have HX4 := Lib.hid (box_below WSH.out.b4 hb1); obtain ⟨x0, x1, x2, x3⟩ := box4w_cells HX4.out; obtain ⟨-, y0⟩ := box_cell HX4.out 0; obtain ⟨-, y1⟩ := box_cell HX4.out 1; obtain ⟨-, y2⟩ := box_cell HX4.out 2; obtain ⟨-, y3⟩ := box_cell HX4.out 3; clear hb1)
        refine bodyPost_ret (mt_results_row rfl _ _ B4 _ _ _ _ rfl (mt_box4_set HX4.out _ _ _ _) Tryz.underlying39 rfl (by kernel_rfl)) rfl ?_
        exact HEND.out w1 ce (by rw [← HXE.out, trT_check (by rw [HCK.out]; exact HC0.out), HCK.out]) ((HTW.out.below HB1.out).upto (by omega)) (Chg.of_below (HBW.out.trans (HB1.out.mono HBW.out.size)) _ _) B4 (by have := HAD.out; omega) HX4.out
    · obtain ⟨ws, hbw, htw, hck⟩ := P
      have WSH := Lib.hid ws
      have HBW := Lib.hid hbw
      have HTW := Lib.hid htw
      have HCK := Lib.hid hck
      have f0 : wr.cell? ⟨B8, 1, none⟩ = some (.func (.func 37) #[] #[.pointer (some ⟨B2, 0, none⟩), .pointer (some ⟨w.heap.size, 0, none⟩), .pointer (some ⟨B1, 0, none⟩)]) := (box_cell ws.b8 1).1
      clear ws hbw htw hck
      obtain ⟨me, hme⟩ : ∃ me, mayT r n0 n = me := ⟨_, rfl⟩
      have HME := Lib.hid hme
      clear hme
      by_cases h0 : me = 0
      · subst h0
        go_wp2_with (go_at_call 37; go_fit (st2_any B2 w.heap.size B1 base tg mg N r n0 n h0 hl0 hs hl _ WSH.out.b2 WSH.out.b0 WSH.out.b1 HTW.out hhn); rintro e w1 ⟨rfl, hb1⟩; rw [HME.out]; have HB1 := Lib.hid hb1; clear hb1)
        go_roundw
        case rel => exact ⟨2, by go_num, .inr (.inr (.inl ⟨rfl, WSH.out.below HB1.out, HBW.out.trans (HB1.out.mono HBW.out.size), HTW.out.below HB1.out, HCK.out, mayT_zero HME.out⟩))⟩
        case measure => simp [intOf]
      · have h0b : (me != 0) = true := by simpa using h0
        have HC0 := Lib.hid h0
        clear h0
        go_wp2_with (go_at_call 37; go_fit (st2_any B2 w.heap.size B1 base tg mg N r n0 n _ hl0 hs hl _ WSH.out.b2 WSH.out.b0 WSH.out.b1 HTW.out hhn); rintro e w1 ⟨rfl, hb1⟩; rw [HME.out]; have HB1 := Lib.hid hb1; have HX4 := Lib.hid (box_below WSH.out.b4 hb1); obtain ⟨x0, x1, x2, x3⟩ := box4w_cells HX4.out; obtain ⟨-, y0⟩ := box_cell HX4.out 0; obtain ⟨-, y1⟩ := box_cell HX4.out 1; obtain ⟨-, y2⟩ := box_cell HX4.out 2; obtain ⟨-, y3⟩ := box_cell HX4.out 3; clear hb1)
        refine bodyPost_ret (mt_results_row rfl _ _ B4 _ _ _ _ rfl (mt_box4_set HX4.out _ _ _ _) Tryz.underlying39 rfl (by kernel_rfl)) rfl ?_
        have hne2 : mayT r n0 n ≠ 0 := by rw [HME.out]; exact HC0.out
        have he2 : me = 2 := by rw [← HME.out]; exact mayT_two hne2
        have HE2 := Lib.hid he2
        have hend := HEND.out w1 2 (by rw [← HXE.out, trT_may HCK.out hne2]) ((HTW.out.below HB1.out).upto (by omega)) (Chg.of_below (HBW.out.trans (HB1.out.mono HBW.out.size)) _ _) B4 (by have := HAD.out; omega) HX4.out
        rw [← HE2.out] at hend
        exact hend
    · obtain ⟨ws, hbw, htw, hck, hmr, hvr⟩ := P
      have WSH := Lib.hid ws
      have HBW := Lib.hid hbw
      have HTW := Lib.hid htw
      have HCK := Lib.hid hck
      have HMR := Lib.hid hmr
      have HVR := Lib.hid hvr
      have f0 : wr.cell? ⟨B8, 2, none⟩ = some (.func (.func 40) #[] #[.pointer (some ⟨B2, 0, none⟩), .pointer (some ⟨B3, 0, none⟩), .pointer (some ⟨B5, 0, none⟩)]) := (box_cell ws.b8 2).1
      clear ws hbw htw hck hmr hvr
      have HMF : Hid (mayF r.f = true) := (mayR_in HMR.out).1
      obtain ⟨br, hbr⟩ : ∃ b, rightS l = b := ⟨_, rfl⟩
      have HBR := Lib.hid hbr
      clear hbr
      cases br with
      | true =>
        have hke : keepErr r.f l = 0 := if_pos ⟨HMF.out, HBR.out⟩
        have hkt : keptE r.f l = K := (if_pos ⟨HMF.out, HBR.out⟩).trans HKE.out
        have HST := Lib.hid (st3_any B2 B3 B5 r la ln lc l (.slice none 0 0) wr (by omega) WSH.out.b2 WSH.out.b3 WSH.out.b5 (HL.out.below HBW.out))
        rw [hke, hkt] at HST
        clear hke hkt
        go_wp2_with (go_at_call 40; go_fit HST.out; rintro e w2 ⟨v, w1, rfl, ho, hb1, rfl⟩; obtain ⟨ka, kc, hkv, -, -⟩ := ho.slice; subst hkv; have HO := Lib.hid ho; have HB1 := Lib.hid hb1; clear ho hb1)
        go_roundw
        case rel =>
          have hbs := HBW.out.size
          have had := HAD.out
          have hz9 : w.heap.size + 9 ≤ wr.heap.size := by have := box_lt WSH.out.b8; omega
          exact ⟨3, by go_num, .inr (.inr (.inr (.inl ⟨rfl, ka, kc, (WSH.out.below HB1.out).set5 HNN.out _, (HBW.out.trans (HB1.out.mono hbs)).setCell (p := ⟨B5, 0, none⟩) (by show w.heap.size ≤ B5; omega) _, (HTW.out.below HB1.out).setBox (WSH.out.below HB1.out).b5 (by decide) (by have := HBT.out; omega) (by omega) (by omega) _, HCK.out, HMR.out, HVR.out, HBR.out, own_set (HO.out.lower hz9) (by omega) _⟩)))⟩
        case measure => simp [intOf]
      | false =>
        have hke : keepErr r.f l = 2 := if_neg (by rw [HBR.out]; simp)
        have hkt : keptE r.f l = [] := if_neg (by rw [HBR.out]; simp)
        have HST := Lib.hid (st3_any B2 B3 B5 r la ln lc l (.slice none 0 0) wr (by omega) WSH.out.b2 WSH.out.b3 WSH.out.b5 (HL.out.below HBW.out))
        rw [hke, hkt] at HST
        clear hke hkt
        go_wp2_with (go_at_call 40; go_fit HST.out; rintro e w2 ⟨v, w1, rfl, ho, hb1, hw2⟩; have HB1 := Lib.hid hb1; have HWS2 : Hid (WS w2 w.heap.size B1 B2 B3 B4 B5 B6 B7 B8 tg n hs hl r la ln lc v (.slice none 0 0) (.slice none 0 0) (.int .i64 0) (.slice none 0 0) (.slice none 0 0)) := (by rw [hw2]; exact (WSH.out.below hb1).set5 HNN.out v); have HT2 : Hid (TabIn w2 base tg mg N n0 h0 hl0) := (by rw [hw2]; exact (HTW.out.below hb1).setBox (WSH.out.below hb1).b5 (by decide) (by have := HAD.out; have := HBT.out; omega) (by have := HAD.out; omega) (by have := HAD.out; omega) v); have HB2 : Hid (Below w.heap.size w w2) := (by rw [hw2]; exact (HBW.out.trans (hb1.mono HBW.out.size)).setCell (p := ⟨B5, 0, none⟩) (by show w.heap.size ≤ B5; have := HAD.out; omega) v); have HX4 := Lib.hid (HWS2.out.b4); obtain ⟨x0, x1, x2, x3⟩ := box4w_cells HX4.out; obtain ⟨-, y0⟩ := box_cell HX4.out 0; obtain ⟨-, y1⟩ := box_cell HX4.out 1; obtain ⟨-, y2⟩ := box_cell HX4.out 2; obtain ⟨-, y3⟩ := box_cell HX4.out 3; clear hb1 ho hw2)
        refine bodyPost_ret (mt_results_row rfl _ _ B4 _ _ _ _ rfl (mt_box4_set HX4.out _ _ _ _) Tryz.underlying39 rfl (by kernel_rfl)) rfl ?_
        exact HEND.out w2 2 (by rw [← HXE.out, trT_right HCK.out HMR.out HVR.out HBR.out]) (HT2.out.upto (by omega)) (Chg.of_below HB2.out _ _) B4 (by have := HAD.out; omega) HX4.out
    · obtain ⟨ka, kc, ws, hbw, htw, hck, hmr, hvr, hri, hok⟩ := P
      have WSH := Lib.hid ws
      have HBW := Lib.hid hbw
      have HTW := Lib.hid htw
      have HCK := Lib.hid hck
      have HMR := Lib.hid hmr
      have HVR := Lib.hid hvr
      have HRI := Lib.hid hri
      have HOK := Lib.hid hok
      have f0 : wr.cell? ⟨B8, 3, none⟩ = some (.func (.func 41) #[] #[.pointer (some ⟨B1, 0, none⟩), .pointer (some ⟨B2, 0, none⟩), .pointer (some ⟨B5, 0, none⟩), .pointer (some ⟨B6, 0, none⟩)]) := (box_cell ws.b8 3).1
      clear ws hbw htw hck hmr hvr hri hok
      have HST := Lib.hid (st4_any B1 B2 B5 B6 n hs hl r ka K.length kc K (.slice none 0 0) wr hm (by omega) WSH.out.b1 (HNT.out.below HBW.out) WSH.out.b2 WSH.out.b5 WSH.out.b6 (own_sl HOK.out))
      obtain ⟨ae, hae⟩ : ∃ ae, allErr n r.x K = ae := ⟨_, rfl⟩
      rw [hae] at HST
      have HAE := Lib.hid hae
      clear hae
      by_cases h0 : ae = 0
      · subst h0
        have hrg : rowsG n r.x K = K.map (rowE n r.x) := if_pos HAE.out
        rw [hrg] at HST
        clear hrg
        go_wp2_with (go_at_call 41; go_fit HST.out; rintro e w2 ⟨v, hh, w1, rfl, ho, hb1, rfl⟩; have HO := Lib.hid ho; have HB1 := Lib.hid hb1; clear ho hb1)
        go_roundw
        case rel =>
          have hbs := HBW.out.size
          have had := HAD.out
          have hz9 : w.heap.size + 9 ≤ wr.heap.size := by have := box_lt WSH.out.b8; omega
          obtain ⟨hp, hv, hpt⟩ := pts_own (OwnG.set HO.out (A := B6) (i := 0) (by omega) v)
          have hpt : PtsIn (w1.setCell ⟨B6, 0, none⟩ v) hp.a hp.n hp.cap G := by rw [← HGE.out]; exact hpt
          have hws : WS (w1.setCell ⟨B6, 0, none⟩ v) w.heap.size B1 B2 B3 B4 B5 B6 B7 B8 tg n hs hl r la ln lc (.slice ka K.length kc) (.slice hp.a hp.n hp.cap) (.slice none 0 0) (.int .i64 0) (.slice none 0 0) (.slice none 0 0) := by
            have h6 := (WSH.out.below HB1.out).set6 HNN.out v
            rw [hv] at h6 ⊢
            exact h6
          exact ⟨4, by go_num, .inr (.inr (.inr (.inr (.inl ⟨rfl, ka, kc, hp.a, hp.n, hp.cap, hws, (HBW.out.trans (HB1.out.mono hbs)).setCell (p := ⟨B6, 0, none⟩) (by show w.heap.size ≤ B6; omega) _, (HTW.out.below HB1.out).setBox (WSH.out.below HB1.out).b6 (by decide) (by have := HBT.out; omega) (by omega) (by omega) _, HCK.out, HMR.out, HVR.out, HRI.out, own_set (HOK.out.below HB1.out) (by omega) _, HAE.out, hpt⟩))))⟩
        case measure => simp [intOf]
      · have h0b : (ae != 0) = true := by simpa using h0
        have HC0 := Lib.hid h0
        clear h0
        go_wp2_with (go_at_call 41; go_fit HST.out; rintro e w2 ⟨v, hh, w1, rfl, ho, hb1, hw2⟩; have HWS2 : Hid (WS w2 w.heap.size B1 B2 B3 B4 B5 B6 B7 B8 tg n hs hl r la ln lc (.slice ka K.length kc) v (.slice none 0 0) (.int .i64 0) (.slice none 0 0) (.slice none 0 0)) := (by rw [hw2]; exact (WSH.out.below hb1).set6 HNN.out v); have HT2 : Hid (TabIn w2 base tg mg N n0 h0 hl0) := (by rw [hw2]; exact (HTW.out.below hb1).setBox (WSH.out.below hb1).b6 (by decide) (by have := HAD.out; have := HBT.out; omega) (by have := HAD.out; omega) (by have := HAD.out; omega) v); have HB2 : Hid (Below w.heap.size w w2) := (by rw [hw2]; exact (HBW.out.trans (hb1.mono HBW.out.size)).setCell (p := ⟨B6, 0, none⟩) (by show w.heap.size ≤ B6; have := HAD.out; omega) v); have HX4 := Lib.hid (HWS2.out.b4); obtain ⟨x0, x1, x2, x3⟩ := box4w_cells HX4.out; obtain ⟨-, y0⟩ := box_cell HX4.out 0; obtain ⟨-, y1⟩ := box_cell HX4.out 1; obtain ⟨-, y2⟩ := box_cell HX4.out 2; obtain ⟨-, y3⟩ := box_cell HX4.out 3; clear hb1 ho hw2)
        refine bodyPost_ret (mt_results_row rfl _ _ B4 _ _ _ _ rfl (mt_box4_set HX4.out _ _ _ _) Tryz.underlying39 rfl (by kernel_rfl)) rfl ?_
        exact HEND.out w2 ae (by rw [← HXE.out, trT_all HCK.out HMR.out HVR.out HRI.out (by rw [HKE.out, HAE.out]; exact HC0.out), HKE.out, HAE.out]) (HT2.out.upto (by omega)) (Chg.of_below HB2.out _ _) B4 (by have := HAD.out; omega) HX4.out
    · obtain ⟨ka, kc, ga, gn, gc, ws, hbw, htw, hck, hmr, hvr, hri, hok, hae, hpt⟩ := P
      have WSH := Lib.hid ws
      have HBW := Lib.hid hbw
      have HTW := Lib.hid htw
      have HCK := Lib.hid hck
      have HMR := Lib.hid hmr
      have HVR := Lib.hid hvr
      have HRI := Lib.hid hri
      have HOK := Lib.hid hok
      have HAE := Lib.hid hae
      have HPT := Lib.hid hpt
      have f0 : wr.cell? ⟨B8, 4, none⟩ = some (.func (.func 42) #[] #[.pointer (some ⟨w.heap.size, 0, none⟩), .pointer (some ⟨B2, 0, none⟩), .pointer (some ⟨B6, 0, none⟩), .pointer (some ⟨B7, 0, none⟩)]) := (box_cell ws.b8 4).1
      clear ws hbw htw hck hmr hvr hri hok hae hpt
      have hvm : vmayE r.x G = 0 := by
        rw [← HGE.out]
        rcases rows_may HAE.out with h | h
        · exact h
        · omega
      have HVM := Lib.hid hvm
      clear hvm
      obtain ⟨en, eh, el⟩ := HSM.out HVR.out
      have HEN := Lib.hid en
      have HEH := Lib.hid eh
      have HEL := Lib.hid el
      clear en eh el
      have hgl : G.length ≤ 60 := by rw [← HGE.out, rowsE_len]; exact hkl
      have HST := Lib.hid (st5_any w.heap.size B2 B6 B7 base tg mg n hs hl r ⟨ga, gn, gc⟩ G (.slice none 0 0) (.int .i64 0) (.slice none 0 0) (.slice none 0 0) N wr (hN HVR.out) hgl hm hne HCK.out WSH.out.b0 WSH.out.b2 WSH.out.b6 WSH.out.b7 (by have h := HTW.out; rw [HEN.out, HEH.out, HEL.out] at h; exact h) HPT.out HVM.out (by have := HAD.out; omega))
      rw [HCE.out] at HST
      have HBK : Hid (∀ W, TabIn W base tg mg (N + 20000) n hs hl → TabIn W base tg mg (N + 20000) n0 h0 hl0) := fun W h => by rw [HEN.out, HEH.out, HEL.out]; exact h
      obtain ⟨O, hO⟩ : ∃ O, goE (stepE n hs.n r.x) G none = O := ⟨_, rfl⟩
      rw [hO] at HST
      have HGO := Lib.hid hO
      clear hO
      cases O with
      | none =>
        go_wp2_with (go_at_call 42; go_fit HST.out; rintro e w2 ⟨v, c, w1, ht1, hc1, hw2, ⟨-, rfl⟩ | ⟨ss, hss, -⟩⟩; rotate_left; exact absurd hss (by simp); have had := HAD.out; have hbt := HBT.out; have hws1 := WSH.out.chg HNN.out hc1 hmg; have hws2 := (hws1.set70 HNN.out v).set71 HNN.out (.int .i64 c); have HWS2 : Hid (WS w2 w.heap.size B1 B2 B3 B4 B5 B6 B7 B8 tg n hs hl r la ln lc (.slice ka K.length kc) (.slice ga gn gc) v (.int .i64 c) (.slice none 0 0) (.slice none 0 0)) := (by rw [hw2]; exact hws2); have HT2 : Hid (TabIn w2 base tg mg (N + 20000) n0 h0 hl0) := (by rw [hw2]; exact ((HBK.out _ ht1).setBox hws1.b7 (by decide) (by omega) (by omega) (by omega) v).setBox (hws1.set70 HNN.out v).b7 (by decide) (by omega) (by omega) (by omega) _); have HC2 : Hid (Chg w w2 mg none) := (by rw [hw2]; exact chg_below ((Chg.of_below HBW.out mg none).trans hc1 (.inl rfl)) (((Below.refl w.heap.size w1).setCell (p := ⟨B7, 0, none⟩) (by show w.heap.size ≤ B7; omega) v).setCell (p := ⟨B7, 1, none⟩) (by show w.heap.size ≤ B7; omega) _)); have HX4 := Lib.hid (HWS2.out.b4); obtain ⟨x0, x1, x2, x3⟩ := box4w_cells HX4.out; obtain ⟨-, y0⟩ := box_cell HX4.out 0; obtain ⟨-, y1⟩ := box_cell HX4.out 1; obtain ⟨-, y2⟩ := box_cell HX4.out 2; obtain ⟨-, y3⟩ := box_cell HX4.out 3; clear ht1 hc1 hw2 hws1 hws2 had hbt)
        refine bodyPost_ret (mt_results_row rfl _ _ B4 _ _ _ _ rfl (mt_box4_set HX4.out _ _ _ _) Tryz.underlying39 rfl (by kernel_rfl)) rfl ?_
        exact HEND.out w2 31 (by rw [← HXE.out, trT_none HCK.out HMR.out HVR.out HRI.out (by rw [HKE.out]; exact HAE.out) (by rw [HKE.out, HGE.out]; exact HGO.out)]) HT2.out HC2.out B4 (by have := HAD.out; omega) HX4.out
      | some ss =>
        have hbi := best_in (n := n) (k := hs.n) (x := r.x) (l := K) (ss := ss) (by rw [HGE.out]; exact HVM.out) (by have := HNL.out; omega) (by rw [HGE.out]; exact HGO.out)
        have HBI := Lib.hid hbi
        clear hbi
        go_wp2_with (go_at_call 42; go_fit HST.out; rintro e w2 ⟨v, c, w1, ht1, hc1, hw2, ⟨hss, -⟩ | ⟨ss', hss, rfl, ho, hcc⟩⟩; exact absurd hss (by simp); cases hss; subst hcc; obtain ⟨sa, sc, hsv, -, -⟩ := ho.slice; rw [HBI.out.1] at hsv; subst hsv; have HO := Lib.hid ho; have HT1 := Lib.hid ht1; have HC1 := Lib.hid hc1; have HW2 := Lib.hid hw2; clear ho ht1 hc1 hw2)
        go_roundw
        case rel =>
          have hw2 := HW2.out
          subst hw2
          have hbs := HBW.out.size
          have had := HAD.out
          have hbt := HBT.out
          have hz9 : w.heap.size + 9 ≤ wr.heap.size := by have := box_lt WSH.out.b8; omega
          have hws1 := WSH.out.chg HNN.out HC1.out hmg
          exact ⟨5, by go_num, .inr (.inr (.inr (.inr (.inr (.inl ⟨rfl, ka, kc, _, sa, sc, ss, (hws1.set70 HNN.out _).set71 HNN.out _, ⟨((HBK.out _ HT1.out).setBox hws1.b7 (by decide) (by omega) (by omega) (by omega) _).setBox (hws1.set70 HNN.out _).b7 (by decide) (by omega) (by omega) (by omega) _, chg_below ((Chg.of_below HBW.out mg none).trans HC1.out (.inl rfl)) (((Below.refl w.heap.size w1).setCell (p := ⟨B7, 0, none⟩) (by show w.heap.size ≤ B7; omega) _).setCell (p := ⟨B7, 1, none⟩) (by show w.heap.size ≤ B7; omega) _)⟩, HCK.out, HMR.out, HVR.out, HRI.out, own_set (own_set (own_chg HOK.out HC1.out (by omega)) (by omega) _) (by omega) _, HAE.out, HGO.out, own_set (own_set (HO.out.lower hz9) (by omega) _) (by omega) _⟩)))))⟩
        case measure => simp [intOf]
    · obtain ⟨ka, kc, gv, sa, sc, ss, ws, ⟨htw, hcw⟩, hck, hmr, hvr, hri, hok, hae, hgo, hos⟩ := P
      have WSH := Lib.hid ws
      have HCW := Lib.hid hcw
      have HTW := Lib.hid htw
      have HCK := Lib.hid hck
      have HMR := Lib.hid hmr
      have HVR := Lib.hid hvr
      have HRI := Lib.hid hri
      have HOK := Lib.hid hok
      have HAE := Lib.hid hae
      have HGO := Lib.hid hgo
      have HOS := Lib.hid hos
      have f0 : wr.cell? ⟨B8, 5, none⟩ = some (.func (.func 44) #[] #[.pointer (some ⟨B7, 0, none⟩), .pointer (some ⟨B5, 0, none⟩)]) := (box_cell ws.b8 5).1
      clear ws hcw htw hck hmr hvr hri hok hae hgo hos
      have hvm : vmayE r.x G = 0 := by
        rw [← HGE.out]
        rcases rows_may HAE.out with h | h
        · exact h
        · omega
      have hbi := best_in (n := n) (k := hs.n) (x := r.x) (l := K) (ss := ss) (by rw [HGE.out]; exact hvm) (by have := HNL.out; omega) (by rw [HGE.out]; exact HGO.out)
      have HST := Lib.hid (st6_any B7 B5 sa K.length sc ss ka kc K (.int .i64 C) (.slice none 0 0) (.slice none 0 0) wr (by omega) WSH.out.b7 WSH.out.b5 (own_sl HOS.out) (own_sl HOK.out) hbi.2.1 (by rw [← HKE.out]; exact keepE_right HRI.out))
      clear hvm hbi
      go_wp2_with (go_at_call 44; go_fit HST.out; rintro e w2 ⟨v, w1, rfl, ho, hb1, hw2⟩; obtain ⟨ra, rc, hrv, -, -⟩ := ho.slice; subst hrv; have HO := Lib.hid ho; have HB1 := Lib.hid hb1; have HW2 := Lib.hid hw2; clear ho hb1 hw2)
      go_roundw
      case rel =>
        have hw2 := HW2.out
        subst hw2
        have hbs := HCW.out.size
        have had := HAD.out
        have hbt := HBT.out
        have hz9 : w.heap.size + 9 ≤ wr.heap.size := by have := box_lt WSH.out.b8; omega
        exact ⟨6, by go_num, .inr (.inr (.inr (.inr (.inr (.inr (.inl ⟨rfl, _, gv, sa, sc, ss, ra, rc, (WSH.out.below HB1.out).set72 HNN.out _, ⟨(HTW.out.below HB1.out).setBox (WSH.out.below HB1.out).b7 (by decide) (by omega) (by omega) (by omega) _, chg_below HCW.out ((HB1.out.mono hbs).setCell (p := ⟨B7, 2, none⟩) (by show w.heap.size ≤ B7; omega) _)⟩, HCK.out, HMR.out, HVR.out, HRI.out, HAE.out, HGO.out, own_set (HOS.out.below HB1.out) (by omega) _, own_set (HO.out.lower hz9) (by omega) _⟩))))))⟩
      case measure => simp [intOf]
    · obtain ⟨kv, gv, sa, sc, ss, ra, rc, ws, ⟨htw, hcw⟩, hck, hmr, hvr, hri, hae, hgo, hos, hor⟩ := P
      have WSH := Lib.hid ws
      have HCW := Lib.hid hcw
      have HTW := Lib.hid htw
      have HCK := Lib.hid hck
      have HMR := Lib.hid hmr
      have HVR := Lib.hid hvr
      have HRI := Lib.hid hri
      have HAE := Lib.hid hae
      have HGO := Lib.hid hgo
      have HOS := Lib.hid hos
      have HOR := Lib.hid hor
      have f0 : wr.cell? ⟨B8, 6, none⟩ = some (.func (.func 46) #[] #[.pointer (some ⟨B7, 0, none⟩), .pointer (some ⟨B2, 0, none⟩)]) := (box_cell ws.b8 6).1
      clear ws hcw htw hck hmr hvr hri hae hgo hos hor
      have hvm : vmayE r.x G = 0 := by
        rw [← HGE.out]
        rcases rows_may HAE.out with h | h
        · exact h
        · omega
      have hbi := best_in (n := n) (k := hs.n) (x := r.x) (l := K) (ss := ss) (by rw [HGE.out]; exact hvm) (by have := HNL.out; omega) (by rw [HGE.out]; exact HGO.out)
      have hrok := runsN_ok (ss := ss) (l := K) (by rw [← HKE.out]; exact keepE_right HRI.out) hbi.2.1 hbi.1 K.length (Nat.le_refl _)
      have HST := Lib.hid (st7_any B7 B2 r ra (runsE ss K).length rc (runsE ss K) (.slice sa K.length sc) (.int .i64 C) (.slice none 0 0) wr (by have h : (runsE ss K).length ≤ K.length := hrok.2.2; omega) WSH.out.b7 WSH.out.b2 (own_sl HOR.out) hrok.1 (mayR_in HMR.out).2.2)
      clear hvm hbi hrok
      go_wp2_with (go_at_call 46; go_fit HST.out; rintro e w2 ⟨v, w1, rfl, ho, hb1, hw2⟩; obtain ⟨ga, gc, hgv, -, -⟩ := ho.slice; subst hgv; have HO := Lib.hid ho; have HB1 := Lib.hid hb1; have HW2 := Lib.hid hw2; clear ho hb1 hw2)
      go_roundw
      case rel =>
        have hw2 := HW2.out
        subst hw2
        have hbs := HCW.out.size
        have had := HAD.out
        have hbt := HBT.out
        have hz9 : w.heap.size + 9 ≤ wr.heap.size := by have := box_lt WSH.out.b8; omega
        exact ⟨7, by go_num, .inr (.inr (.inr (.inr (.inr (.inr (.inr ⟨rfl, kv, gv, sa, sc, ss, ra, rc, ga, gc, (WSH.out.below HB1.out).set73 HNN.out _, ⟨(HTW.out.below HB1.out).setBox (WSH.out.below HB1.out).b7 (by decide) (by omega) (by omega) (by omega) _, chg_below HCW.out ((HB1.out.mono hbs).setCell (p := ⟨B7, 3, none⟩) (by show w.heap.size ≤ B7; omega) _)⟩, HCK.out, HMR.out, HVR.out, HRI.out, HAE.out, HGO.out, own_set (HOS.out.below HB1.out) (by omega) _, own_set (HOR.out.below HB1.out) (by omega) _, own_set (HO.out.lower hz9) (by omega) _⟩))))))⟩
      case measure => simp [intOf]
    · obtain ⟨kv, gv, sa, sc, ss, ra, rc, ga, gc, ws, ⟨htw, hcw⟩, hck, hmr, hvr, hri, hae, hgo, hos, hor, hol⟩ := P
      have WSH := Lib.hid ws
      have HCW := Lib.hid hcw
      have HTW := Lib.hid htw
      have HOS := Lib.hid hos
      have HOR := Lib.hid hor
      have HOL := Lib.hid hol
      have hts := trT_some (n0 := n0) (k := hs.n) hck hmr hvr hri (by rw [HKE.out]; exact hae) (by rw [HKE.out, HGE.out]; exact hgo)
      rw [HKE.out, HGE.out, HCE.out, HXE.out] at hts
      have HTS := Lib.hid hts
      have hsl : ss.length = K.length := by
        obtain ⟨a', c', e1, -, -⟩ := hos.slice
        injection e1 with _ h _
        exact h.symm
      have HSL := Lib.hid hsl
      obtain ⟨z0, z1, z2, z3⟩ := box4w_cells ws.b7
      have HX4 := Lib.hid ws.b4
      obtain ⟨x0, x1, x2, x3⟩ := box4w_cells HX4.out
      obtain ⟨-, y0⟩ := box_cell HX4.out 0
      obtain ⟨-, y1⟩ := box_cell HX4.out 1
      obtain ⟨-, y2⟩ := box_cell HX4.out 2
      obtain ⟨-, y3⟩ := box_cell HX4.out 3
      clear ws hcw htw hck hmr hvr hri hae hgo hos hor hol hts hsl
      go_wp2_with fail
      refine bodyPost_ret (mt_results_row rfl _ _ B4 _ _ _ _ rfl (mt_box4_set HX4.out _ _ _ _) Tryz.underlying39 rfl (by kernel_rfl)) rfl ?_
      have had := HAD.out
      have hbt := HBT.out
      have hB : w.heap.size ≤ B4 := by omega
      rw [HTS.out]
      have k0 := heap_setCell_same wr B4 0 _ _ (.slice sa K.length sc) HX4.out
      have k1 := heap_setCell_same _ B4 1 _ _ (.int .i64 C) k0
      have k2 := heap_setCell_same _ B4 2 _ _ (.slice ra (runsE ss K).length rc) k1
      refine ⟨⟨sa, K.length, sc⟩, ⟨ra, (runsE ss K).length, rc⟩, ⟨ga, (legsE (runsE ss K) r.stay).length, gc⟩, rfl, ?_, ?_, ?_⟩
      · exact WayOwn.lower (B := w.heap.size + 9) ⟨own_set (own_set (own_set (own_set HOS.out (by omega) _) (by omega) _) (by omega) _) (by omega) _, own_set (own_set (own_set (own_set HOR.out (by omega) _) (by omega) _) (by omega) _) (by omega) _, own_set (own_set (own_set (own_set HOL.out (by omega) _) (by omega) _) (by omega) _) (by omega) _⟩ (by omega)
      · exact (((HTW.out.setBox HX4.out (by decide) (by omega) (by omega) (by omega) _).setBox k0 (by decide) (by omega) (by omega) (by omega) _).setBox k1 (by decide) (by omega) (by omega) (by omega) _).setBox k2 (by decide) (by omega) (by omega) (by omega) _
      · exact chg_below HCW.out (((((Below.refl w.heap.size wr).setCell (p := ⟨B4, 0, none⟩) hB _).setCell (p := ⟨B4, 1, none⟩) hB _).setCell (p := ⟨B4, 2, none⟩) hB _).setCell (p := ⟨B4, 3, none⟩) hB _)
end Go.Proofs.YtlfbbahihenilaaGreat.Ne
