/- The library's stable sort at a struct of k cells: what each of its functions makes of the row. -/
import Derived.Test.YtgfakkkiejeofaaRows
import Derived.Test.YtgfakkkiejeofaaPlainSort
import Derived.Shelf.SlSortCmp.KitK
import Derived.Outline
import Derived.Lib.Hide
import Derived.Sort.WalkB2
import Derived.Sort.WalkB12
import Derived.Deep.LoopGhost
namespace Go.Proofs.Ytgfakkkiejeofaa.Link
open Go.Shelf Go.RowKit Go.Lib Go.Sort Go.V
variable {P : Program} {α : Type} [Inhabited α]

/-- What the types of the sort's functions are. -/
structure Sty (P : Program) (k : Nat) : Prop where
  mixed : P.follows .mixedOrders = true
  t0 : P.underlying 0 = some (TypeDesc.tuple #[])
  a0 : ∀ w, (isAgg 0).run P w = .ok false w
  z0 : ∀ w, (Go.sizeOf 0).run P w = .ok 1 w
  v0 : ∀ w, (zeroValue 0).run P w = .ok (Value.tuple #[]) w
  t3 : P.underlying 3 = some (TypeDesc.int IntKind.i64)
  a3 : ∀ w, (isAgg 3).run P w = .ok false w
  z3 : ∀ w, (Go.sizeOf 3).run P w = .ok 1 w
  v3 : ∀ w, (zeroValue 3).run P w = .ok (Value.int IntKind.i64 0) w
  t4 : P.underlying 4 = some (TypeDesc.bool)
  a4 : ∀ w, (isAgg 4).run P w = .ok false w
  z4 : ∀ w, (Go.sizeOf 4).run P w = .ok 1 w
  v4 : ∀ w, (zeroValue 4).run P w = .ok (Value.bool false) w
  tu : P.underlying 83 = some (TypeDesc.int IntKind.u64)
  au : ∀ w, (isAgg 83).run P w = .ok false w
  zu : ∀ w, (Go.sizeOf 83).run P w = .ok 1 w
  vu : ∀ w, (zeroValue 83).run P w = .ok (Value.int IntKind.u64 0) w
  tS : P.underlying 23 = some (TypeDesc.slice 55)
  aS : ∀ w, (isAgg 23).run P w = .ok false w
  zS : ∀ w, (Go.sizeOf 23).run P w = .ok 1 w
  vS : ∀ w, (zeroValue 23).run P w = .ok (Value.slice none 0 0) w
  tF : P.underlying 107 = some (TypeDesc.func #[55, 55] #[3] false)
  aF : ∀ w, (isAgg 107).run P w = .ok false w
  zF : ∀ w, (Go.sizeOf 107).run P w = .ok 1 w
  vF : ∀ w, (zeroValue 107).run P w = .ok (Value.nilFunc) w
  aE : ∀ w, (isAgg 55).run P w = .ok true w
  zE : ∀ w, (Go.sizeOf 55).run P w = .ok k w

set_option maxHeartbeats 1000000 in
set_option maxRecDepth 100000 in
theorem swapRange_any {k : Nat} (L : Sty P k) (F : P.funcs[87]? = some Try.f87) (enc : α → List Value) (fv : Value) (blk off cap a b n : Nat) (d0 d : Array α) (w0 w : World)
    (R : RowK enc k w0 blk off d0) (hs : d0.size = d.size) (S : SWK enc k w0 blk off d w) (ha : a + n ≤ d.size) (hb : b + n ≤ d.size) (hsz : d.size < 4611686018427387904) :
    Calls P 87 #[.slice (some ⟨blk, off, none⟩) d.size cap, .int .i64 a, .int .i64 b, .int .i64 n, fv] w fun e w' => e = .returned (.tuple #[]) ∧ SWK enc k w0 blk off (swapR d a b n) w' := by
  have mixed := L.mixed; have t3 := L.t3; have a3 := L.a3; have z3 := L.z3; have v3 := L.v3; have t4 := L.t4; have a4 := L.a4; have z4 := L.z4; have v4 := L.v4; have tS := L.tS; have aS := L.aS; have zS := L.zS; have vS := L.vS; have tF := L.tF; have aF := L.aF; have zF := L.zF; have vF := L.vF; have aE := L.aE; have zE := L.zE
  have S0 : Aside (SWK enc k w0 blk off d w) := S
  clear S
  go_enter F, Try.ntmps87
  go_wp2
  go_loopg [10] n (fun kx s10 wr => ∃ (i : Nat) (dk : Array α), s10 = .int .i64 i ∧ i ≤ n ∧ n - i ≤ kx ∧ dk.size = d.size ∧ Aside (SWK enc k w0 blk off dk wr) ∧ Hid (dk = swapR d a b i))
  case atStart => exact ⟨0, d, rfl, by omega, by omega, rfl, S0, rfl⟩
  case round =>
    clear S0
    obtain ⟨i, dk, rfl, hin, hkx, hds, S1, heq⟩ := hrel
    by_cases hlt : (i : Int) < n
    · go_wp2_with fail
      have e1 : ((a : Int) + i).toNat = a + i := by omega
      have p1 : (0 : Int) ≤ (a : Int) + i := by omega
      have b1 : (a : Int) + i < (d.size : Int) := by omega
      have r1 : IntKind.i64.wrap ((a : Int) + i) = (a : Int) + i := by rw [IntKind.wrap_i64]; omega
      have e2 : ((b : Int) + i).toNat = b + i := by omega
      have p2 : (0 : Int) ≤ (b : Int) + i := by omega
      have b2 : (b : Int) + i < (d.size : Int) := by omega
      have r2 : IntKind.i64.wrap ((b : Int) + i) = (b : Int) + i := by rw [IntKind.wrap_i64]; omega
      have S2 : Aside (SWK enc k w0 blk off (swp dk (a + i) (b + i)) ((wr.drew.setCells blk (off + (a + i) * k) (enc dk[b + i]!)).setCells blk (off + (b + i) * k) (enc dk[a + i]!))) := S1.out.swapped R (a + i) (b + i) (by omega) (by omega)
      have l1 := S1.out.ld1 R (by omega) P (a + i) (by omega)
      have l2 := S1.out.ld1 R (by omega) P (b + i) (by omega)
      have s1 := S1.out.st1 R (by omega) P (a + i) (by omega) dk[b + i]!
      have s2 := S1.out.st2 R (by omega) P (a + i) (b + i) (by omega) (by omega) dk[b + i]! dk[a + i]!
      have n1 : (enc dk[a + i]!).length = k := R.hk _
      have n2 : (enc dk[b + i]!).length = k := R.hk _
      generalize enc dk[a + i]! = c1 at S2 l1 s2 n1
      generalize enc dk[b + i]! = c2 at S2 l2 s1 s2 n2
      clear S1
      go_wp2_with fail
      go_big_region_o
      clear l1 l2 s1 s2
      generalize (wr.drew.setCells blk (off + (a + i) * k) c2).setCells blk (off + (b + i) * k) c1 = w2 at S2 ⊢
      go_wp2
      go_roundg (n - (i + 1))
      case measure => omega
      case rel => exact ⟨i + 1, swp dk (a + i) (b + i), by simp, by omega, Nat.le_refl _, by rw [size_swp]; exact hds, S2, by show _ = _; rw [heq.out]; rfl⟩
    · go_wp2
      go_end0
      have hi : i = n := by omega
      exact ⟨rfl, by have h := S1.out; rw [heq.out, hi] at h; exact h⟩

/-- WHAT IS ASKED OF 'cmp': in every world that the sort passes through it hands back 'cf x y'; it may draw, it may lay blocks of its own. -/
def CmpL (P : Program) (g : Nat) (fst cb : Array Value) (enc : α → List Value) (k : Nat) (cf : α → α → Int) (blk off size : Nat) (w : World) : Prop :=
  ∀ (m : Nat) (os : Array Obj) (dk : Array α), dk.size = size → ∀ x y : α,
    Calls P g (fst ++ (#[.agg (enc x).toArray, .agg (enc y).toArray] ++ cb)) (sortWorldK enc k w blk off m dk os) fun e w' => e = .returned (.int .i64 (cf x y)) ∧ ∃ q os', w' = grow ((sortWorldK enc k w blk off m dk os).drewN q) os'

theorem cmp_at {g : Nat} {fst cb : Array Value} {enc : α → List Value} {k : Nat} {cf : α → α → Int} {blk off size : Nat} {w0 W : World} {dk : Array α} (h : SWK enc k w0 blk off dk W) (hC : CmpL P g fst cb enc k cf blk off size w0) (hs : dk.size = size) (x y : α) (n : Nat) (os : Array Obj) :
    Calls P g (fst ++ (#[.agg (enc x).toArray, .agg (enc y).toArray] ++ cb)) (grow (W.drewN n) os) fun e w' => e = .returned (.int .i64 (cf x y)) ∧ ∃ q os', w' = grow ((grow (W.drewN n) os).drewN q) os' := by
  obtain ⟨m, os0, hw⟩ := h.grown n os
  rw [hw]
  exact hC m os0 dk hs x y

theorem bs_in (p : Nat → Bool) : ∀ (f i j : Nat), i ≤ j → i ≤ bs p f i j ∧ bs p f i j ≤ j
  | 0, i, j, h => by simp only [bs]; omega
  | f + 1, i, j, h => by
    unfold bs; split
    · split
      · have := bs_in p f ((i + j) / 2 + 1) j (by omega); omega
      · have := bs_in p f i ((i + j) / 2) (by omega); omega
    · omega

theorem bs_step {p : Nat → Bool} {f i j r : Nat} (h : i < j) (he : bs p (f + 1) i j = r) : (p ((i + j) / 2) = true → bs p f ((i + j) / 2 + 1) j = r) ∧ (p ((i + j) / 2) = false → bs p f i ((i + j) / 2) = r) := by
  rw [bs, if_pos h] at he
  exact ⟨fun hp => by rwa [if_pos hp] at he, fun hp => by rwa [if_neg (by simp [hp])] at he⟩

set_option maxHeartbeats 1000000 in
set_option maxRecDepth 100000 in
theorem symMerge_one {k : Nat} (L : Sty P k) (F : P.funcs[84]? = some Try.f84) (enc : α → List Value) (g : Nat) (fst cb : Array Value) (cf : α → α → Int) (blk off cap a m b sz : Nat) (d0 d : Array α) (w0 w : World)
    (eg : ∀ args w, (callFunc g args).run P w = .ok (.enter g args) w) (C : CmpL P g fst cb enc k cf blk off sz w0)
    (R : RowK enc k w0 blk off d0) (hs0 : d0.size = sz) (hs : d.size = sz) (S : SWK enc k w0 blk off d w) (e1 : m - a = 1) (h2 : m < b) (hb : b ≤ sz) (hsz : sz < 4611686018427387904) :
    Calls P 84 #[.slice (some ⟨blk, off, none⟩) sz cap, .int .i64 a, .int .i64 m, .int .i64 b, .func (.func g) fst cb] w fun e w' => e = .returned (.tuple #[]) ∧ SWK enc k w0 blk off (upR d a (bs (fun x => ltOf cf d[x]! d[a]!) (b - m) m b - 1 - a)) w' := by
  have mixed := L.mixed; have t3 := L.t3; have a3 := L.a3; have z3 := L.z3; have v3 := L.v3; have t4 := L.t4; have a4 := L.a4; have z4 := L.z4; have v4 := L.v4; have tS := L.tS; have aS := L.aS; have zS := L.zS; have vS := L.vS; have tF := L.tF; have aF := L.aF; have zF := L.zF; have vF := L.vF; have aE := L.aE; have zE := L.zE
  have tu := L.tu; have au := L.au; have zu := L.zu; have vu := L.vu
  have S0 : Aside (SWK enc k w0 blk off d w) := S
  have HC : Aside _ := C
  have HS0 : Hid _ := hs0
  have HS : Hid _ := hs
  have hd : b ≤ d.size := by omega
  clear S C hs0 hs
  obtain rfl : m = a + 1 := by omega
  have e1' : (((a : Int) + 1 - a) == 1) = true := by simp; omega
  have e1'' : ((((a + 1 : Nat) : Int) - a) == 1) = true := by simp; omega
  clear e1
  obtain ⟨r, hr⟩ : ∃ r, bs (fun x => ltOf cf d[x]! d[a]!) (b - (a + 1)) (a + 1) b = r := ⟨_, rfl⟩
  have hrb : a + 1 ≤ r ∧ r ≤ b := by rw [← hr]; exact bs_in _ _ _ _ (by omega)
  rw [hr]
  have HR := Lib.hid hr; clear hr
  obtain ⟨hr1, hr2⟩ := hrb
  go_enter F, Try.ntmps84
  go_wp2
  go_loopg [10, 11] (b - (a + 1)) (fun kx s10 s11 wr => ∃ (i j f : Nat), s10 = .int .i64 i ∧ s11 = .int .i64 j ∧ a + 1 ≤ i ∧ i ≤ b ∧ j ≤ b ∧ j - i ≤ f ∧ f ≤ kx ∧ Aside (SWK enc k w0 blk off d wr) ∧ Hid (bs (fun x => ltOf cf d[x]! d[a]!) f i j = r))
  case atStart => exact ⟨a + 1, b, b - (a + 1), rfl, rfl, by omega, by omega, by omega, by omega, by omega, S0, HR⟩
  case round =>
    clear S0 HR
    obtain ⟨i, j, f, rfl, rfl, hai, hib, hjb, hji, hkx, S1, heq⟩ := hrel
    by_cases hlt : (i : Int) < j
    · obtain ⟨f, rfl⟩ : ∃ f', f = f' + 1 := ⟨f - 1, by omega⟩
      go_wp2_with fail
      have hds0 : d.size = d0.size := by rw [HS.out, HS0.out]
      have e1 : (((i : Int) + j) / 2).toNat = (i + j) / 2 := by omega
      have p1 : (0 : Int) ≤ ((i : Int) + j) / 2 := by omega
      have b1 : ((i : Int) + j) / 2 < (sz : Int) := by omega
      have r1 : IntKind.i64.wrap (((i : Int) + j) / 2) = ((i : Int) + j) / 2 := by rw [IntKind.wrap_i64]; omega
      have b2 : (a : Int) < (sz : Int) := by omega
      obtain ⟨xh, hxh⟩ : ∃ x, d[(i + j) / 2]! = x := ⟨_, rfl⟩
      obtain ⟨xa, hxa⟩ : ∃ x, d[a]! = x := ⟨_, rfl⟩
      have l1 : ∀ n' os', Sem.run P (loadCellsFrom ⟨blk, off + (i + j) / 2 * k, none⟩ 0 k #[]) (grow (wr.drewN n') os') = .ok (enc xh).toArray (grow (wr.drewN n') os') := fun n' os' => by rw [← hxh]; exact S1.out.ld R hds0 P _ (by omega) n' os'
      have l2 : ∀ n' os', Sem.run P (loadCellsFrom ⟨blk, off + a * k, none⟩ 0 k #[]) (grow (wr.drewN n') os') = .ok (enc xa).toArray (grow (wr.drewN n') os') := fun n' os' => by rw [← hxa]; exact S1.out.ld R hds0 P _ (by omega) n' os'
      have hcg := fun n' os' => cmp_at S1.out HC.out HS.out xh xa n' os'
      have hst := bs_step (by omega) heq.out
      have HST := Lib.hid hst; clear hst
      clear heq
      have S2 : ∀ n' os', Aside (SWK enc k w0 blk off d (grow (wr.drewN n') os')) := fun n' os' => S1.out.grown n' os'
      have SS2 : Aside _ := S2
      clear S1 S2
      by_cases hlv : cf xh xa < 0
      · have heq := Lib.hid (HST.out.1 (by show decide _ = true; rw [hxh, hxa]; exact decide_eq_true hlv)); clear HST
        have HX := Lib.hid hxh; clear hxh
        have HA := Lib.hid hxa; clear hxa
        clear hds0
        go_quiet_grown (first | (go_at_fn g; refine Calls.grown_of (hcg _ _)))
        have S3 : Aside (SWK enc k w0 blk off d (grow (wr.drewN nq) osq)) := SS2.out nq osq
        clear SS2 l1 l2 hcg
        generalize grow (wr.drewN nq) osq = w2 at S3 ⊢
        go_wp2_with fail
        go_roundg f
        case measure => omega
        case rel => exact ⟨(i + j) / 2 + 1, j, f, by go_num, rfl, by omega, by omega, by omega, by omega, Nat.le_refl _, S3, heq⟩
      · have heq := Lib.hid (HST.out.2 (by show decide _ = false; rw [hxh, hxa]; exact decide_eq_false hlv)); clear HST
        have HX := Lib.hid hxh; clear hxh
        have HA := Lib.hid hxa; clear hxa
        clear hds0
        go_quiet_grown (first | (go_at_fn g; refine Calls.grown_of (hcg _ _)))
        have S3 : Aside (SWK enc k w0 blk off d (grow (wr.drewN nq) osq)) := SS2.out nq osq
        clear SS2 l1 l2 hcg
        generalize grow (wr.drewN nq) osq = w2 at S3 ⊢
        go_wp2_with fail
        go_roundg f
        case measure => omega
        case rel => exact ⟨i, (i + j) / 2, f, rfl, by go_num, by omega, by omega, by omega, by omega, Nat.le_refl _, S3, heq⟩
    · have hi : i = r := by
        have := heq.out
        cases f with
        | zero => exact this
        | succ f => rwa [bs, if_neg (by omega)] at this
      subst hi
      clear heq
      go_wp2_with fail
      go_loopg [13] (i - 1 - a) (fun kx s13 wr => ∃ (x : Nat) (dk : Array α), s13 = .int .i64 (a + x : Nat) ∧ x ≤ i - 1 - a ∧ i - 1 - a - x ≤ kx ∧ dk.size = sz ∧ Aside (SWK enc k w0 blk off dk wr) ∧ Hid (dk = upR d a x))
      case atStart => exact ⟨0, d, rfl, by omega, by omega, HS.out, S1, rfl⟩
      case round =>
        clear S1
        obtain ⟨x, dk, rfl, hx, hkx, hds, S1, heq⟩ := hrel
        by_cases hlt : x < i - 1 - a
        · have hlt' : ((a + x : Nat) : Int) < (i : Int) - 1 := by omega
          go_wp2_with fail
          have e1 : ((a : Int) + x).toNat = a + x := by omega
          have p1 : (0 : Int) ≤ (a : Int) + x := by omega
          have b1 : (a : Int) + x < (sz : Int) := by omega
          have r1 : IntKind.i64.wrap ((a : Int) + x) = (a : Int) + x := by rw [IntKind.wrap_i64]; omega
          have e2 : ((a : Int) + x + 1).toNat = a + x + 1 := by omega
          have p2 : (0 : Int) ≤ (a : Int) + x + 1 := by omega
          have b2 : (a : Int) + x + 1 < (sz : Int) := by omega
          have r2 : IntKind.i64.wrap ((a : Int) + x + 1) = (a : Int) + x + 1 := by rw [IntKind.wrap_i64]; omega
          have hds0 : dk.size = d0.size := by rw [hds, HS0.out]
          have S2 : Aside (SWK enc k w0 blk off (swp dk (a + x) (a + x + 1)) ((wr.drew.setCells blk (off + (a + x) * k) (enc dk[a + x + 1]!)).setCells blk (off + (a + x + 1) * k) (enc dk[a + x]!))) := S1.out.swapped R (a + x) (a + x + 1) (by omega) (by omega)
          have l1 := S1.out.ld1 R hds0 P (a + x) (by omega)
          have l2 := S1.out.ld1 R hds0 P (a + x + 1) (by omega)
          have s1 := S1.out.st1 R hds0 P (a + x) (by omega) dk[a + x + 1]!
          have s2 := S1.out.st2 R hds0 P (a + x) (a + x + 1) (by omega) (by omega) dk[a + x + 1]! dk[a + x]!
          have n1 : (enc dk[a + x]!).length = k := R.hk _
          have n2 : (enc dk[a + x + 1]!).length = k := R.hk _
          generalize enc dk[a + x]! = c1 at S2 l1 s2 n1
          generalize enc dk[a + x + 1]! = c2 at S2 l2 s1 s2 n2
          have HDS := Lib.hid hds
          clear S1 hds0 hds
          go_wp2_with fail
          go_big_region_o
          clear l1 l2 s1 s2
          generalize (wr.drew.setCells blk (off + (a + x) * k) c2).setCells blk (off + (a + x + 1) * k) c1 = w2 at S2 ⊢
          go_wp2
          go_roundg (i - 1 - a - (x + 1))
          case measure => omega
          case rel => exact ⟨x + 1, swp dk (a + x) (a + x + 1), by go_num, by omega, Nat.le_refl _, by rw [size_swp]; exact HDS.out, S2, by show _ = _; rw [heq.out]; rfl⟩
        · go_wp2_with fail
          (try simp only [Exit.inBlock, Exit.then])
          refine bodyPost_ret (results_none rfl _ _ _) rfl ?_
          have hx' : x = i - 1 - a := by omega
          exact ⟨rfl, by have h := S1.out; rw [heq.out, hx'] at h; exact h⟩
set_option maxHeartbeats 1000000 in
set_option maxRecDepth 100000 in
theorem symMerge_last {k : Nat} (L : Sty P k) (F : P.funcs[84]? = some Try.f84) (enc : α → List Value) (g : Nat) (fst cb : Array Value) (cf : α → α → Int) (blk off cap a m b sz : Nat) (d0 d : Array α) (w0 w : World)
    (eg : ∀ args w, (callFunc g args).run P w = .ok (.enter g args) w) (C : CmpL P g fst cb enc k cf blk off sz w0)
    (R : RowK enc k w0 blk off d0) (hs0 : d0.size = sz) (hs : d.size = sz) (S : SWK enc k w0 blk off d w) (e0 : ¬ m - a = 1) (h1 : a < m) (e1 : b - m = 1) (hb : b ≤ sz) (hsz : sz < 4611686018427387904) :
    Calls P 84 #[.slice (some ⟨blk, off, none⟩) sz cap, .int .i64 a, .int .i64 m, .int .i64 b, .func (.func g) fst cb] w fun e w' => e = .returned (.tuple #[]) ∧ SWK enc k w0 blk off (dnR d m (m - bs (fun x => !ltOf cf d[m]! d[x]!) (m - a) a m)) w' := by
  have mixed := L.mixed; have t3 := L.t3; have a3 := L.a3; have z3 := L.z3; have v3 := L.v3; have t4 := L.t4; have a4 := L.a4; have z4 := L.z4; have v4 := L.v4; have tS := L.tS; have aS := L.aS; have zS := L.zS; have vS := L.vS; have tF := L.tF; have aF := L.aF; have zF := L.zF; have vF := L.vF; have aE := L.aE; have zE := L.zE
  have tu := L.tu; have au := L.au; have zu := L.zu; have vu := L.vu
  have S0 : Aside (SWK enc k w0 blk off d w) := S
  have HC : Aside _ := C
  have HS0 : Hid _ := hs0
  have HS : Hid _ := hs
  have hd : b ≤ d.size := by omega
  clear S C hs0 hs
  obtain rfl : b = m + 1 := by omega
  have e0' : (((m : Int) - a) == 1) = false := by simp; omega
  have e1' : (((m : Int) + 1 - m) == 1) = true := by simp; omega
  have e1'' : ((((m + 1 : Nat) : Int) - m) == 1) = true := by simp; omega
  clear e0 e1
  obtain ⟨r, hr⟩ : ∃ r, bs (fun x => !ltOf cf d[m]! d[x]!) (m - a) a m = r := ⟨_, rfl⟩
  have hrb : a ≤ r ∧ r ≤ m := by rw [← hr]; exact bs_in _ _ _ _ (by omega)
  rw [hr]
  have HR := Lib.hid hr; clear hr
  obtain ⟨hr1, hr2⟩ := hrb
  go_enter F, Try.ntmps84
  go_wp2
  go_loopg [14, 15] (m - a) (fun kx s10 s11 wr => ∃ (i j f : Nat), s10 = .int .i64 i ∧ s11 = .int .i64 j ∧ a ≤ i ∧ i ≤ m ∧ j ≤ m ∧ j - i ≤ f ∧ f ≤ kx ∧ Aside (SWK enc k w0 blk off d wr) ∧ Hid (bs (fun x => !ltOf cf d[m]! d[x]!) f i j = r))
  case atStart => exact ⟨a, m, m - a, rfl, rfl, by omega, by omega, by omega, by omega, by omega, S0, HR⟩
  case round =>
    clear S0 HR
    obtain ⟨i, j, f, rfl, rfl, hai, hib, hjb, hji, hkx, S1, heq⟩ := hrel
    by_cases hlt : (i : Int) < j
    · obtain ⟨f, rfl⟩ : ∃ f', f = f' + 1 := ⟨f - 1, by omega⟩
      go_wp2_with fail
      have hds0 : d.size = d0.size := by rw [HS.out, HS0.out]
      have e1 : (((i : Int) + j) / 2).toNat = (i + j) / 2 := by omega
      have p1 : (0 : Int) ≤ ((i : Int) + j) / 2 := by omega
      have b1 : ((i : Int) + j) / 2 < (sz : Int) := by omega
      have r1 : IntKind.i64.wrap (((i : Int) + j) / 2) = ((i : Int) + j) / 2 := by rw [IntKind.wrap_i64]; omega
      have b2 : (m : Int) < (sz : Int) := by omega
      obtain ⟨xh, hxh⟩ : ∃ x, d[(i + j) / 2]! = x := ⟨_, rfl⟩
      obtain ⟨xa, hxa⟩ : ∃ x, d[m]! = x := ⟨_, rfl⟩
      have l1 : ∀ n' os', Sem.run P (loadCellsFrom ⟨blk, off + (i + j) / 2 * k, none⟩ 0 k #[]) (grow (wr.drewN n') os') = .ok (enc xh).toArray (grow (wr.drewN n') os') := fun n' os' => by rw [← hxh]; exact S1.out.ld R hds0 P _ (by omega) n' os'
      have l2 : ∀ n' os', Sem.run P (loadCellsFrom ⟨blk, off + m * k, none⟩ 0 k #[]) (grow (wr.drewN n') os') = .ok (enc xa).toArray (grow (wr.drewN n') os') := fun n' os' => by rw [← hxa]; exact S1.out.ld R hds0 P _ (by omega) n' os'
      have hcg := fun n' os' => cmp_at S1.out HC.out HS.out xa xh n' os'
      have hst := bs_step (by omega) heq.out
      have HST := Lib.hid hst; clear hst
      clear heq
      have S2 : ∀ n' os', Aside (SWK enc k w0 blk off d (grow (wr.drewN n') os')) := fun n' os' => S1.out.grown n' os'
      have SS2 : Aside _ := S2
      clear S1 S2
      by_cases hlv : cf xa xh < 0
      · have heq := Lib.hid (HST.out.2 (by show (!decide _) = false; rw [hxh, hxa, decide_eq_true hlv]; rfl)); clear HST
        have HX := Lib.hid hxh; clear hxh
        have HA := Lib.hid hxa; clear hxa
        clear hds0
        go_quiet_grown (first | (go_at_fn g; refine Calls.grown_of (hcg _ _)))
        have S3 : Aside (SWK enc k w0 blk off d (grow (wr.drewN nq) osq)) := SS2.out nq osq
        clear SS2 l1 l2 hcg
        generalize grow (wr.drewN nq) osq = w2 at S3 ⊢
        go_wp2_with fail
        go_roundg f
        case measure => omega
        case rel => exact ⟨i, (i + j) / 2, f, rfl, by go_num, by omega, by omega, by omega, by omega, Nat.le_refl _, S3, heq⟩
      · have heq := Lib.hid (HST.out.1 (by show (!decide _) = true; rw [hxh, hxa, decide_eq_false hlv]; rfl)); clear HST
        have HX := Lib.hid hxh; clear hxh
        have HA := Lib.hid hxa; clear hxa
        clear hds0
        go_quiet_grown (first | (go_at_fn g; refine Calls.grown_of (hcg _ _)))
        have S3 : Aside (SWK enc k w0 blk off d (grow (wr.drewN nq) osq)) := SS2.out nq osq
        clear SS2 l1 l2 hcg
        generalize grow (wr.drewN nq) osq = w2 at S3 ⊢
        go_wp2_with fail
        go_roundg f
        case measure => omega
        case rel => exact ⟨(i + j) / 2 + 1, j, f, by go_num, rfl, by omega, by omega, by omega, by omega, Nat.le_refl _, S3, heq⟩
    · have hi : i = r := by
        have := heq.out
        cases f with
        | zero => exact this
        | succ f => rwa [bs, if_neg (by omega)] at this
      subst hi
      clear heq
      go_wp2_with fail
      go_loopg [17] (m - i) (fun kx s13 wr => ∃ (x y : Nat) (dk : Array α), s13 = .int .i64 y ∧ y + x = m ∧ i ≤ y ∧ y - i ≤ kx ∧ dk.size = sz ∧ Aside (SWK enc k w0 blk off dk wr) ∧ Hid (dk = dnR d m x))
      case atStart => exact ⟨0, m, d, rfl, by omega, by omega, by omega, HS.out, S1, rfl⟩
      case round =>
        clear S1
        obtain ⟨x, y, dk, rfl, hx, hy, hkx, hds, S1, heq⟩ := hrel
        by_cases hlt : i < y
        · obtain ⟨y, rfl⟩ : ∃ y', y = y' + 1 := ⟨y - 1, by omega⟩
          have hlt' : (i : Int) < (y : Int) + 1 := by omega
          go_wp2_with fail
          have e1 : ((y : Int) + 1).toNat = y + 1 := by omega
          have p1 : (0 : Int) ≤ (y : Int) + 1 := by omega
          have b1 : (y : Int) + 1 < (sz : Int) := by omega
          have r1 : IntKind.i64.wrap ((y : Int) + 1) = (y : Int) + 1 := by rw [IntKind.wrap_i64]; omega
          have b2 : (y : Int) < (sz : Int) := by omega
          have r2 : IntKind.i64.wrap (y : Int) = (y : Int) := by rw [IntKind.wrap_i64]; omega
          have hds0 : dk.size = d0.size := by rw [hds, HS0.out]
          have S2 : Aside (SWK enc k w0 blk off (swp dk (y + 1) y) ((wr.drew.setCells blk (off + (y + 1) * k) (enc dk[y]!)).setCells blk (off + y * k) (enc dk[y + 1]!))) := S1.out.swapped R (y + 1) y (by omega) (by omega)
          have l1 := S1.out.ld1 R hds0 P (y + 1) (by omega)
          have l2 := S1.out.ld1 R hds0 P y (by omega)
          have s1 := S1.out.st1 R hds0 P (y + 1) (by omega) dk[y]!
          have s2 := S1.out.st2 R hds0 P (y + 1) y (by omega) (by omega) dk[y]! dk[y + 1]!
          have n1 : (enc dk[y + 1]!).length = k := R.hk _
          have n2 : (enc dk[y]!).length = k := R.hk _
          generalize enc dk[y + 1]! = c1 at S2 l1 s2 n1
          generalize enc dk[y]! = c2 at S2 l2 s1 s2 n2
          have HDS := Lib.hid hds
          have HXM := Lib.hid hx
          clear S1 hds0 hds hx
          go_wp2_with fail
          go_big_region_o
          clear l1 l2 s1 s2
          generalize (wr.drew.setCells blk (off + (y + 1) * k) c2).setCells blk (off + y * k) c1 = w2 at S2 ⊢
          go_wp2
          have hx := HXM.out
          go_roundg (y - i)
          case measure => omega
          case rel => exact ⟨x + 1, y, swp dk (y + 1) y, by go_num, by omega, by omega, Nat.le_refl _, by rw [size_swp]; exact HDS.out, S2, by show _ = swp (dnR d m x) (m - x) (m - x - 1); rw [heq.out, show m - x = y + 1 by omega]; rfl⟩
        · have hlt' : ¬ (i : Int) < (y : Int) := by omega
          go_wp2_with fail
          (try simp only [Exit.inBlock, Exit.then])
          refine bodyPost_ret (results_none rfl _ _ _) rfl ?_
          have hx' : x = m - i := by omega
          exact ⟨rfl, by have h := S1.out; rw [heq.out, hx'] at h; exact h⟩
end Go.Proofs.Ytgfakkkiejeofaa.Link
