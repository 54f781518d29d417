/- The library's stable sort at a struct of k cells: all of it. -/
import Derived.Test.YtgfakkkiejeofaaSt4Link
namespace Go.Proofs.Ytgfakkkiejeofaa.Link
open Go.Shelf Go.RowKit Go.Lib Go.Sort Go.V
variable {P : Program} {α : Type} [Inhabited α]

theorem stB_go {lt : α → α → Bool} {n f a : Nat} {d r : Array α} (h : a + 20 ≤ n) (he : stB lt n (f + 1) a d = r) : stB lt n f (a + 20) (insertionSort lt d a (a + 20)) = r := by
  rw [stB, if_pos h] at he; exact he
theorem stB_stop {lt : α → α → Bool} {n f a : Nat} {d r : Array α} (h : ¬ a + 20 ≤ n) (he : stB lt n f a d = r) : insertionSort lt d a n = r := by
  cases f with
  | zero => exact he
  | succ f => rw [stB, if_neg h] at he; exact he
theorem stP_go {lt : α → α → Bool} {bs n f a : Nat} {d r : Array α} (h : a + 2 * bs ≤ n) (he : stP lt bs n (f + 1) a d = r) : stP lt bs n f (a + 2 * bs) (symM lt (2 * bs) d a (a + bs) (a + 2 * bs)) = r := by
  rw [stP, if_pos h] at he; exact he
theorem stP_mid {lt : α → α → Bool} {bs n f a : Nat} {d r : Array α} (h : ¬ a + 2 * bs ≤ n) (h2 : a + bs < n) (he : stP lt bs n (f + 1) a d = r) : symM lt (n - a) d a (a + bs) n = r := by
  rw [stP, if_neg h, if_pos h2] at he; exact he
theorem stP_stop {lt : α → α → Bool} {bs n f a : Nat} {d r : Array α} (h : ¬ a + 2 * bs ≤ n) (h2 : ¬ a + bs < n) (he : stP lt bs n f a d = r) : d = r := by
  cases f with
  | zero => exact he
  | succ f => rw [stP, if_neg h, if_neg h2] at he; exact he
theorem stO_go {lt : α → α → Bool} {n f bs : Nat} {d r : Array α} (h : bs < n) (he : stO lt n (f + 1) bs d = r) : stO lt n f (2 * bs) (stP lt bs n n 0 d) = r := by
  rw [stO, if_pos h] at he; exact he
theorem stO_stop {lt : α → α → Bool} {n f bs : Nat} {d r : Array α} (h : ¬ bs < n) (he : stO lt n f bs d = r) : d = r := by
  cases f with
  | zero => exact he
  | succ f => rw [stO, if_neg h] at he; exact he

set_option maxHeartbeats 2000000 in
set_option maxRecDepth 100000 in
theorem stable_any {k : Nat} (L : Sty P k) (F : P.funcs[75]? = some Try.f75) (FI : P.funcs[83]? = some Try.f83) (FM : P.funcs[84]? = some Try.f84) (FR : P.funcs[86]? = some Try.f86) (FS : P.funcs[87]? = some Try.f87) (enc : α → List Value) (g : Nat) (fst cb : Array Value) (cf : α → α → Int) (blk off cap sz : Nat) (d : Array α) (w : World)
    (eg : ∀ args w, (callFunc g args).run P w = .ok (.enter g args) w) (ei : ∀ args w, (callFunc 83 args).run P w = .ok (.enter 83 args) w) (em : ∀ args w, (callFunc 84 args).run P w = .ok (.enter 84 args) w)
    (er : ∀ args w, (callFunc 86 args).run P w = .ok (.enter 86 args) w) (es : ∀ args w, (callFunc 87 args).run P w = .ok (.enter 87 args) w)
    (C : CmpL P g fst cb enc k cf blk off sz w)
    (R : RowK enc k w blk off d) (hs : d.size = sz) (hsz : sz < 1099511627776) :
    Calls P 75 #[.slice (some ⟨blk, off, none⟩) sz cap, .int .i64 sz, .func (.func g) fst cb] w fun e w' => e = .returned (.tuple #[]) ∧ SWK enc k w blk off (stable (ltOf cf) d sz) w' := by
  have mixed := L.mixed; have t3 := L.t3; have a3 := L.a3; have z3 := L.z3; have v3 := L.v3; have t4 := L.t4; have a4 := L.a4; have z4 := L.z4; have v4 := L.v4; have tS := L.tS; have aS := L.aS; have zS := L.zS; have vS := L.vS; have tF := L.tF; have aF := L.aF; have zF := L.zF; have vF := L.vF; have aE := L.aE; have zE := L.zE
  have S0 : Aside (SWK enc k w blk off d w) := SWK.start R.hH
  have HC : Aside _ := C
  have HS : Hid _ := hs
  have hsz' : sz < 4611686018427387904 := by omega
  obtain ⟨r1, hr1⟩ : ∃ r, stB (ltOf cf) sz sz 0 d = r := ⟨_, rfl⟩
  obtain ⟨r, hr⟩ : ∃ r, stO (ltOf cf) sz sz 20 r1 = r := ⟨_, rfl⟩
  unfold stable
  rw [hr1, hr]
  have hz1 : r1.size = sz := by rw [← hr1, stB_size, hs]
  have HR1 := Lib.hid hr1
  have HR := Lib.hid hr
  have HZ1 := Lib.hid hz1
  clear C hs hr1 hr hz1
  go_enter F, Try.ntmps75
  go_wp2_with fail
  go_loopg [7, 8] sz (fun kx s7 s8 wr => ∃ (a f : Nat) (dk : Array α), s7 = .int .i64 a ∧ s8 = .int .i64 (a + 20 : Nat) ∧ a ≤ sz ∧ sz - a ≤ f ∧ f ≤ kx ∧ dk.size = sz ∧ Aside (SWK enc k w blk off dk wr) ∧ Hid (stB (ltOf cf) sz f a dk = r1))
  case atStart => exact ⟨0, sz, d, rfl, rfl, by omega, by omega, by omega, HS.out, S0, HR1⟩
  case round =>
    clear S0 HR1
    obtain ⟨a, f, dk, rfl, rfl, ha, hf, hkx, hdk, S1, heq⟩ := hrel
    by_cases hlt : a + 20 ≤ sz
    · obtain ⟨f, rfl⟩ : ∃ f', f = f' + 1 := ⟨f - 1, by omega⟩
      have hlt' : ((a + 20 : Nat) : Int) ≤ sz := by omega
      have HE := Lib.hid (stB_go hlt heq.out)
      have hq : (insertionSort (ltOf cf) dk a (a + 20)).size = sz := by rw [insertionSort_size, hdk]
      have HQ := Lib.hid hq
      have HDK := Lib.hid hdk
      have S1' := S1.out
      clear heq hq hdk S1
      go_wp2_with fail
      refine (insertion_any L FI enc g fst cb cf blk off cap a (a + 20) sz d dk w wr eg HC.out R HS.out HDK.out S1' (by omega) (by omega) hsz').mono ?_
      rintro e w2 ⟨rfl, S2⟩
      have S3 : Aside _ := S2
      clear S2 S1'
      generalize insertionSort (ltOf cf) dk a (a + 20) = q at S3 HE HQ
      go_wp2_with fail
      go_roundg f
      case measure => omega
      case rel => exact ⟨a + 20, f, q, by first | rfl | go_num, by first | rfl | (congr 1; omega), by omega, by omega, Nat.le_refl _, HQ.out, S3, HE⟩
    · have hlt' : ¬ ((a + 20 : Nat) : Int) ≤ sz := by omega
      have HE := Lib.hid (stB_stop hlt heq.out)
      have HDK := Lib.hid hdk
      have S1' := S1.out
      clear heq hdk S1
      go_wp2_with fail
      refine (insertion_any L FI enc g fst cb cf blk off cap a sz sz d dk w wr eg HC.out R HS.out HDK.out S1' (by omega) (by omega) hsz').mono ?_
      rintro e w2 ⟨rfl, S2⟩
      have S3 : Aside (SWK enc k w blk off r1 w2) := by rw [HE.out] at S2; exact S2
      clear S2 S1' HE HDK
      go_wp2_with fail
      go_loopg [6, 7, 8] sz (fun kx s6 s7 s8 wr => ∃ (bz f : Nat) (dk : Array α), s6 = .int .i64 bz ∧ 0 < bz ∧ bz < 2 * sz + 21 ∧ sz - bz ≤ f ∧ f ≤ kx ∧ dk.size = sz ∧ Aside (SWK enc k w blk off dk wr) ∧ Hid (stO (ltOf cf) sz f bz dk = r))
      case atStart => exact ⟨20, sz, r1, rfl, by omega, by omega, by omega, by omega, HZ1.out, S3, HR⟩
      case round =>
        clear S3 HR
        obtain ⟨bz, f, dk, rfl, hb0, hb1, hf, hkx, hdk, S1, heq⟩ := hrel
        by_cases hlt : bz < sz
        · obtain ⟨f, rfl⟩ : ∃ f', f = f' + 1 := ⟨f - 1, by omega⟩
          have hltz : (bz : Int) < sz := by omega
          have HE := Lib.hid (stO_go hlt heq.out)
          obtain ⟨q, hq⟩ : ∃ q, stP (ltOf cf) bz sz sz 0 dk = q := ⟨_, rfl⟩
          have hqs : q.size = sz := by rw [← hq, stP_size, hdk]
          rw [hq] at HE
          have HQ := Lib.hid hq
          have HQS := Lib.hid hqs
          have HDK := Lib.hid hdk
          have HKX := Lib.hid hkx
          clear heq hq hqs hdk hkx
          go_wp2_with fail
          go_loopg [7, 8] sz (fun kx s7 s8 wr => ∃ (a f' : Nat) (dk : Array α), s7 = .int .i64 a ∧ s8 = .int .i64 (a + 2 * bz : Nat) ∧ a ≤ sz ∧ sz - a ≤ f' ∧ f' ≤ kx ∧ dk.size = sz ∧ Aside (SWK enc k w blk off dk wr) ∧ Hid (stP (ltOf cf) bz sz f' a dk = q))
          case atStart => exact ⟨0, sz, dk, rfl, by first | rfl | (congr 1; omega), by omega, by omega, by omega, HDK.out, S1, HQ⟩
          case round =>
            clear S1 HQ HDK
            obtain ⟨a, f', dk, rfl, rfl, ha, hf', hkx, hdk, S1, heq⟩ := hrel
            by_cases hlt : a + 2 * bz ≤ sz
            · obtain ⟨f', rfl⟩ : ∃ f'', f' = f'' + 1 := ⟨f' - 1, by omega⟩
              have hlt' : ((a + 2 * bz : Nat) : Int) ≤ sz := by omega
              have HP := Lib.hid (stP_go hlt heq.out)
              have hz : (symM (ltOf cf) (2 * bz) dk a (a + bz) (a + 2 * bz)).size = sz := by rw [symM_size, hdk]
              have HZ := Lib.hid hz
              have HDK := Lib.hid hdk
              have S1' := S1.out
              clear heq hz hdk S1
              go_wp2_with fail
              refine (symMerge_any L FM FR FS enc g fst cb cf blk off cap sz d w eg em er es HC.out R HS.out hsz' (2 * bz) a (a + bz) (a + 2 * bz) dk wr (by omega) (by omega) (by omega) (by omega) HDK.out S1').mono ?_
              rintro e w2 ⟨rfl, S2⟩
              have S3 : Aside _ := S2
              clear S2 S1'
              generalize symM (ltOf cf) (2 * bz) dk a (a + bz) (a + 2 * bz) = q2 at S3 HP HZ
              go_wp2_with fail
              go_roundg f'
              case measure => omega
              case rel => exact ⟨a + 2 * bz, f', q2, by first | rfl | go_num, by first | rfl | (congr 1; omega), by omega, by omega, Nat.le_refl _, HZ.out, S3, HP⟩
            · have hlt' : ¬ ((a + 2 * bz : Nat) : Int) ≤ sz := by omega
              by_cases hm : a + bz < sz
              · obtain ⟨f', rfl⟩ : ∃ f'', f' = f'' + 1 := ⟨f' - 1, by omega⟩
                have hm' : (a : Int) + bz < sz := by omega
                have HP := Lib.hid (stP_mid hlt hm heq.out)
                have HDK := Lib.hid hdk
                have S1' := S1.out
                clear heq hdk S1
                go_wp2_with fail
                refine (symMerge_any L FM FR FS enc g fst cb cf blk off cap sz d w eg em er es HC.out R HS.out hsz' (sz - a) a (a + bz) sz dk wr (by omega) (by omega) (by omega) (by omega) HDK.out S1').mono ?_
                rintro e w2 ⟨rfl, S2⟩
                have S3 : Aside (SWK enc k w blk off q w2) := by rw [HP.out] at S2; exact S2
                clear S2 S1' HP HDK
                go_wp2_with fail
                go_roundg f
                case measure => have := HKX.out; omega
                case rel => exact ⟨2 * bz, f, q, by first | rfl | (congr 1; omega), by omega, by omega, by omega, Nat.le_refl _, HQS.out, S3, HE⟩
              · have hm' : ¬ (a : Int) + bz < sz := by omega
                have HP := Lib.hid (stP_stop hlt hm heq.out)
                have S3 : Aside (SWK enc k w blk off q wr) := by have h := S1.out; rw [HP.out] at h; exact h
                clear heq hdk S1 HP
                go_wp2_with fail
                go_roundg f
                case measure => have := HKX.out; omega
                case rel => exact ⟨2 * bz, f, q, by first | rfl | (congr 1; omega), by omega, by omega, by omega, Nat.le_refl _, HQS.out, S3, HE⟩
        · have hltz : ¬ (bz : Int) < sz := by omega
          have HE := Lib.hid (stO_stop hlt heq.out)
          clear heq
          go_wp2_with fail
          go_end0
          exact ⟨rfl, by have h := S1.out; rw [HE.out] at h; exact h⟩
end Go.Proofs.Ytgfakkkiejeofaa.Link
