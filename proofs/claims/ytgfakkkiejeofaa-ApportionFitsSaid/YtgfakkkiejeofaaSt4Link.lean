/- The library's stable sort at a struct of k cells: the insertion sort, and all of it. -/
import Derived.Test.YtgfakkkiejeofaaSt3Link
namespace Go.Proofs.Ytgfakkkiejeofaa.Link
open Go.Shelf Go.RowKit Go.Lib Go.Sort Go.V
variable {P : Program} {α : Type} [Inhabited α]

theorem insI_stop {lt : α → α → Bool} {a j : Nat} {d r : Array α} (h : insInner lt a j d = r) (hs : j ≤ a ∨ lt d[j]! d[j - 1]! = false) : d = r := by
  rw [← h]
  cases j with
  | zero => rfl
  | succ j =>
    unfold insInner
    rcases hs with hs | hs
    · rw [if_neg (by simp; omega)]
    · rw [if_neg (by simp only [Nat.add_sub_cancel] at hs; simp [hs])]
theorem insI_go {lt : α → α → Bool} {a j : Nat} {d r : Array α} (h : insInner lt a (j + 1) d = r) (h1 : a < j + 1) (h2 : lt d[j + 1]! d[j]! = true) : insInner lt a j (swp d (j + 1) j) = r := by
  rw [← h]; conv => rhs; unfold insInner
  rw [if_pos (by simp [h1, h2])]
theorem insO_go {lt : α → α → Bool} {a b i : Nat} {d r : Array α} (h : insOuter lt a b i d = r) (h1 : i < b) : insOuter lt a b (i + 1) (insInner lt a i d) = r := by
  rw [insOuter, if_pos h1] at h; exact h
theorem insO_stop {lt : α → α → Bool} {a b i : Nat} {d r : Array α} (h : insOuter lt a b i d = r) (h1 : ¬ i < b) : d = r := by
  rw [insOuter, if_neg h1] at h; exact h
theorem insI_size {lt : α → α → Bool} (a j : Nat) (d : Array α) : (insInner lt a j d).size = d.size := by
  induction j generalizing d with
  | zero => rfl
  | succ j ih =>
    unfold insInner; split
    · rw [ih, size_swp]
    · rfl

set_option maxHeartbeats 2000000 in
set_option maxRecDepth 100000 in
theorem insertion_any {k : Nat} (L : Sty P k) (F : P.funcs[83]? = some Try.f83) (enc : α → List Value) (g : Nat) (fst cb : Array Value) (cf : α → α → Int) (blk off cap a b sz : Nat) (d0 d : Array α) (w0 w : World)
    (eg : ∀ args w, (callFunc g args).run P w = .ok (.enter g args) w) (C : CmpL P g fst cb enc k cf blk off sz w0)
    (R : RowK enc k w0 blk off d0) (hs0 : d0.size = sz) (hs : d.size = sz) (S : SWK enc k w0 blk off d w) (hab : a ≤ b) (hb : b ≤ sz) (hsz : sz < 4611686018427387904) :
    Calls P 83 #[.slice (some ⟨blk, off, none⟩) sz cap, .int .i64 a, .int .i64 b, .func (.func g) fst cb] w fun e w' => e = .returned (.tuple #[]) ∧ SWK enc k w0 blk off (insertionSort (ltOf cf) d a b) w' := by
  have mixed := L.mixed; have t3 := L.t3; have a3 := L.a3; have z3 := L.z3; have v3 := L.v3; have t4 := L.t4; have a4 := L.a4; have z4 := L.z4; have v4 := L.v4; have tS := L.tS; have aS := L.aS; have zS := L.zS; have vS := L.vS; have tF := L.tF; have aF := L.aF; have zF := L.zF; have vF := L.vF; have aE := L.aE; have zE := L.zE
  have S0 : Aside (SWK enc k w0 blk off d w) := S
  have HC : Aside _ := C
  have HS0 : Hid _ := hs0
  have HS : Hid _ := hs
  obtain ⟨r, hr⟩ : ∃ r, insOuter (ltOf cf) a b (a + 1) d = r := ⟨_, rfl⟩
  unfold insertionSort
  rw [hr]
  have HR := Lib.hid hr
  clear S C hs0 hs hr
  go_enter F, Try.ntmps83
  go_wp2_with fail
  go_loopg [8] (b - a) (fun g1 vi wr => ∃ (i : Nat) (dk : Array α), vi = .int .i64 i ∧ a < i ∧ i ≤ b + 1 ∧ b + 1 - i ≤ g1 + 1 ∧ dk.size = sz ∧ Aside (SWK enc k w0 blk off dk wr) ∧ Hid (insOuter (ltOf cf) a b i dk = r))
  case atStart => exact ⟨a + 1, d, by go_num, by omega, by omega, by omega, HS.out, S0, HR⟩
  case round =>
    clear S0 HR
    obtain ⟨i, dk, rfl, hai, hib, hg1, hds, S1, heq⟩ := hrel
    by_cases hlt : i < b
    · have hltz : (i : Int) < (b : Int) := by omega
      have HO := Lib.hid (insO_go heq.out hlt)
      obtain ⟨q, hq⟩ : ∃ q, insInner (ltOf cf) a i dk = q := ⟨_, rfl⟩
      have hqs : q.size = sz := by rw [← hq, insI_size, hds]
      rw [hq] at HO
      have HQ := Lib.hid hq
      have HQS := Lib.hid hqs
      have HDK := Lib.hid hds
      clear heq hq hqs hds
      go_wp2_with fail
      go_loopg [9] i (fun g2 vj wr2 => ∃ (j : Nat) (dj : Array α), vj = .int .i64 j ∧ a ≤ j ∧ j ≤ i ∧ j ≤ g2 ∧ dj.size = sz ∧ Aside (SWK enc k w0 blk off dj wr2) ∧ Hid (insInner (ltOf cf) a j dj = q))
      case atStart => exact ⟨i, dk, rfl, by omega, Nat.le_refl _, Nat.le_refl _, HDK.out, S1, HQ⟩
      case round =>
        clear S1 HQ
        obtain ⟨j, dj, rfl, haj, hji, hg2, hdj, S1, heq⟩ := hrel
        by_cases hja : a < j
        · obtain ⟨j, rfl⟩ : ∃ j', j = j' + 1 := ⟨j - 1, by omega⟩
          have hds0 : dj.size = d0.size := by rw [hdj, HS0.out]
          have hjaz : (a : Int) < (j : Int) + 1 := by omega
          have e1 : ((j : Int) + 1).toNat = j + 1 := by omega
          have p1 : (0 : Int) ≤ (j : Int) + 1 := by omega
          have b1 : (j : Int) + 1 < (sz : Int) := by omega
          have b2 : (j : Int) < (sz : Int) := by omega
          have r2 : IntKind.i64.wrap (j : Int) = (j : Int) := by rw [IntKind.wrap_i64]; omega
          obtain ⟨xj, hxj⟩ : ∃ x, dj[j + 1]! = x := ⟨_, rfl⟩
          obtain ⟨xp, hxp⟩ : ∃ x, dj[j]! = x := ⟨_, rfl⟩
          have l1 : ∀ n' os', Sem.run P (loadCellsFrom ⟨blk, off + (j + 1) * k, none⟩ 0 k #[]) (grow (wr.drewN n') os') = .ok (enc xj).toArray (grow (wr.drewN n') os') := fun n' os' => by rw [← hxj]; exact S1.out.ld R hds0 P _ (by omega) n' os'
          have l2 : ∀ n' os', Sem.run P (loadCellsFrom ⟨blk, off + j * k, none⟩ 0 k #[]) (grow (wr.drewN n') os') = .ok (enc xp).toArray (grow (wr.drewN n') os') := fun n' os' => by rw [← hxp]; exact S1.out.ld R hds0 P _ (by omega) n' os'
          have hcg := fun n' os' => cmp_at S1.out HC.out hdj xj xp n' os'
          have S2 : ∀ n' os', Aside (SWK enc k w0 blk off dj (grow (wr.drewN n') os')) := fun n' os' => S1.out.grown n' os'
          have SS2 : Aside _ := S2
          have HX := Lib.hid hxj
          have HA := Lib.hid hxp
          have HDJ := Lib.hid hdj
          clear S1 S2 hxj hxp hds0 hdj
          by_cases hlv : cf xj xp < 0
          · go_wp2_with fail
            go_quiet_grown (first | (go_at_fn g; refine Calls.grown_of (hcg _ _)))
            have S3 : Aside (SWK enc k w0 blk off dj (grow (wr.drewN nq) osq)) := SS2.out nq osq
            clear SS2 l1 l2 hcg
            generalize grow (wr.drewN nq) osq = w2 at S3 ⊢
            have heq2 := Lib.hid (insI_go heq.out hja (by show decide _ = true; rw [HX.out, HA.out]; exact decide_eq_true hlv))
            clear heq
            go_wp2_with fail
            have hdj := HDJ.out
            have hds0 : dj.size = d0.size := by rw [hdj, HS0.out]
            have S4 : Aside (SWK enc k w0 blk off (swp dj (j + 1) j) ((w2.drew.setCells blk (off + (j + 1) * k) (enc dj[j]!)).setCells blk (off + j * k) (enc dj[j + 1]!))) := S3.out.swapped R (j + 1) j (by omega) (by omega)
            have l1 := S3.out.ld1 R hds0 P (j + 1) (by omega)
            have l2 := S3.out.ld1 R hds0 P j (by omega)
            have s1 := S3.out.st1 R hds0 P (j + 1) (by omega) dj[j]!
            have s2 := S3.out.st2 R hds0 P (j + 1) j (by omega) (by omega) dj[j]! dj[j + 1]!
            have n1 : (enc dj[j + 1]!).length = k := R.hk _
            have n2 : (enc dj[j]!).length = k := R.hk _
            generalize enc dj[j + 1]! = c1 at S4 l1 s2 n1
            generalize enc dj[j]! = c2 at S4 l2 s1 s2 n2
            clear S3 hds0 hdj
            go_big_region_o
            clear l1 l2 s1 s2
            generalize (w2.drew.setCells blk (off + (j + 1) * k) c2).setCells blk (off + j * k) c1 = w3 at S4 ⊢
            go_wp2
            go_roundg j
            case measure => omega
            case rel => exact ⟨j, swp dj (j + 1) j, by first | rfl | go_num, by omega, by omega, Nat.le_refl _, by rw [size_swp]; exact HDJ.out, S4, heq2⟩
          · go_wp2_with fail
            go_quiet_grown (first | (go_at_fn g; refine Calls.grown_of (hcg _ _)))
            have S3 : Aside (SWK enc k w0 blk off dj (grow (wr.drewN nq) osq)) := SS2.out nq osq
            clear SS2 l1 l2 hcg
            generalize grow (wr.drewN nq) osq = w2 at S3 ⊢
            have heq2 := insI_stop heq.out (.inr (by show decide _ = false; rw [Nat.add_sub_cancel, HX.out, HA.out]; exact decide_eq_false (by omega)))
            have HE := Lib.hid heq2
            clear heq heq2
            go_wp2
            go_roundg (b - (i + 1))
            case measure => omega
            case rel => exact ⟨i + 1, dj, by go_num, by omega, by omega, by omega, HDJ.out, S3, by show _ = _; rw [HE.out]; exact HO.out⟩
        · have hjaz : decide ((j : Int) > (a : Int)) = false := decide_eq_false (by omega)
          have hjaz' : ¬ (a : Int) < (j : Int) := by omega
          have heq2 := insI_stop heq.out (.inl (by omega))
          have HE := Lib.hid heq2
          have HDJ := Lib.hid hdj
          have S3 : Aside (SWK enc k w0 blk off dj wr.drew) := S1.out.drewN 1
          clear heq heq2 hdj S1
          go_wp2_with fail
          go_big_region_o
          all_goals go_wp2
          go_roundg (b - (i + 1))
          case measure => omega
          case rel => exact ⟨i + 1, dj, by go_num, by omega, by omega, by omega, HDJ.out, S3, by show _ = _; rw [HE.out]; exact HO.out⟩
    · have hltz : ¬ (i : Int) < (b : Int) := by omega
      go_wp2
      go_end0
      exact ⟨rfl, by have h := S1.out; rw [insO_stop heq.out hlt] at h; exact h⟩
end Go.Proofs.Ytgfakkkiejeofaa.Link
