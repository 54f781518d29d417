/- The library's stable sort at a struct of k cells: the merge of two sorted pieces. -/
import Derived.Test.YtgfakkkiejeofaaSt2Link
import Derived.Deep.Cut
import Derived.Deep.DeepCutAuto
namespace Go.Proofs.Ytgfakkkiejeofaa.Link
open Go.Shelf Go.RowKit Go.Lib Go.Sort Go.V
variable {P : Program} {α : Type} [Inhabited α]

theorem symM_gen {lt : α → α → Bool} {f a m b s0 r0 s : Nat} {d : Array α} (h1 : ¬ m - a = 1) (h2 : ¬ b - m = 1)
    (hs : s0 = if (a + b) / 2 < m then (a + b) / 2 + m - b else a) (hr : r0 = if (a + b) / 2 < m then (a + b) / 2 else m)
    (hb : bs (fun c => !lt d[(a + b) / 2 + m - 1 - c]! d[c]!) (r0 - s0) s0 r0 = s) :
    symM lt (f + 1) d a m b =
      (let d1 := if s < m ∧ m < (a + b) / 2 + m - s then rot d s m ((a + b) / 2 + m - s) else d
       let d2 := if a < s ∧ s < (a + b) / 2 then symM lt f d1 a s ((a + b) / 2) else d1
       if (a + b) / 2 < (a + b) / 2 + m - s ∧ (a + b) / 2 + m - s < b then symM lt f d2 ((a + b) / 2) ((a + b) / 2 + m - s) b else d2) := by
  subst hs; subst hr; subst hb
  conv => lhs; unfold symM
  rw [if_neg h1, if_neg h2]

set_option maxHeartbeats 2000000 in
set_option maxRecDepth 100000 in
theorem symMerge_gen {k : Nat} (L : Sty P k) (F : P.funcs[84]? = some Try.f84) (FR : P.funcs[86]? = some Try.f86) (FS : P.funcs[87]? = some Try.f87) (enc : α → List Value) (g : Nat) (fst cb : Array Value) (cf : α → α → Int) (blk off cap sz : Nat) (d0 : Array α) (w0 : World)
    (eg : ∀ args w, (callFunc g args).run P w = .ok (.enter g args) w) (em : ∀ args w, (callFunc 84 args).run P w = .ok (.enter 84 args) w)
    (er : ∀ args w, (callFunc 86 args).run P w = .ok (.enter 86 args) w) (es : ∀ args w, (callFunc 87 args).run P w = .ok (.enter 87 args) w)
    (C : CmpL P g fst cb enc k cf blk off sz w0)
    (R : RowK enc k w0 blk off d0) (hs0 : d0.size = sz) (hsz : sz < 4611686018427387904) (f : Nat)
    (ih : ∀ (a m b : Nat) (d : Array α) (w : World), b - a ≤ f → a < m → m < b → b ≤ sz → d.size = sz → SWK enc k w0 blk off d w → Calls P 84 #[.slice (some ⟨blk, off, none⟩) sz cap, .int .i64 a, .int .i64 m, .int .i64 b, .func (.func g) fst cb] w fun e w' => e = .returned (.tuple #[]) ∧ SWK enc k w0 blk off (symM (ltOf cf) f d a m b) w')
    (a m b : Nat) (d : Array α) (w : World) (hf : b - a ≤ f + 1) (h1 : a < m) (h2 : m < b) (hb : b ≤ sz) (hs : d.size = sz) (S : SWK enc k w0 blk off d w) (e1 : ¬ m - a = 1) (e2 : ¬ b - m = 1) :
    Calls P 84 #[.slice (some ⟨blk, off, none⟩) sz cap, .int .i64 a, .int .i64 m, .int .i64 b, .func (.func g) fst cb] w fun e w' => e = .returned (.tuple #[]) ∧ SWK enc k w0 blk off (symM (ltOf cf) (f + 1) d a m b) w' := by
  obtain ⟨s0, hs0'⟩ : ∃ s0, s0 = if (a + b) / 2 < m then (a + b) / 2 + m - b else a := ⟨_, rfl⟩
  obtain ⟨r0, hr0'⟩ : ∃ r0, r0 = if (a + b) / 2 < m then (a + b) / 2 else m := ⟨_, rfl⟩
  obtain ⟨s, hbs⟩ : ∃ s, bs (fun c => !ltOf cf d[(a + b) / 2 + m - 1 - c]! d[c]!) (r0 - s0) s0 r0 = s := ⟨_, rfl⟩
  have hgen := symM_gen (f := f) e1 e2 hs0' hr0' hbs
  have gg : a ≤ s0 ∧ s0 ≤ r0 ∧ r0 ≤ m ∧ r0 ≤ (a + b) / 2 ∧ (a + b) / 2 + m ≤ b + s0 ∧ m + r0 ≤ (a + b) / 2 + m := by
    rw [hs0', hr0']; split <;> omega
  obtain ⟨g1, g2, g3, g4, g5, g6⟩ := gg
  have hin := bs_in (fun c => !ltOf cf d[(a + b) / 2 + m - 1 - c]! d[c]!) (r0 - s0) s0 r0 g2
  rw [hbs] at hin
  obtain ⟨i1, i2⟩ := hin
  rw [hgen]
  dsimp only
  obtain ⟨mid, hmid⟩ : ∃ mid, mid = (a + b) / 2 := ⟨_, rfl⟩
  rw [← hmid] at g4 g5 g6 hs0' hr0' hbs ⊢
  have hmi : ((a : Int) + b) / 2 = (mid : Int) := by omega
  obtain ⟨pp, hpp⟩ : ∃ pp, pp = mid + m - 1 := ⟨_, rfl⟩
  obtain ⟨nn, hnn⟩ : ∃ nn, nn = mid + m := ⟨_, rfl⟩
  have hppz : (nn : Int) - 1 = (pp : Int) := by omega
  have hnnz : (mid : Int) + m = (nn : Int) := by omega
  rw [← hpp] at hbs
  have hab : a < mid ∧ mid < b := by omega
  obtain ⟨k1, k2⟩ := hab
  have IH := Lib.hid ih
  have HBS := Lib.hid hbs
  have HMID := Lib.hid hmid
  have HS1 := Lib.hid hs0'
  have HR1 := Lib.hid hr0'
  have S0 : Aside (SWK enc k w0 blk off d w) := S
  have HC : Aside _ := C
  have HS0 : Hid _ := hs0
  have HS : Hid _ := hs
  have e1' : (((m : Int) - a) == 1) = false := by simp; omega
  have e2' : (((b : Int) - m) == 1) = false := by simp; omega
  clear ih hbs hmid hs0' hr0' S C hs0 hs hgen e1 e2
  have mixed := L.mixed; have t3 := L.t3; have a3 := L.a3; have z3 := L.z3; have v3 := L.v3; have t4 := L.t4; have a4 := L.a4; have z4 := L.z4; have v4 := L.v4; have tS := L.tS; have aS := L.aS; have zS := L.zS; have vS := L.vS; have tF := L.tF; have aF := L.aF; have zF := L.zF; have vF := L.vF; have aE := L.aE; have zE := L.zE
  have tu := L.tu; have au := L.au; have zu := L.zu; have vu := L.vu
  have hm2 : mid < m ∧ ((a : Int) + b) / 2 < m ∧ (mid : Int) + m - b = s0 ∧ r0 = mid ∨ ¬ mid < m ∧ ¬ ((a : Int) + b) / 2 < m ∧ a = s0 ∧ r0 = m := by
    have h1 := HS1.out; have h2 := HR1.out; have h3 := hmi
    by_cases hm : mid < m
    · rw [if_pos hm] at h1 h2; left; omega
    · rw [if_neg hm] at h1 h2; right; omega
  clear HS1 HR1
  obtain ⟨e, he⟩ : ∃ e, e = mid + m - s := ⟨_, rfl⟩
  rw [← he]
  have hez0 : ((nn : Int) - s) = (e : Int) := by omega
  have hee : m ≤ e ∧ e ≤ b ∧ a ≤ s ∧ s ≤ m ∧ s ≤ mid ∧ mid ≤ e := by omega
  obtain ⟨q1, q2, q3, q4, q5, q6⟩ := hee
  have HE := Lib.hid he
  have HEZ := Lib.hid hez0
  clear he hez0
  have T1 : ∃ d1, d1 = (if s < m ∧ m < e then rot d s m e else d) ∧ d1.size = sz := ⟨_, rfl, by split; rw [rot_size, HS.out]; exact HS.out⟩
  obtain ⟨d1, hd1, z1⟩ := T1
  rw [← hd1]
  obtain ⟨d2, hd2⟩ : ∃ d2, d2 = (if a < s ∧ s < mid then symM (ltOf cf) f d1 a s mid else d1) := ⟨_, rfl⟩
  have z2 : d2.size = sz := by rw [hd2]; split; rw [symM_size, z1]; exact z1
  rw [← hd2]
  obtain ⟨d3, hd3⟩ : ∃ d3, d3 = (if mid < e ∧ e < b then symM (ltOf cf) f d2 mid e b else d2) := ⟨_, rfl⟩
  rw [← hd3]
  have HD3 := Lib.hid hd3
  clear hd3
  have HD1 := Lib.hid hd1
  have HD2 := Lib.hid hd2
  have HZ1 := Lib.hid z1
  have HZ2 := Lib.hid z2
  clear hd1 hd2 z1 z2
  go_enter F, Try.ntmps84
  have HNN := Lib.hid hnn
  have HPP := Lib.hid hpp
  clear hnn hpp
  go_upto_if 140 with (fail)
  go_cut [20, 21] (fun s20 s21 wx => s20 = .int .i64 s0 ∧ s21 = .int .i64 r0 ∧ w = wx)
  case first =>
    as_aux_lemma =>
      rcases hm2 with ⟨hm, hm', x1, x2⟩ | ⟨hm, hm', x1, x2⟩
      all_goals
        have X1 := Lib.hid x1
        have X2 := Lib.hid x2
        clear x1 x2
        go_wp2_with fail
        go_meet
        exact ⟨by have := X1.out; congr 1 <;> omega, by have := X2.out; congr 1 <;> omega, rfl⟩
  obtain ⟨rfl, rfl, rfl⟩ := hcut
  clear hm2
  go_wp2_with fail
  have hnn := HNN.out
  have hpp := HPP.out
  clear HNN HPP
  go_loopg [20, 21] (r0 - s0) (fun kx s20 s21 wr => ∃ (i j f : Nat), s20 = .int .i64 i ∧ s21 = .int .i64 j ∧ s0 ≤ i ∧ i ≤ r0 ∧ j ≤ r0 ∧ j - i ≤ f ∧ f ≤ kx ∧ Aside (SWK enc k w0 blk off d wr) ∧ Hid (bs (fun c => !ltOf cf d[pp - c]! d[c]!) f i j = s))
  case atStart => exact ⟨s0, r0, r0 - s0, rfl, rfl, by omega, by omega, by omega, by omega, by omega, S0, HBS⟩
  case round =>
    clear S0 HBS
    obtain ⟨i, j, f', rfl, rfl, hai, hib, hjb, hji, hkx, S1, heq⟩ := hrel
    by_cases hlt : (i : Int) < j
    · obtain ⟨f', rfl⟩ : ∃ f'', f' = f'' + 1 := ⟨f' - 1, by omega⟩
      obtain ⟨c, hc⟩ : ∃ c, c = (i + j) / 2 := ⟨_, rfl⟩
      have hcz : ((i : Int) + j) / 2 = (c : Int) := by omega
      have hst := bs_step (by omega) heq.out
      rw [← hc] at hst
      have HST := Lib.hid hst; clear hst
      clear heq
      have hcb : i ≤ c ∧ c < j ∧ c < sz ∧ c ≤ pp ∧ pp - c < sz := by omega
      obtain ⟨w1, w2, w3, w4, w5⟩ := hcb
      have w6 : i + j ≤ sz + sz := by omega
      have HB : Hid (a < m ∧ m < b ∧ b - a ≤ f + 1 ∧ a ≤ s0 ∧ s0 ≤ r0 ∧ r0 ≤ m ∧ r0 ≤ mid ∧ mid + m ≤ b + s0 ∧ m + r0 ≤ mid + m ∧ s0 ≤ s ∧ s ≤ r0 ∧ a < mid ∧ mid < b ∧ s0 ≤ i ∧ i ≤ r0 ∧ j ≤ r0 ∧ j - i ≤ f' + 1 ∧ i ≤ c ∧ c < j) := ⟨h1, h2, hf, g1, g2, g3, g4, g5, g6, i1, i2, k1, k2, hai, hib, hjb, hji, w1, w2⟩
      have HKX := Lib.hid hkx
      have HNN := Lib.hid hnn
      have HPP := Lib.hid hpp
      have HCC := Lib.hid hc
      clear h1 h2 hf g1 g2 g3 g4 g5 g6 i1 i2 k1 k2 hai hib hjb hji w1 w2 hkx hnn hpp hc
      go_wp2_with fail
      have hds0 : d.size = d0.size := by rw [HS.out, HS0.out]
      have b1 : (c : Int) < (sz : Int) := by omega
      have e2 : ((pp : Int) - c).toNat = pp - c := by omega
      have p2 : (0 : Int) ≤ (pp : Int) - c := by omega
      have p3 : (c : Int) ≤ (pp : Int) := by omega
      have b2 : (pp : Int) - c < (sz : Int) := by omega
      have r2 : IntKind.i64.wrap ((pp : Int) - c) = (pp : Int) - c := by rw [IntKind.wrap_i64]; omega
      obtain ⟨xc, hxc⟩ : ∃ x, d[c]! = x := ⟨_, rfl⟩
      obtain ⟨xp, hxp⟩ : ∃ x, d[pp - c]! = x := ⟨_, rfl⟩
      have l1 : ∀ n' os', Sem.run P (loadCellsFrom ⟨blk, off + c * k, none⟩ 0 k #[]) (grow (wr.drewN n') os') = .ok (enc xc).toArray (grow (wr.drewN n') os') := fun n' os' => by rw [← hxc]; exact S1.out.ld R hds0 P _ (by rw [HS.out]; omega) n' os'
      have l2 : ∀ n' os', Sem.run P (loadCellsFrom ⟨blk, off + (pp - c) * k, none⟩ 0 k #[]) (grow (wr.drewN n') os') = .ok (enc xp).toArray (grow (wr.drewN n') os') := fun n' os' => by rw [← hxp]; exact S1.out.ld R hds0 P _ (by rw [HS.out]; omega) n' os'
      have hcg := fun n' os' => cmp_at S1.out HC.out HS.out xp xc n' os'
      have S2 : ∀ n' os', Aside (SWK enc k w0 blk off d (grow (wr.drewN n') os')) := fun n' os' => S1.out.grown n' os'
      have SS2 : Aside _ := S2
      have HW : Hid (i + j ≤ sz + sz ∧ b ≤ sz) := ⟨w6, hb⟩
      clear S1 S2 w3 w4 w5 w6 hb hlt hcz hmi hppz hnnz
      by_cases hlv : cf xp xc < 0
      · as_aux_lemma =>
          have heq := Lib.hid (HST.out.2 (by show (!decide _) = false; rw [hxc, hxp, decide_eq_true hlv]; rfl)); clear HST
          have HX := Lib.hid hxc; clear hxc
          have HA := Lib.hid hxp; clear hxp
          clear hds0
          go_quiet_grown (first | (go_at_fn g; refine Calls.grown_of (hcg _ _)))
          have S3 : Aside (SWK enc k w0 blk off d (grow (wr.drewN nq) osq)) := SS2.out nq osq
          clear SS2 l1 l2 hcg
          generalize grow (wr.drewN nq) osq = w2 at S3 ⊢
          go_wp2_with fail
          go_roundg f'
          case measure => have := HKX.out; omega
          case rel =>
            obtain ⟨h1, h2, hf, g1, g2, g3, g4, g5, g6, i1, i2, k1, k2, hai, hib, hjb, hji, w1, w2⟩ := HB.out
            exact ⟨i, c, f', rfl, by go_num, by omega, by omega, by omega, by omega, Nat.le_refl _, S3, heq⟩
      · as_aux_lemma =>
          have heq := Lib.hid (HST.out.1 (by show (!decide _) = true; rw [hxc, hxp, decide_eq_false hlv]; rfl)); clear HST
          have HX := Lib.hid hxc; clear hxc
          have HA := Lib.hid hxp; clear hxp
          clear hds0
          go_quiet_grown (first | (go_at_fn g; refine Calls.grown_of (hcg _ _)))
          have S3 : Aside (SWK enc k w0 blk off d (grow (wr.drewN nq) osq)) := SS2.out nq osq
          clear SS2 l1 l2 hcg
          generalize grow (wr.drewN nq) osq = w2 at S3 ⊢
          have hw6 := HW.out
          go_wp2_with fail
          go_roundg f'
          case measure => have := HKX.out; omega
          case rel =>
            obtain ⟨h1, h2, hf, g1, g2, g3, g4, g5, g6, i1, i2, k1, k2, hai, hib, hjb, hji, w1, w2⟩ := HB.out
            exact ⟨c + 1, j, f', by go_num, rfl, by omega, by omega, by omega, by omega, Nat.le_refl _, S3, heq⟩
    · have hi : i = s := by
        have := heq.out
        cases f' with
        | zero => exact this
        | succ f => rwa [bs, if_neg (by omega)] at this
      subst hi
      clear heq
      have hez := HEZ.out
      have HNN := Lib.hid hnn
      have HPP := Lib.hid hpp
      clear hmi hppz hnnz hnn hpp
      go_upto_region 39 with (fail)
      go_cut [185] (fun sx wx => sx = .bool (decide (i < m ∧ m < e)) ∧ wr = wx)
      case first =>
        as_aux_lemma =>
          by_cases c1 : i < m
          · by_cases c2 : m < e
            · have c1' : (i : Int) < (m : Int) := by omega
              have c2' : (m : Int) < (e : Int) := by omega
              go_wp2_with fail
              go_meet
              exact ⟨by simp [c1, c2], rfl⟩
            · have c1' : (i : Int) < (m : Int) := by omega
              have c2' : ¬ (m : Int) < (e : Int) := by omega
              go_wp2_with fail
              go_meet
              exact ⟨by simp [c2], rfl⟩
          · have c1' : ¬ (i : Int) < (m : Int) := by omega
            go_wp2_with fail
            go_meet
            exact ⟨by simp [c1], rfl⟩
      obtain ⟨rfl, rfl⟩ := hcut
      go_upto_if 185 with (fail)
      go_cut [] (fun wx => Aside (SWK enc k w0 blk off d1 wx))
      case first =>
        as_aux_lemma =>
          by_cases c1 : i < m ∧ m < e
          · have c1' : decide (i < m ∧ m < e) = true := decide_eq_true c1
            have C1 := Lib.hid c1
            clear c1
            have S1' := S1.out
            clear S1
            go_wp2_with fail
            refine (rotate_any L FR FS enc _ blk off cap i m e sz d0 d w0 _ es R HS0.out HS.out S1' C1.out.1 C1.out.2 (by omega) hsz).mono ?_
            rintro e' w2 ⟨rfl, S2⟩
            have S3 : Aside _ := S2
            clear S2 S1'
            go_wp2_with fail
            go_meet
            have h := S3.out; rw [HD1.out, if_pos C1.out]; exact h
          · have c1' : decide (i < m ∧ m < e) = false := decide_eq_false c1
            have C1 := Lib.hid c1
            clear c1
            go_wp2_with fail
            go_meet
            have h := S1.out; rw [HD1.out, if_neg C1.out]; exact h
      clear S1
      have S1 := hcut
      clear hcut
      obtain ⟨wr, rfl⟩ : ∃ w', w' = wc := ⟨_, rfl⟩
      go_upto_region 41 with (fail)
      go_cut [199] (fun sx wx => sx = .bool (decide (a < i ∧ i < mid)) ∧ wr = wx)
      case first =>
        as_aux_lemma =>
          by_cases c1 : a < i
          · by_cases c2 : i < mid
            · have c1' : (a : Int) < (i : Int) := by omega
              have c2' : (i : Int) < (mid : Int) := by omega
              go_wp2_with fail
              go_meet
              exact ⟨by simp [c1, c2], rfl⟩
            · have c1' : (a : Int) < (i : Int) := by omega
              have c2' : ¬ (i : Int) < (mid : Int) := by omega
              go_wp2_with fail
              go_meet
              exact ⟨by simp [c2], rfl⟩
          · have c1' : ¬ (a : Int) < (i : Int) := by omega
            go_wp2_with fail
            go_meet
            exact ⟨by simp [c1], rfl⟩
      obtain ⟨rfl, rfl⟩ := hcut
      go_upto_if 199 with (fail)
      go_cut [] (fun wx => Aside (SWK enc k w0 blk off d2 wx))
      case first =>
        as_aux_lemma =>
          by_cases c1 : a < i ∧ i < mid
          · have c1' : decide (a < i ∧ i < mid) = true := decide_eq_true c1
            have C1 := Lib.hid c1
            clear c1
            have S1' := S1.out
            clear S1
            go_wp2_with fail
            refine (IH.out a i mid d1 _ (by omega) C1.out.1 C1.out.2 (by omega) HZ1.out S1').mono ?_
            rintro e' w2 ⟨rfl, S2⟩
            have S3 : Aside _ := S2
            clear S2 S1'
            go_wp2_with fail
            go_meet
            have h := S3.out; rw [HD2.out, if_pos C1.out]; exact h
          · have c1' : decide (a < i ∧ i < mid) = false := decide_eq_false c1
            have C1 := Lib.hid c1
            clear c1
            go_wp2_with fail
            go_meet
            have h := S1.out; rw [HD2.out, if_neg C1.out]; exact h
      clear S1
      have S1 := hcut
      clear hcut
      by_cases c1 : mid < e ∧ e < b
      · as_aux_lemma =>
          obtain ⟨c1a, c1b⟩ := c1
          have S1' := S1.out
          clear S1
          go_wp2_with fail
          refine (IH.out mid e b d2 _ (by omega) c1a c1b (by omega) HZ2.out S1').mono ?_
          rintro e' w2 ⟨rfl, S2⟩
          have S3 : Aside _ := S2
          clear S2 S1'
          go_wp2_with fail
          go_end0
          exact ⟨rfl, by have h := S3.out; rw [HD3.out, if_pos ⟨c1a, c1b⟩]; exact h⟩
      · as_aux_lemma =>
          have c1' : ¬ ((mid : Int) < e ∧ (e : Int) < b) := by omega
          go_wp2_with fail
          all_goals (go_end0; exact ⟨rfl, by have h := S1.out; rw [HD3.out, if_neg c1]; exact h⟩)

theorem symMerge_any {k : Nat} (L : Sty P k) (F : P.funcs[84]? = some Try.f84) (FR : P.funcs[86]? = some Try.f86) (FS : P.funcs[87]? = some Try.f87) (enc : α → List Value) (g : Nat) (fst cb : Array Value) (cf : α → α → Int) (blk off cap sz : Nat) (d0 : Array α) (w0 : World)
    (eg : ∀ args w, (callFunc g args).run P w = .ok (.enter g args) w) (em : ∀ args w, (callFunc 84 args).run P w = .ok (.enter 84 args) w)
    (er : ∀ args w, (callFunc 86 args).run P w = .ok (.enter 86 args) w) (es : ∀ args w, (callFunc 87 args).run P w = .ok (.enter 87 args) w)
    (C : CmpL P g fst cb enc k cf blk off sz w0)
    (R : RowK enc k w0 blk off d0) (hs0 : d0.size = sz) (hsz : sz < 4611686018427387904) (f : Nat) : ∀ (a m b : Nat) (d : Array α) (w : World), b - a ≤ f → a < m → m < b → b ≤ sz → d.size = sz → SWK enc k w0 blk off d w →
    Calls P 84 #[.slice (some ⟨blk, off, none⟩) sz cap, .int .i64 a, .int .i64 m, .int .i64 b, .func (.func g) fst cb] w fun e w' => e = .returned (.tuple #[]) ∧ SWK enc k w0 blk off (symM (ltOf cf) f d a m b) w' := by
  induction f with
  | zero => intro a m b d w hf h1 h2 hb hs S; omega
  | succ f ih =>
    intro a m b d w hf h1 h2 hb hs S
    by_cases e1 : m - a = 1
    · have := symMerge_one L F enc g fst cb cf blk off cap a m b sz d0 d w0 w eg C R hs0 hs S e1 h2 hb hsz
      unfold symM; rw [if_pos e1]; exact this
    · by_cases e2 : b - m = 1
      · have := symMerge_last L F enc g fst cb cf blk off cap a m b sz d0 d w0 w eg C R hs0 hs S e1 h1 e2 hb hsz
        unfold symM; rw [if_neg e1, if_pos e2]; exact this
      · exact symMerge_gen L F FR FS enc g fst cb cf blk off cap sz d0 w0 eg em er es C R hs0 hsz f ih a m b d w hf h1 h2 hb hs S e1 e2
end Go.Proofs.Ytgfakkkiejeofaa.Link
