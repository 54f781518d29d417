/- The library's stable sort at a struct of k cells: the turn of two pieces, and the merge. -/
import Derived.Test.YtgfakkkiejeofaaStLink
namespace Go.Proofs.Ytgfakkkiejeofaa.Link
open Go.Shelf Go.RowKit Go.Lib Go.Sort Go.V
variable {P : Program} {α : Type} [Inhabited α]

theorem rotL_step {m f i j : Nat} {d r : Array α} (h : i ≠ j) (he : rotL m (f + 1) i j d = r) : (j < i → rotL m f (i - j) j (swapR d (m - i) m j) = r) ∧ (i < j → rotL m f i (j - i) (swapR d (m - i) (m + j - i) i) = r) := by
  rw [rotL, if_neg h] at he
  exact ⟨fun hp => by rwa [if_pos hp] at he, fun hp => by rwa [if_neg (by omega)] at he⟩
theorem rotL_stop {m f i : Nat} {d r : Array α} (h : rotL m (f + 1) i i d = r) : swapR d (m - i) m i = r := by
  rwa [rotL, if_pos rfl] at h

set_option maxHeartbeats 1000000 in
set_option maxRecDepth 100000 in
theorem rotate_any {k : Nat} (L : Sty P k) (F : P.funcs[86]? = some Try.f86) (FS : P.funcs[87]? = some Try.f87) (enc : α → List Value) (fv : Value) (blk off cap a m b sz : Nat) (d0 d : Array α) (w0 w : World)
    (es : ∀ args w, (callFunc 87 args).run P w = .ok (.enter 87 args) w)
    (R : RowK enc k w0 blk off d0) (hs0 : d0.size = sz) (hs : d.size = sz) (S : SWK enc k w0 blk off d w) (h1 : a < m) (h2 : m < b) (hb : b ≤ sz) (hsz : sz < 4611686018427387904) :
    Calls P 86 #[.slice (some ⟨blk, off, none⟩) sz cap, .int .i64 a, .int .i64 m, .int .i64 b, fv] w fun e w' => e = .returned (.tuple #[]) ∧ SWK enc k w0 blk off (rot d a m b) w' := by
  have mixed := L.mixed; have t3 := L.t3; have a3 := L.a3; have z3 := L.z3; have v3 := L.v3; have t4 := L.t4; have a4 := L.a4; have z4 := L.z4; have v4 := L.v4; have tS := L.tS; have aS := L.aS; have zS := L.zS; have vS := L.vS; have tF := L.tF; have aF := L.aF; have zF := L.zF; have vF := L.vF; have aE := L.aE; have zE := L.zE
  have S0 : Aside (SWK enc k w0 blk off d w) := S
  have HS0 : Hid _ := hs0
  have HS : Hid _ := hs
  clear S hs0 hs
  unfold rot
  obtain ⟨r, hr⟩ : ∃ r, rotL m (b - a) (m - a) (b - m) d = r := ⟨_, rfl⟩
  rw [hr]
  have HR := Lib.hid hr; clear hr
  go_enter F, Try.ntmps86
  go_wp2_with fail
  go_loopg [10, 11] (b - a) (fun kx s10 s11 wr => ∃ (i j f : Nat) (dk : Array α), s10 = .int .i64 i ∧ s11 = .int .i64 j ∧ 0 < i ∧ 0 < j ∧ i ≤ m ∧ m + j ≤ sz ∧ i + j ≤ f ∧ f ≤ kx ∧ dk.size = sz ∧ Aside (SWK enc k w0 blk off dk wr) ∧ Hid (rotL m f i j dk = r))
  case atStart => exact ⟨m - a, b - m, b - a, d, by congr 1; omega, by congr 1; omega, by omega, by omega, by omega, by omega, by omega, by omega, HS.out, S0, HR⟩
  case round =>
    clear S0 HR
    obtain ⟨i, j, f, dk, rfl, rfl, hi, hj, him, hmj, hij, hkx, hds, S1, heq⟩ := hrel
    obtain ⟨f, rfl⟩ : ∃ f', f = f' + 1 := ⟨f - 1, by omega⟩
    by_cases hne : i = j
    · subst hne
      have ht : (((i : Int)) != (i : Int)) = false := by simp
      have HT := Lib.hid (rotL_stop heq.out)
      clear heq
      go_wp2_with fail
      have c1 : ((m - i : Nat) : Int) = (m : Int) - i := by omega
      rw [← c1]
      clear ht
      subst hds
      refine (swapRange_any L FS enc fv blk off cap (m - i) m i d0 dk w0 wr R HS0.out S1.out (by omega) (by omega) hsz).mono ?_
      rintro e w2 ⟨rfl, S2⟩
      have S3 : Aside _ := S2
      clear S2 S1
      go_wp2_with fail
      go_end0
      exact ⟨rfl, by have h := S3.out; rw [HT.out] at h; exact h⟩
    · have ht : (((i : Int)) != (j : Int)) = true := by simp; omega
      have ht2 : (((i : Int)) == (j : Int)) = false := by simp; omega
      have HT := Lib.hid (rotL_step hne heq.out)
      clear heq
      by_cases hji : j < i
      · have hji' : (j : Int) < i := by omega
        have heq := Lib.hid (HT.out.1 hji); clear HT
        go_wp2_with fail
        have c1 : ((m - i : Nat) : Int) = (m : Int) - i := by omega
        rw [← c1]
        subst hds
        refine (swapRange_any L FS enc fv blk off cap (m - i) m j d0 dk w0 wr R HS0.out S1.out (by omega) (by omega) hsz).mono ?_
        rintro e w2 ⟨rfl, S2⟩
        have S3 : Aside _ := S2
        have hz : Hid ((swapR dk (m - i) m j).size = dk.size) := swapR_size ..
        clear S2 S1
        generalize swapR dk (m - i) m j = d2 at S3 hz heq
        go_wp2_with fail
        go_roundg f
        case measure => omega
        case rel => exact ⟨i - j, j, f, d2, by congr 1; omega, rfl, by omega, by omega, by omega, by omega, by omega, Nat.le_refl _, hz.out, S3, heq⟩
      · have hji' : ¬ (j : Int) < i := by omega
        have heq := Lib.hid (HT.out.2 (by omega)); clear HT
        go_wp2_with fail
        have c1 : ((m - i : Nat) : Int) = (m : Int) - i := by omega
        have c2 : ((m + j - i : Nat) : Int) = (m : Int) + j - i := by omega
        rw [← c1, ← c2]
        subst hds
        refine (swapRange_any L FS enc fv blk off cap (m - i) (m + j - i) i d0 dk w0 wr R HS0.out S1.out (by omega) (by omega) hsz).mono ?_
        rintro e w2 ⟨rfl, S2⟩
        have S3 : Aside _ := S2
        have hz : Hid ((swapR dk (m - i) (m + j - i) i).size = dk.size) := swapR_size ..
        clear S2 S1
        generalize swapR dk (m - i) (m + j - i) i = d2 at S3 hz heq
        go_wp2_with fail
        go_roundg f
        case measure => omega
        case rel => exact ⟨i, j - i, f, d2, rfl, by congr 1; omega, by omega, by omega, by omega, by omega, by omega, Nat.le_refl _, hz.out, S3, heq⟩
end Go.Proofs.Ytgfakkkiejeofaa.Link
