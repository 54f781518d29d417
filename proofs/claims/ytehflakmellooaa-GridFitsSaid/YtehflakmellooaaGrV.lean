/- Grids: the chapter's example. -/
import Derived.Test.YtehflakmellooaaGrU
import Derived.Test.YtehflakmellooaaIsm
namespace Go.Proofs.Ytehflakmellooaa.Ne
open Go.RowKit Go.V Go.Proofs

theorem rightE_cases (S : List Stp) (z : Int) : rightE S z = 0 ∨ rightE S z = 2 := by
  unfold rightE
  split
  · exact .inr rfl
  · split
    · exact .inl rfl
    · exact .inr rfl
theorem right_ok {S : List Stp} {z : Int} (h : rightE S z = 0) : (1 ≤ z ∧ z ≤ 67108864) ∧ ∀ s ∈ S, stpB s = true := by
  unfold rightE at h
  split at h
  · omega
  · next hz =>
    split at h
    · next ha => exact ⟨by omega, List.all_eq_true.1 ha⟩
    · omega
theorem grnew_ok (a : Option Addr) (n cap : Nat) (S : List Stp) (z : Int) (w : World) (hn : n ≤ 200) (h : Sl Stp.cod w a n cap S) (h0 : rightE S z = 0) :
    Calls Try.prog 9 #[.slice a n cap, .int .i64 z] w fun e w' => ∃ (g : Nat) (hs : Hdr) (b : Nat), e = .returned (.tuple #[gP g, .int .i64 0]) ∧ GBox w' g hs z b ∧ Sl Stp.cod w' hs.a hs.n hs.cap S ∧ GMap w' b (idxs S z) ∧ Below w.heap.size w w' :=
  (grnew_any a n cap S z w hn h).mono fun e w' ⟨hb, hc⟩ => by
    rcases hc with ⟨hne, -⟩ | ⟨-, g, hs, b, h1, h2, h3, h4⟩
    · exact absurd h0 hne
    · exact ⟨g, hs, b, h1, h2, h3, h4, hb⟩
theorem grnew_bad (a : Option Addr) (n cap : Nat) (S : List Stp) (z : Int) (w : World) (hn : n ≤ 200) (h : Sl Stp.cod w a n cap S) (h0 : rightE S z = 2) :
    Calls Try.prog 9 #[.slice a n cap, .int .i64 z] w fun e w' => e = .returned (.tuple #[.pointer none, .int .i64 2]) ∧ Below w.heap.size w w' :=
  (grnew_any a n cap S z w hn h).mono fun e w' ⟨hb, hc⟩ => by
    rcases hc with ⟨-, h1⟩ | ⟨h1, -⟩
    · rw [h0] at h1; exact ⟨h1, hb⟩
    · rw [h0] at h1; cases h1

def awS : List Stp := [⟨0, 0⟩, ⟨3, 4⟩]
theorem awS_near : nearL ⟨0, 0⟩ awS 25 9 = [0, 1] := by
  have hg : GoodL ⟨0, 0⟩ awS 25 [⟨0, 0⟩, ⟨1, 25⟩] := by
    refine ⟨by decide, fun f => ?_⟩
    constructor
    · intro hf
      rcases List.mem_cons.1 hf with rfl | hf
      · exact ⟨0, by decide, by decide, by decide⟩
      · rcases List.mem_cons.1 hf with rfl | hf
        · exact ⟨1, by decide, by decide, by decide⟩
        · cases hf
    · rintro ⟨k, hk, rfl, -⟩
      have hk : k < 2 := hk
      have : k = 0 ∨ k = 1 := by omega
      rcases this with rfl | rfl
      · exact List.mem_cons.2 (.inl (by decide))
      · exact List.mem_cons.2 (.inr (List.mem_cons.2 (.inl (by decide))))
  have hs : List.Pairwise ltF [(⟨0, 0⟩ : Fnd), ⟨1, 25⟩] := by
    refine List.pairwise_cons.2 ⟨fun b hb => ?_, List.pairwise_singleton _ _⟩
    rcases List.mem_cons.1 hb with rfl | hb
    · exact .inl (by decide)
    · cases hb
  unfold nearL
  rw [← near_uniq hg hs]
  rfl

set_option maxHeartbeats 4000000 in
set_option maxRecDepth 100000 in
theorem awake14_any (w : World) :
    Calls Try.prog 5 #[] w fun e w' => e = .returned (.bool true) ∧ Below w.heap.size w w' := by
  have HS0 : Hid (Sl Stp.cod (w.alloc (.cells #[.int .i64 0, .int .i64 0, .int .i64 3, .int .i64 4] 38)) (some ⟨w.heap.size, 0, none⟩) 2 2 awS) := sl_new (c := Stp.cod) w _ 38 awS 2 rfl (by unfold maxLen; omega) rfl
  have HB0 : Hid (Below w.heap.size w (w.alloc (.cells #[.int .i64 0, .int .i64 0, .int .i64 3, .int .i64 4] 38))) := (Below.refl _ _).alloc (Nat.le_refl _) _
  have hr0 : rightE awS 2 = 0 := by decide
  have HR0 := Lib.hid hr0
  have HSB := Lib.hid ((right_ok hr0).2)
  have HNB : Hid (nearB 0 0 5 9 = true) := by show _ = _; decide
  clear hr0
  go_enter Try.func5, Try.ntmps5
  go_wp2_with (first
    | (go_at_call 9; go_fit (grnew_ok (some ⟨w.heap.size, 0, none⟩) 2 2 awS 2 _ (by omega) HS0.out HR0.out); rintro e w1 ⟨g, hs, b, rfl, hg1, hs1, hm1, hb1⟩; have HG1 := Lib.hid hg1; have HS1 := Lib.hid hs1; have HM1 := Lib.hid hm1; have HB1 := Lib.hid (HB0.out.trans (hb1.mono HB0.out.size)); clear hg1 hs1 hm1 hb1)
    | (go_at_call 6; go_fit (grnear_any g hs 2 b awS ⟨0, 0⟩ 5 9 _ (by decide) (by decide) HNB.out HSB.out HG1.out HS1.out HM1.out); rintro e w2 ⟨v, rfl, ho2, hb2⟩; have ho2 : V.Own 3 icod w1.heap.size w2 v [0, 1] := (by have e := awS_near; have o := ho2; rw [show ((5 : Int) * 5) = 25 from rfl, show ((9 : Int).toNat) = 9 from rfl, e] at o; exact o); obtain ⟨va, vc, rfl, vs, -⟩ := ho2.slice; have HV2 := Lib.hid vs; have HG2 := Lib.hid (HG1.out.below hb2); have HS2 := Lib.hid (HS1.out.below hb2); have HB2 := Lib.hid (HB1.out.trans (hb2.mono HB1.out.size)); clear ho2 vs hb2)
    | (go_at_call 10; go_fit (isame_any va _ vc [0, 1] (some ⟨w2.heap.size, 0, none⟩) 2 2 [0, 1] _ (HV2.out.below ((Below.refl _ _).alloc (Nat.le_refl _) _)) (sl_new (c := icod) w2 #[.int .i64 0, .int .i64 1] 3 [0, 1] 2 rfl (by unfold maxLen; omega) rfl)); rintro e w3 ⟨rfl, hb3⟩; have HB3 := Lib.hid ((HB2.out.alloc HB2.out.size _).trans (hb3.mono (HB2.out.alloc HB2.out.size _).size)); have HG3 := Lib.hid ((HG2.out.below ((Below.refl _ _).alloc (Nat.le_refl _) _)).below hb3); clear hb3)
    | (go_at_call 7; go_fit (grlen_any g hs 2 b _ HG3.out); rintro e w4 ⟨rfl, rfl⟩; rw [show (hs.n : Int) = 2 from by have := HS2.out.hlen; rw [this]; rfl]))
  go_ret
  exact ⟨rfl, HB3.out⟩
end Go.Proofs.Ytehflakmellooaa.Ne
