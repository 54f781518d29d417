/- Candidates: the chapter's example; the law CandTells: walked. -/
import Derived.Test.YtknbpnkonhniiaaCnI
import Derived.Test.YtknbpnkonhniiaaNfB
namespace Go.Proofs.Ytknbpnkonhniiaa.Ne
open Go.RowKit Go.V Go.Proofs

def awNet : Net := ⟨1, [⟨5, 0⟩, ⟨9, 0⟩], []⟩
def awW : Wgh := ⟨20, 2, 0, 0⟩
def awL : List Smp := [⟨0, 9, 0⟩]
theorem awRow : rowE awNet awW ⟨0, 9, 0⟩ = [⟨1, 0⟩, ⟨0, 16⟩] := by
  have hg : GoodL ⟨9, 0⟩ awNet.stops 400 [⟨1, 0⟩, ⟨0, 16⟩] := by
    refine ⟨by decide, fun f => ?_⟩
    constructor
    · intro hf
      rcases List.mem_cons.1 hf with rfl | hf
      · exact ⟨1, by decide, by decide, by decide⟩
      · rcases List.mem_cons.1 hf with rfl | hf
        · exact ⟨0, by decide, by decide, by decide⟩
        · cases hf
    · rintro ⟨k, hk, rfl, -⟩
      have hk : k < 2 := hk
      have : k = 0 ∨ k = 1 := by omega
      rcases this with rfl | rfl
      · exact List.mem_cons.2 (.inr (List.mem_cons.2 (.inl (by decide))))
      · exact List.mem_cons.2 (.inl (by decide))
  have hs : List.Pairwise ltF [(⟨1, 0⟩ : Fnd), ⟨0, 16⟩] := by
    refine List.pairwise_cons.2 ⟨fun b hb => ?_, List.pairwise_singleton _ _⟩
    rcases List.mem_cons.1 hb with rfl | hb
    · exact .inl (by decide)
    · cases hb
  unfold rowE ptsE
  have e := near_uniq hg hs
  show (nearF ⟨9, 0⟩ awNet.stops 400).take 2 = _
  rw [← e]
  rfl
theorem awErr : allErr awNet awW awL = 0 := by
  refine allErr_ok (by decide) (by decide) (by decide) (by decide) ?_
  intro s hs
  have : s = ⟨0, 9, 0⟩ := by
    rcases List.mem_cons.1 hs with e | e
    · exact e
    · cases e
  subst this
  rw [awRow]
  decide

set_option maxHeartbeats 4000000 in
set_option maxRecDepth 100000 in
theorem awake21_any (w : World) :
    Calls Try.prog 6 #[] w fun e w' => e = .returned (.bool true) ∧ Below w.heap.size w w' := by
  have HS0 : Hid (Sl Stp.cod ((w.alloc (.cells #[.int .i64 5, .int .i64 0, .int .i64 9, .int .i64 0] 53)).alloc (.cells #[.int .i64 0, .int .i64 9, .int .i64 0] 42)) (some ⟨w.heap.size, 0, none⟩) 2 2 awNet.stops) := (sl_new (c := Stp.cod) w _ 53 awNet.stops 2 rfl (by unfold maxLen; omega) rfl).below ((Below.refl _ _).alloc (Nat.le_refl _) _)
  have HL0 : Hid (Sl Smp.cod ((w.alloc (.cells #[.int .i64 5, .int .i64 0, .int .i64 9, .int .i64 0] 53)).alloc (.cells #[.int .i64 0, .int .i64 9, .int .i64 0] 42)) (some ⟨w.heap.size + 1, 0, none⟩) 1 1 awL) := by
    have q := sl_new (c := Smp.cod) (w.alloc (.cells #[.int .i64 5, .int .i64 0, .int .i64 9, .int .i64 0] 53)) #[.int .i64 0, .int .i64 9, .int .i64 0] 42 awL 1 rfl (by unfold maxLen; omega) rfl
    rw [World.size_alloc] at q
    exact q
  have HB0 : Hid (Below w.heap.size w ((w.alloc (.cells #[.int .i64 5, .int .i64 0, .int .i64 9, .int .i64 0] 53)).alloc (.cells #[.int .i64 0, .int .i64 9, .int .i64 0] 42))) := ((Below.refl _ _).alloc (Nat.le_refl _) _).alloc (by simp) _
  have hnet : ∀ W, Sl Stp.cod W (some ⟨w.heap.size, 0, none⟩) 2 2 awNet.stops → NetIn W awNet ⟨some ⟨w.heap.size, 0, none⟩, 2, 2⟩ ⟨none, 0, 0⟩ := fun W h => ⟨h, ⟨rfl, Nat.le_refl _, Nat.zero_le _, fun _ => ⟨rfl, rfl⟩, fun d hd => nomatch hd⟩⟩
  have HC0 := Lib.hid (call_any awNet ⟨some ⟨w.heap.size, 0, none⟩, 2, 2⟩ ⟨none, 0, 0⟩ awW (some ⟨w.heap.size + 1, 0, none⟩) 1 1 awL _ ⟨show (2 : Nat) ≤ 200 by omega, Nat.zero_le _⟩ (by omega) (hnet _ HS0.out) HL0.out)
  clear hnet
  go_enter Try.func6, Try.ntmps6
  go_wp2_with (first
    | (go_at_call 8; refine HC0.out.mono ?_; rintro e w1 ⟨v, gh, rfl, ho, hb⟩; rw [awErr]; rw [if_pos awErr, show awL.map (rowE awNet awW) = [[⟨1, 0⟩, ⟨0, 16⟩]] from by unfold awL; rw [List.map_cons, List.map_nil, awRow]] at ho; obtain ⟨va, vc, rfl, hsls⟩ := ho.sls; obtain ⟨pb, po, g, xs, rfl, hpb, hg, hx, p0, hsl⟩ := hsls.at (i := 0) (by decide); obtain rfl := Option.some.inj hx; obtain ⟨ga, gn, gc⟩ := g; (have hgn : gn = 2 := hsl.hlen); subst hgn; rw [Nat.add_zero] at p0; have HSL := Lib.hid hsl; have HB1 := Lib.hid (HB0.out.trans (hb.mono HB0.out.size)); clear ho hsls hsl hb hx hg)
    | (go_at_call 12; go_fit (psame_true ga 2 gc [⟨1, 0⟩, ⟨0, 16⟩] (some ⟨w1.heap.size, 0, none⟩) 2 _ (HSL.out.below ((Below.refl _ _).alloc (Nat.le_refl _) _)) (sl_new (c := Fnd.cod) w1 #[.int .i64 1, .int .i64 0, .int .i64 0, .int .i64 16] 56 [⟨1, 0⟩, ⟨0, 16⟩] 2 rfl (by unfold maxLen; omega) rfl)); rintro e w2 ⟨rfl, hb2⟩; have HB2 := Lib.hid ((HB1.out.alloc HB1.out.size _).trans (hb2.mono (HB1.out.alloc HB1.out.size _).size)); clear hb2))
  go_ret
  exact ⟨rfl, HB2.out⟩
end Go.Proofs.Ytknbpnkonhniiaa.Ne
