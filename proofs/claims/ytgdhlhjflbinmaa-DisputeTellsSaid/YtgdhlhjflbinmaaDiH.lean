/- Disputes: rides without one, walked. -/
import Derived.Test.YtgdhlhjflbinmaaDiE
import Derived.Test.YtgdhlhjflbinmaaDiF
import Derived.Deep.CutRange
import Derived.Deep.RegionLaw
namespace Go.Proofs.Ytgdhlhjflbinmaa
open Go.RowKit Go.V Go.Sort Go.Shelf Go.Proofs Go.Maps

set_option maxHeartbeats 4000000 in
set_option maxRecDepth 100000 in
theorem remove_any (a : Option Addr) (n cap : Nat) (xs : List Ride) (t : Int) (w : World) (hn : n ≤ 100000) (hok : ∀ r ∈ xs, Ride.ok r) (h : Sl Ride.cod w a n cap xs) :
    Calls Try.prog 8 #[.slice a n cap, .int .i64 t] w fun e w' => ∃ v, e = .returned (.tuple #[v, .int .i64 (findE xs t)]) ∧ V.Own 29 Ride.cod w.heap.size w' v (remR xs t) ∧ Below w.heap.size w w' := by
  obtain ⟨F, hF⟩ : ∃ F, findV xs t = F := ⟨_, rfl⟩
  obtain ⟨E, hE⟩ : ∃ E, findE xs t = E := ⟨_, rfl⟩
  have HF : Hid (findV xs t = F ∧ findE xs t = E) := ⟨hF, hE⟩
  by_cases hne : E = 0
  case neg =>
    have e2 : remR xs t = [] := by unfold remR; rw [if_neg (by rw [hE]; exact hne)]
    have e3 : (E == 0) = false := by simp; exact hne
    have HE2 := Lib.hid e2
    rw [hE]
    clear hF hE e2
    go_enter Try.func8, Try.ntmps8
    go_wp2_with (go_at_call 20; refine (find_any a n cap xs t _ (by omega) hok h).mono ?_; rintro e w1 ⟨rfl, hb1⟩; rw [HF.out.1, HF.out.2]; have HB1 := Lib.hid hb1; clear hb1)
    go_ret2
    exact ⟨_, rfl, by rw [HE2.out]; exact V.Own.nil, HB1.out⟩
  case pos =>
    subst hne
    have hN := h.hlen
    obtain ⟨k, r, hk1, hk2, hk3, hk4, hnd⟩ : ∃ (k : Nat) (r : Ride), F = k ∧ k < xs.length ∧ xs[k]? = some r ∧ r.t = t ∧ (xs.map Ride.t).Nodup := by
      have hv : F = findI xs t := by rw [← hF]; unfold findV; rw [if_pos hE]
      have hneg : ¬ findI xs t < 0 ∧ RightP xs := by
        unfold findE at hE
        by_cases hp : RightP xs
        · rw [if_pos hp] at hE
          by_cases hh : findI xs t < 0
          · rw [if_pos hh] at hE; cases hE
          · exact ⟨hh, hp⟩
        · rw [if_neg hp] at hE; cases hE
      rcases findI_cases xs t with ⟨h1, -⟩ | ⟨k, r, h1, h2, h3, h4, -⟩
      · omega
      · exact ⟨k, r, by omega, h2, h3, h4, hneg.2.2.2⟩
    subst hk1
    have e2 : remR xs t = xs.take k ++ xs.drop (k + 1) := by unfold remR; rw [if_pos hE]; exact rem_filter hnd hk3 hk4
    have HE2 := Lib.hid e2
    have hkn : k + 1 ≤ n := by omega
    have r0 : IntKind.i64.wrap ((k : Int) + 1) = (k : Int) + 1 := by rw [IntKind.wrap_i64]; omega
    have tn : ((k : Int) + 1).toNat = k + 1 := by omega
    have b0 : 0 ≤ (k : Int) + 1 ∧ (k : Int) + 1 ≤ (n : Int) := by omega
    have b1 : (k : Int) ≤ (cap : Int) := by have := h.hcap; omega
    have S1 := Lib.hid (h.upto (j := k) (by omega))
    have S2 := Lib.hid (rsl_from h hkn)
    obtain ⟨a2, ha2⟩ : ∃ a2, (if cap = k + 1 then a else Option.map (fun x => x.add ((k + 1) * 4)) a) = a2 := ⟨_, rfl⟩
    obtain ⟨n2, hn2⟩ : ∃ n2, n - (k + 1) = n2 := ⟨_, rfl⟩
    obtain ⟨c2, hc2⟩ : ∃ c2, cap - (k + 1) = c2 := ⟨_, rfl⟩
    rw [show (if cap = k + 1 then a else a.map (·.add ((k + 1) * Ride.cod.k))) = a2 from ha2, hn2, hc2] at S2
    have hn2' : n2 ≤ 100000 := by omega
    rw [hE]
    clear hF hE e2 hk3 hk4 hnd hk2 hN
    go_enter Try.func8, Try.ntmps8
    go_upto_region 4 with (go_at_call 20; refine (find_any a n cap xs t _ (by omega) hok h).mono ?_; rintro e w1 ⟨rfl, hb1⟩; rw [HF.out.1, HF.out.2]; have HB1 := Lib.hid hb1; clear hb1)
    go_cut [4, 5] (fun u v wx => v = .int .i64 0 ∧ Hid (V.Own 29 Ride.cod w.heap.size wx u (xs.take k ++ xs.drop (k + 1))) ∧ Hid (Below w.heap.size w wx))
    case first =>
      have X0 : ∀ W : World, (W.alloc (.cells #[.slice a k cap, .slice a2 n2 c2] 27)).heap[W.heap.size]? = some (.cells #[.slice a k cap, .slice a2 n2 c2] 27 (0, 0)) := fun W => box_new W _
      go_region_law (go_simp; go_at_call 24; refine (concat_any w1.heap.size a k cap (xs.take k) a2 n2 c2 (xs.drop (k + 1)) _ (by omega) hn2' (by first | exact X0 w1 | exact X0 w1.drew) (by first | exact S1.out.below (Below.drew (HB1.out.alloc HB1.out.size _)) | exact S1.out.below (HB1.out.alloc HB1.out.size _) | exact S1.out.below ((Below.drew HB1.out).alloc HB1.out.size _)) (by first | exact S2.out.below (Below.drew (HB1.out.alloc HB1.out.size _)) | exact S2.out.below (HB1.out.alloc HB1.out.size _) | exact S2.out.below ((Below.drew HB1.out).alloc HB1.out.size _))).mono ?_; rintro e w6 ⟨v, rfl, ho, hb6⟩)
      all_goals
        go_wp2_with fail
        go_meet
        have hz := HB1.out.size
        exact ⟨rfl, ho.lower (by simp; omega), by first | exact (Below.drew (HB1.out.alloc hz _)).trans (hb6.mono (by simp; omega)) | exact (HB1.out.alloc hz _).trans (hb6.mono (by simp; omega)) | exact ((Below.drew HB1.out).alloc hz _).trans (hb6.mono (by simp; omega))⟩
    obtain ⟨rfl, hO, hB⟩ := hcut
    go_wp2_with fail
    go_ret2
    exact ⟨_, rfl, by rw [HE2.out]; exact hO.out, hB.out⟩
end Go.Proofs.Ytgdhlhjflbinmaa
