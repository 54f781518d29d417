/- Candidates: the document's points: walked. -/
import Derived.Test.YtknbpnkonhniiaaCnA
import Derived.Test.YtknbpnkonhniiaaGrU
namespace Go.Proofs.Ytknbpnkonhniiaa.Ne
open Go.RowKit Go.V Go.Proofs

theorem sqE_comm (p q : Stp) : sqE p q = sqE q p := by
  unfold sqE
  have e1 : (p.x - q.x) * (p.x - q.x) = (q.x - p.x) * (q.x - p.x) := by rw [← Int.neg_mul_neg]; congr 1 <;> omega
  have e2 : (p.y - q.y) * (p.y - q.y) = (q.y - p.y) * (q.y - p.y) := by rw [← Int.neg_mul_neg]; congr 1 <;> omega
  rw [e1, e2]
  by_cases h : stpB p = true ∧ stpB q = true
  · rw [if_pos h, if_pos ⟨h.2, h.1⟩]
  · rw [if_neg h, if_neg (fun e => h ⟨e.2, e.1⟩)]
theorem infoPt : (Try.prog.info? 56).map (fun i => (i.zero, i.size, i.bytes)) = some (some (.agg #[.int .i64 0, .int .i64 0]), 2, 16) := by kernel_rfl
theorem eltPt : Elt Try.prog 39 56 Fnd.cod 16 := Elt.of Try.underlying39 infoPt rfl (by decide)
abbrev Smp.pt (s : Smp) : Stp := ⟨s.x, s.y⟩
/-- A sample's points. -/
def ptsE (S : List Stp) (s : Smp) (reach : Int) (most : Nat) : List Fnd := (nearF s.pt S (reach * reach)).take most
theorem pts_nums (S : List Stp) (s : Smp) (reach : Int) (most : Nat) : (nearL s.pt S (reach * reach) most).map (fnd s.pt S) = ptsE S s reach most := by
  unfold nearL ptsE
  rw [List.map_map]
  refine (List.map_congr_left (g := id) fun f hf => ?_).trans (List.map_id _)
  obtain ⟨k, -, rfl, -⟩ := ((near_good s.pt S (reach * reach)).2 f).1 (List.mem_of_mem_take hf)
  rfl
theorem pts_len (S : List Stp) (s : Smp) (reach : Int) (most : Nat) : (ptsE S s reach most).length ≤ S.length := by
  unfold ptsE
  rw [List.length_take]
  have := near_len s.pt S (reach * reach)
  omega

set_option maxHeartbeats 1000000 in
theorem psame_true (a1 : Option Addr) (n1 cap1 : Nat) (xs : List Fnd) (a2 : Option Addr) (cap2 : Nat) (w : World) (h1 : Sl Fnd.cod w a1 n1 cap1 xs) (h2 : Sl Fnd.cod w a2 n1 cap2 xs) :
    Calls Try.prog 12 #[.slice a1 n1 cap1, .slice a2 n1 cap2] w fun e w' => e = .returned (.bool true) ∧ Below w.heap.size w w' := by
  have hm : n1 ≤ 9223372036854775807 := by have := h1.hcap; have := h1.hmax; unfold maxLen at this; omega
  have H1 := Lib.hid h1
  have H2 := Lib.hid h2
  clear h1 h2
  go_enter Try.func12, Try.ntmps12
  go_wp2
  go_loopw [5] (fun i wr => ∃ (k : Nat), k ≤ n1 ∧ i = .int .i64 k ∧ Hid (Below w.heap.size w wr)) (fun i _ => n1 - (intOf i).toNat)
  case atStart => exact ⟨0, by omega, rfl, Below.refl _ _⟩
  case round =>
    obtain ⟨k, hk, rfl, hb⟩ := hrel
    by_cases hlt : k < n1
    · obtain ⟨b, off, r, rfl, -, hr, c0, c1⟩ := fnd_at (H1.out.below hb.out) hlt
      obtain ⟨b', off', r', rfl, -, hr', c0', c1'⟩ := fnd_at (H2.out.below hb.out) hlt
      rw [hr] at hr'
      cases hr'
      have hltz : (k : Int) < n1 := by omega
      clear hr
      go_wp2_with fail
      go_region_held3 (fun w' => w'.cell? ⟨b, off + k * 2, none⟩ = some (.int .i64 r.stop) ∧ w'.cell? ⟨b, off + k * 2 + 1, none⟩ = some (.int .i64 r.sq) ∧ w'.cell? ⟨b', off' + k * 2, none⟩ = some (.int .i64 r.stop) ∧ w'.cell? ⟨b', off' + k * 2 + 1, none⟩ = some (.int .i64 r.sq)) (go_keep) (fail)
      all_goals
        go_wp2_with fail
        go_roundw
        case rel => exact ⟨k + 1, by omega, by go_num, Below.drew hb.out⟩
        case measure => simp [intOf]; omega
    · have hkn : k = n1 := by omega
      subst hkn
      go_wp2
      go_ret
      exact ⟨rfl, hb.out⟩
end Go.Proofs.Ytknbpnkonhniiaa.Ne
