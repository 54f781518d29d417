/- Candidates: a sample's points, as an iterator tells them: walked. -/
import Derived.Test.YtknbpnkonhniiaaCnA
import Derived.Test.YtknbpnkonhniiaaCnE
import Derived.Test.YtknbpnkonhniiaaRange
import Derived.Stop.RegionWithIn
namespace Go.Proofs.Ytknbpnkonhniiaa.Ne
open Go.RowKit Go.V Go.Shelf Go.Proofs

attribute [local go_sem] Oper.semAt_some

def encP (f : Fnd) : Array Value := #[.agg #[.int .i64 f.stop, .int .i64 f.sq]]
theorem cell_of_heap {w w' : World} {b : Nat} (h : w'.heap[b]? = w.heap[b]?) (o : Nat) : w'.cell? ⟨b, o, none⟩ = w.cell? ⟨b, o, none⟩ := by simp [World.cell?, h]

set_option maxRecDepth 100000 in
set_option maxHeartbeats 4000000 in
theorem pts1_in (m lk Bl Bs Bx Ba : Nat) (la : Option Addr) (ln lc : Nat) (L : List Int) (sa : Option Addr) (sn sc : Nat) (S : List Stp) (s : Smp) (J : List Fnd → World → Prop) (W0 : World) (h1m : 1 ≤ m) (hln : ln ≤ 1000000)
    (hin : ∀ i ∈ L, ∃ j : Nat, i = (j : Int) ∧ j < S.length)
    (hbl : W0.heap[Bl]? = some (.cells #[.slice la ln lc] 44 (0, 0))) (hbs : W0.heap[Bs]? = some (.cells #[.slice sa sn sc] 22 (0, 0))) (hbx : W0.heap[Bx]? = some (.cells #[.int .i64 s.t, .int .i64 s.x, .int .i64 s.y] 42 (0, 0)))
    (hne : Bl ≠ Ba ∧ Bl ≠ lk ∧ Bs ≠ Ba ∧ Bs ≠ lk ∧ Bx ≠ Ba ∧ Bx ≠ lk) (hL : Sl icod W0 la ln lc L) (hS : Sl Stp.cod W0 sa sn sc S)
    (hla : ∀ d, la = some d → 0 < lc → d.block ≠ Ba ∧ d.block ≠ lk) (hsa : ∀ d, sa = some d → 0 < sc → d.block ≠ Ba ∧ d.block ≠ lk)
    (hk : ∀ pre W, J pre W → W0.heap.size ≤ W.heap.size ∧ ∀ k, k < W0.heap.size → k ≠ Ba → k ≠ lk → W.heap[k]? = W0.heap[k]?)
    (hJ : ∀ pre W W', J pre W → Below W.heap.size W W' → J pre W')
    (hY : ∀ pre x rest W, L.map (fnd s.pt S) = pre ++ x :: rest → J pre W → YieldAt Fence.wide (m - 1) Try.prog lk (encP x) W fun e W' => e = .returned (.bool true) ∧ J (pre ++ [x]) W')
    (h0 : J [] W0) :
    CallsIn Fence.wide m Try.prog 41 #[.func (.yield lk) #[] #[], .pointer (some ⟨Bl, 0, none⟩), .pointer (some ⟨Bs, 0, none⟩), .pointer (some ⟨Bx, 0, none⟩)] W0 fun e W' => (∃ v, e = .returned v) ∧ J (L.map (fnd s.pt S)) W' := by
  have hN : Hid (ln = L.length) := hL.hlen
  have hSN : Hid (sn = S.length) := hS.hlen
  refine callsIn_of_wp Try.func41 rfl trivial ?_ rfl
  simp only [Try.ntmps41, List.size_toArray, List.length_cons, List.length_nil, Nat.reduceAdd, Nat.reduceSub, Array.replicate_succ, Array.replicate_zero, List.push_toArray, List.append_toArray, List.nil_append, List.cons_append]
  have hfn : Fence.wide.fn 42 := trivial
  have hll := box_lt hbl
  have hls := box_lt hbs
  have hlx := box_lt hbx
  have n2 : W0.cell? ⟨Bl, 0, none⟩ = some (.slice la ln lc) := (box_cell hbl 0).1
  have HBS := Lib.hid hbs
  have HBX := Lib.hid hbx
  have HL := Lib.hid hL
  have HS := Lib.hid hS
  have HIN := Lib.hid hin
  clear hbs hbx hL hS hin hbl
  gi_wp2
  gi_loopw [9] (fun i wr => ∃ k : Nat, i = .int .i64 k ∧ k ≤ ln ∧ Hid (J ((L.take k).map (fnd s.pt S)) wr)) (fun i _ => ln - (intOf i).toNat)
  case atStart => exact ⟨0, rfl, by omega, h0⟩
  case round =>
    obtain ⟨k, rfl, hkl, hJk⟩ := hrel
    obtain ⟨hsz, hkeep⟩ := hk _ _ hJk.out
    have HKP := Lib.hid hkeep
    by_cases hlt : k < ln
    · obtain ⟨b, off, i, e1, hbb, hi, c0⟩ := int_at HL.out hlt
      subst e1
      obtain ⟨s1, s2⟩ := hla _ rfl (by have := HL.out.hcap; omega)
      obtain ⟨j, hij, hj⟩ := HIN.out i (List.mem_of_getElem? hi)
      subst hij
      obtain ⟨bs, offs, r, e2, hbs, hr, d0, d1⟩ := stp_at HS.out (i := j) (by rw [hSN.out]; exact hj)
      subst e2
      obtain ⟨s3, s4⟩ := hsa _ rfl (by have := HS.out.hcap; have := hSN.out; omega)
      have q0 : wr.cell? ⟨b, off + k, none⟩ = some (.int .i64 (j : Int)) := by rw [cell_of_heap (hkeep b hbb s1 s2)]; exact c0
      have q1 : wr.cell? ⟨bs, offs + j * 2, none⟩ = some (.int .i64 r.x) := by rw [cell_of_heap (hkeep bs hbs s3 s4)]; exact d0
      have q2 : wr.cell? ⟨bs, offs + j * 2 + 1, none⟩ = some (.int .i64 r.y) := by rw [cell_of_heap (hkeep bs hbs s3 s4)]; exact d1
      have q3 : wr.cell? ⟨Bs, 0, none⟩ = some (.slice (some ⟨bs, offs, none⟩) sn sc) := by rw [cell_of_heap (hkeep Bs hls hne.2.2.1 hne.2.2.2.1)]; exact (box_cell HBS.out 0).1
      have q4 : wr.cell? ⟨Bx, 1, none⟩ = some (.int .i64 s.x) := by rw [cell_of_heap (hkeep Bx hlx hne.2.2.2.2.1 hne.2.2.2.2.2)]; exact (box_cell HBX.out 1).1
      have q5 : wr.cell? ⟨Bx, 2, none⟩ = some (.int .i64 s.y) := by rw [cell_of_heap (hkeep Bx hlx hne.2.2.2.2.1 hne.2.2.2.2.2)]; exact (box_cell HBX.out 2).1
      have HI := Lib.hid hi
      have hkI : (k : Int) < (ln : Int) := by omega
      have hjI : (j : Int) < (sn : Int) := by rw [hSN.out]; omega
      obtain ⟨q, hq⟩ : ∃ q, sqE r s.pt = q := ⟨_, rfl⟩
      have HQ := Lib.hid hq
      have HF : Hid (fnd s.pt S (j : Int) = ⟨j, q⟩) := by
        show _ = _
        unfold fnd
        rw [Int.toNat_natCast, List.getD_eq_getElem?_getD, hr, ← hq, sqE_comm]; rfl
      have HSP : Hid (∃ rest, L.map (fnd s.pt S) = (L.take k).map (fnd s.pt S) ++ ⟨j, q⟩ :: rest) := by
        refine ⟨(L.drop (k + 1)).map (fnd s.pt S), ?_⟩
        rw [← HF.out, ← List.map_cons, ← List.map_append, ← drop_at HI.out, List.take_append_drop]
      clear c0 d0 d1 hkeep hi hr hq
      gi_wp2
      gi_region_with (first | (gi_at_call 42; refine (callsIn_wide.2 (gsq_any r s.pt _)).mono ?_; rintro e w1 ⟨rfl, hb1⟩; rw [HQ.out]; obtain ⟨fn, tmps, assign, body, hy, hR⟩ := hY _ _ _ w1 (Classical.choose_spec HSP.out) (hJ _ _ _ hJk.out ((Below.drew (Below.refl _ _)).trans hb1)); dsimp only [encP] at hy; clear hb1) | (refine hR.mono ?_; rintro e W3 ⟨rfl, hJ3⟩; have HJ3 := Lib.hid hJ3; clear hJ3 hR hy))
      all_goals
        gi_wp2
        go_roundw
        case rel => exact ⟨k + 1, by go_num, by omega, by show J _ _; rw [take_at HI.out, List.map_append, List.map_cons, List.map_nil, HF.out]; exact HJ3.out⟩
        case measure => simp [intOf]; omega
    · have hkk : k = ln := by omega
      subst hkk
      have HT : Hid (L.take k = L) := by show _ = _; rw [List.take_of_length_le (by rw [hN.out]; exact Nat.le_refl _)]
      gi_wp2
      go_end0
      exact ⟨⟨_, rfl⟩, by have := hJk.out; rw [HT.out] at this; exact this⟩

theorem points_any (la : Option Addr) (ln lc : Nat) (sa : Option Addr) (sn sc : Nat) (s : Smp) (w : World) : Calls Try.prog 29 #[.slice sa sn sc, .slice la ln lc, s.val] w fun e w' => e = .returned (.func (.func 41) #[] #[.pointer (some ⟨w.heap.size + 1, 0, none⟩), .pointer (some ⟨w.heap.size, 0, none⟩), .pointer (some ⟨w.heap.size + 2, 0, none⟩)]) ∧ w' = ((w.alloc (.cells #[.slice sa sn sc] 22)).alloc (.cells #[.slice la ln lc] 44)).alloc (.cells #[.int .i64 s.t, .int .i64 s.x, .int .i64 s.y] 42) := by
  go_enter Try.func29, Try.ntmps29
  go_wp2
  go_ret
  exact ⟨by simp, rfl⟩
end Go.Proofs.Ytknbpnkonhniiaa.Ne
