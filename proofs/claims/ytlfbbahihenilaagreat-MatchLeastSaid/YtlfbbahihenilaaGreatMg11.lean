/- Candidates: the document's points: walked. -/
/- A range over a function, where the iterator is known: the record is handed through its walk. -/
/- Candidates: a sample's points, as an iterator tells them: walked. -/
/- Ways: legs, as an iterator tells them: walked. -/
import Derived.Test.YtlfbbahihenilaaGreatMg02
import Derived.Test.YtlfbbahihenilaaGreatMg10
import Derived.RangeFuncNested
import Derived.RangeFuncBound
import Derived.RangeFuncCalls
import Derived.RangeFuncLeaves
import Derived.Shelf.Abstract
import Derived.Shelf.RegionOpen
import Derived.WalkKit
import Derived.OwnWalkIn
import Derived.TacticsInMore
import Derived.LoopNIn
import Derived.LoopIn
import Derived.Test.YtlfbbahihenilaaGreatMg00
import Derived.Stop.RegionWithIn
import Derived.Test.YtlfbbahihenilaaGreatMg05
import Derived.Deep.RegionHeld3
namespace Go.Proofs.YtlfbbahihenilaaGreat.Ne
open Go.RowKit Go.V Go.Proofs

theorem sqE_comm (p q : Stp) : sqG p q = sqG q p := by
  unfold sqG
  have e1 : (p.x - q.x) * (p.x - q.x) = (q.x - p.x) * (q.x - p.x) := by rw [← Int.neg_mul_neg]; congr 1 <;> omega
  have e2 : (p.y - q.y) * (p.y - q.y) = (q.y - p.y) * (q.y - p.y) := by rw [← Int.neg_mul_neg]; congr 1 <;> omega
  rw [e1, e2]
  by_cases h : stpB p = true ∧ stpB q = true
  · rw [if_pos h, if_pos ⟨h.2, h.1⟩]
  · rw [if_neg h, if_neg (fun e => h ⟨e.2, e.1⟩)]
theorem infoPt : (Tryz.prog.info? 141).map (fun i => (i.zero, i.size, i.bytes)) = some (some (.agg #[.int .i64 0, .int .i64 0]), 2, 16) := by kernel_rfl
theorem eltPt : Elt Tryz.prog 110 141 Fnd.cod 16 := Elt.of Tryz.underlying110 infoPt rfl (by decide)
abbrev Smp.pt (s : Smp) : Stp := ⟨s.x, s.y⟩
/-- A sample's points. -/
def ptsE (S : List Stp) (s : Smp) (reach : Int) (most : Nat) : List Fnd := (nearF s.pt S (reach * reach)).take most
theorem pts_nums (S : List Stp) (s : Smp) (reach : Int) (most : Nat) : (nearL s.pt S (reach * reach) most).map (fnd s.pt S) = ptsE S s reach most := by
  unfold nearL ptsE
  rw [List.map_map]
  refine (List.map_congr_left (g := id) fun f hf => ?_).trans (List.map_id _)
  obtain ⟨k, -, rfl, -⟩ := ((near_good s.pt S (reach * reach)).2 f).1 (List.mem_of_mem_take hf)
  rfl
theorem pts_len (S : List Stp) (s : Smp) (reach : Int) (most : Nat) : (ptsE S s reach most).length ≤ S.length := by
  unfold ptsE
  rw [List.length_take]
  have := near_len s.pt S (reach * reach)
  omega

end Go.Proofs.YtlfbbahihenilaaGreat.Ne

namespace Go.V
open Go.RowKit Go.Shelf

/-- The loop's record, as it stands between two rounds, in a round, behind a break. -/
def Lp (fn : FuncId) (tmps : Array Value) (ps : Array Tmp) (assign body : Code) (D : Nat) (st : LoopState) (pe : Option Code) : Obj := .loop { state := st, pending := pe, fn := fn, tmps := tmps, params := ps, assign := assign, body := body, defers := D }

variable {P : Program} {n m : Nat}

/-- One round: the assignments, the body, at the record as it is kept. -/
theorem yield_here {l D : Nat} {fn : FuncId} {tmps : Array Value} {ps : Array Tmp} {assign body : Code} {args : Array Value} {W : World} {R : Ending → World → Prop}
    (hl : W.heap[l]? = some (Lp fn tmps ps assign body D .ready none)) (hs : args.size = ps.size)
    (h : assign.wpIn (Fence.wide.inRound l) m P (Exit.then (fun a1 W1 => W1.heap[l]? = some (Lp fn tmps ps assign body D .ready none) ∧
      body.wpIn (Fence.wide.inRound l) m P (fun e _ W3 => W3.heap[l]? = some (Lp fn tmps ps assign body D .busy none) ∧ match e with
        | .normal => R (.returned (.bool true)) (W3.putObj l (Lp fn tmps ps assign body D .ready none))
        | .exit id => R (.returned (.bool false)) (W3.putObj l (Lp fn tmps ps assign body D .done (some (.exit id))))
        | _ => False) a1 (W1.putObj l (Lp fn tmps ps assign body D .busy none))) (fun _ _ _ => False))
      { tmps := (ps.zip args).foldl (fun t (p, v) => t.setIfInBounds p v) tmps, defers := [] } W) :
    YieldAt Fence.wide m P l args W R := by
  refine ⟨fn, _, assign, body, run_yield hl hs, roundIn_of_wpIn trivial (wpIn_mono h ?_)⟩
  intro e a1 W1 hp
  cases e with
  | normal =>
    obtain ⟨h1, h2⟩ := hp
    refine ⟨_, run_beginRound h1 rfl, wpIn_mono h2 ?_⟩
    intro e a3 W3 hq
    obtain ⟨q1, q2⟩ := hq
    cases e with
    | normal => exact ⟨_, _, run_endRound none q1, q2⟩
    | exit id => exact ⟨_, _, run_endRound (some (.exit id)) q1, q2⟩
    | _ => exact q2.elim
  | _ => exact hp.elim

theorem yield_named {l D : Nat} {fn : FuncId} {tmps : Array Value} {ps : Array Tmp} {assign body : Code} {args : Array Value} {W : World} {R : Ending → World → Prop} {L : LoopState → Option Code → Obj} (hL : L = Lp fn tmps ps assign body D)
    (hl : W.heap[l]? = some (L .ready none)) (hs : args.size = ps.size)
    (h : assign.wpIn (Fence.wide.inRound l) m P (Exit.then (fun a1 W1 => W1.heap[l]? = some (L .ready none) ∧
      body.wpIn (Fence.wide.inRound l) m P (fun e _ W3 => W3.heap[l]? = some (L .busy none) ∧ match e with
        | .normal => R (.returned (.bool true)) (W3.putObj l (L .ready none))
        | .exit id => R (.returned (.bool false)) (W3.putObj l (L .done (some (.exit id))))
        | _ => False) a1 (W1.putObj l (L .busy none))) (fun _ _ _ => False))
      { tmps := (ps.zip args).foldl (fun t (p, v) => t.setIfInBounds p v) tmps, defers := [] } W) :
    YieldAt Fence.wide m P l args W R := by
  subst hL
  exact yield_here hl hs h

/-- The statement: the record is laid, the iterator is run, the jump is taken up. -/
theorem range_here {g : Operand} {ps : Array Tmp} {assign body : Code} {Q : Exit → Act → World → Prop} {a : Act} {w : World} (h1 : 1 ≤ n) {gf : Nat} {lb : Array Value}
    (hg : a.eval g = .func (.func gf) #[] lb) (eg : ∀ args w, (callFunc gf args).run P w = .ok (.enter gf args) w)
    (h : ∀ fn : FuncId, CallsIn Fence.wide (n - 1) P gf (#[.func (.yield (w.heap.size + 1)) #[] #[]] ++ lb) ((w.alloc (.deferred (some []))).alloc (Lp fn a.tmps ps assign body w.heap.size .ready none)) fun e W2 => (∃ v, e = .returned v) ∧
      ((W2.heap[w.heap.size + 1]? = some (Lp fn a.tmps ps assign body w.heap.size .ready none) ∧ Q .normal { a with defers := { target := .collected w.heap.size, args := #[] } :: a.defers } (W2.putObj (w.heap.size + 1) (Lp fn a.tmps ps assign body w.heap.size .exhausted none))) ∨
       (∃ c, W2.heap[w.heap.size + 1]? = some (Lp fn a.tmps ps assign body w.heap.size .done (some c)) ∧ c.wpIn Fence.wide n P Q { a with defers := { target := .collected w.heap.size, args := #[] } :: a.defers } (W2.putObj (w.heap.size + 1) (Lp fn a.tmps ps assign body w.heap.size .exhausted (some c)))))) :
    (Code.rangeFunc g ps assign body).wpIn Fence.wide n P Q a w := by
  refine wpIn_rangeFunc fun fn _ => ?_
  have hr1 := run_enterLoop_outer (P := P) (w := w) fn a.tmps ps assign body
  have hr2 : (resolve a.eval (rangeCall g (w.heap.size + 1)) 0).run P ((w.alloc (.deferred (some []))).alloc (Lp fn a.tmps ps assign body w.heap.size .ready none)) = .ok { target := .fn (.func gf) lb, args := #[.func (.yield (w.heap.size + 1)) #[] #[]] } ((w.alloc (.deferred (some []))).alloc (Lp fn a.tmps ps assign body w.heap.size .ready none)) := by
    simp only [resolve, hg]
    simp [go_sem]
  have hr3 : (invoke (.fn (.func gf) lb) #[.func (.yield (w.heap.size + 1)) #[] #[]]).run P ((w.alloc (.deferred (some []))).alloc (Lp fn a.tmps ps assign body w.heap.size .ready none)) = .ok (.enter gf (#[.func (.yield (w.heap.size + 1)) #[] #[]] ++ lb)) ((w.alloc (.deferred (some []))).alloc (Lp fn a.tmps ps assign body w.heap.size .ready none)) := by
    simp [invoke, go_sem, eg _ _]
  exact ⟨_, _, _, _, _, _, _, _, hr1, hr2, fun _ _ => trivial, hr3, fun _ => h1, (h fn).mono (by
    rintro e W2 ⟨⟨v, rfl⟩, h2 | ⟨c, h2, h3⟩⟩
    · exact ⟨none, _, run_endLoop h2.1 (by simp), h2.2⟩
    · exact ⟨some c, _, run_endLoop h2 (by simp), h3⟩)⟩

/-- .. with the record behind a name, and what lies in the world that the iterator is entered in. -/
theorem range_named {g : Operand} {ps : Array Tmp} {assign body : Code} {Q : Exit → Act → World → Prop} {a : Act} {w : World} (h1 : 1 ≤ n) {gf : Nat} {lb : Array Value}
    (hg : a.eval g = .func (.func gf) #[] lb) (eg : ∀ args w, (callFunc gf args).run P w = .ok (.enter gf args) w)
    (h : ∀ (fn : FuncId) (L : LoopState → Option Code → Obj) (W1 : World), L = Lp fn a.tmps ps assign body w.heap.size → W1.heap[w.heap.size + 1]? = some (L .ready none) → W1.heap[w.heap.size]? = some (.deferred (some [])) → Below w.heap.size w W1 → W1.heap.size = w.heap.size + 2 →
      CallsIn Fence.wide (n - 1) P gf (#[.func (.yield (w.heap.size + 1)) #[] #[]] ++ lb) W1 fun e W2 => (∃ v, e = .returned v) ∧
      ((W2.heap[w.heap.size + 1]? = some (L .ready none) ∧ Q .normal { a with defers := { target := .collected w.heap.size, args := #[] } :: a.defers } (W2.putObj (w.heap.size + 1) (L .exhausted none))) ∨
       (∃ c, W2.heap[w.heap.size + 1]? = some (L .done (some c)) ∧ c.wpIn Fence.wide n P Q { a with defers := { target := .collected w.heap.size, args := #[] } :: a.defers } (W2.putObj (w.heap.size + 1) (L .exhausted (some c)))))) :
    (Code.rangeFunc g ps assign body).wpIn Fence.wide n P Q a w := by
  refine range_here h1 hg eg fun fn => ?_
  refine h fn _ _ rfl ?_ ?_ (((Below.refl _ _).alloc (Nat.le_refl _) _).alloc (by simp) _) (by simp)
  · have := World.alloc_heap_new (w.alloc (.deferred (some []))) (Lp fn a.tmps ps assign body w.heap.size .ready none)
    rwa [World.size_alloc] at this
  · exact (Below.heap_alloc _ _ _ (by simp)).trans (World.alloc_heap_new w _)
end Go.V

namespace Go.Proofs.YtlfbbahihenilaaGreat.Ne
open Go.RowKit Go.V Go.Shelf Go.Proofs

attribute [local go_sem] Oper.semAt_some

def encP (f : Fnd) : Array Value := #[.agg #[.int .i64 f.stop, .int .i64 f.sq]]
theorem cell_of_heap {w w' : World} {b : Nat} (h : w'.heap[b]? = w.heap[b]?) (o : Nat) : w'.cell? ⟨b, o, none⟩ = w.cell? ⟨b, o, none⟩ := by simp [World.cell?, h]

set_option maxRecDepth 100000 in
set_option maxHeartbeats 4000000 in
theorem pts1_in (m lk Bl Bs Bx Ba : Nat) (la : Option Addr) (ln lc : Nat) (L : List Int) (sa : Option Addr) (sn sc : Nat) (S : List Stp) (s : Smp) (J : List Fnd → World → Prop) (W0 : World) (h1m : 1 ≤ m) (hln : ln ≤ 1000000)
    (hin : ∀ i ∈ L, ∃ j : Nat, i = (j : Int) ∧ j < S.length)
    (hbl : W0.heap[Bl]? = some (.cells #[.slice la ln lc] 35 (0, 0))) (hbs : W0.heap[Bs]? = some (.cells #[.slice sa sn sc] 22 (0, 0))) (hbx : W0.heap[Bx]? = some (.cells #[.int .i64 s.t, .int .i64 s.x, .int .i64 s.y] 73 (0, 0)))
    (hne : Bl ≠ Ba ∧ Bl ≠ lk ∧ Bs ≠ Ba ∧ Bs ≠ lk ∧ Bx ≠ Ba ∧ Bx ≠ lk) (hL : Sl icod W0 la ln lc L) (hS : Sl Stp.cod W0 sa sn sc S)
    (hla : ∀ d, la = some d → 0 < lc → d.block ≠ Ba ∧ d.block ≠ lk) (hsa : ∀ d, sa = some d → 0 < sc → d.block ≠ Ba ∧ d.block ≠ lk)
    (hk : ∀ pre W, J pre W → W0.heap.size ≤ W.heap.size ∧ ∀ k, k < W0.heap.size → k ≠ Ba → k ≠ lk → W.heap[k]? = W0.heap[k]?)
    (hJ : ∀ pre W W', J pre W → Below W.heap.size W W' → J pre W')
    (hY : ∀ pre x rest W, L.map (fnd s.pt S) = pre ++ x :: rest → J pre W → YieldAt Fence.wide (m - 1) Tryz.prog lk (encP x) W fun e W' => e = .returned (.bool true) ∧ J (pre ++ [x]) W')
    (h0 : J [] W0) :
    CallsIn Fence.wide m Tryz.prog 108 #[.func (.yield lk) #[] #[], .pointer (some ⟨Bl, 0, none⟩), .pointer (some ⟨Bs, 0, none⟩), .pointer (some ⟨Bx, 0, none⟩)] W0 fun e W' => (∃ v, e = .returned v) ∧ J (L.map (fnd s.pt S)) W' := by
  have hN : Hid (ln = L.length) := hL.hlen
  have hSN : Hid (sn = S.length) := hS.hlen
  refine callsIn_of_wp Tryz.func108 rfl trivial ?_ rfl
  simp only [Tryz.ntmps108, List.size_toArray, List.length_cons, List.length_nil, Nat.reduceAdd, Nat.reduceSub, Array.replicate_succ, Array.replicate_zero, List.push_toArray, List.append_toArray, List.nil_append, List.cons_append]
  have hfn : Fence.wide.fn 103 := trivial
  have hll := box_lt hbl
  have hls := box_lt hbs
  have hlx := box_lt hbx
  have n2 : W0.cell? ⟨Bl, 0, none⟩ = some (.slice la ln lc) := (box_cell hbl 0).1
  have HBS := Lib.hid hbs
  have HBX := Lib.hid hbx
  have HL := Lib.hid hL
  have HS := Lib.hid hS
  have HIN := Lib.hid hin
  clear hbs hbx hL hS hin hbl
  gi_wp2
  gi_loopw [9] (fun i wr => ∃ k : Nat, i = .int .i64 k ∧ k ≤ ln ∧ Hid (J ((L.take k).map (fnd s.pt S)) wr)) (fun i _ => ln - (intOf i).toNat)
  case atStart => exact ⟨0, rfl, by omega, h0⟩
  case round =>
    obtain ⟨k, rfl, hkl, hJk⟩ := hrel
    obtain ⟨hsz, hkeep⟩ := hk _ _ hJk.out
    have HKP := Lib.hid hkeep
    by_cases hlt : k < ln
    · obtain ⟨b, off, i, e1, hbb, hi, c0⟩ := int_at HL.out hlt
      subst e1
      obtain ⟨s1, s2⟩ := hla _ rfl (by have := HL.out.hcap; omega)
      obtain ⟨j, hij, hj⟩ := HIN.out i (List.mem_of_getElem? hi)
      subst hij
      obtain ⟨bs, offs, r, e2, hbs, hr, d0, d1⟩ := stp_at HS.out (i := j) (by rw [hSN.out]; exact hj)
      subst e2
      obtain ⟨s3, s4⟩ := hsa _ rfl (by have := HS.out.hcap; have := hSN.out; omega)
      have q0 : wr.cell? ⟨b, off + k, none⟩ = some (.int .i64 (j : Int)) := by rw [cell_of_heap (hkeep b hbb s1 s2)]; exact c0
      have q1 : wr.cell? ⟨bs, offs + j * 2, none⟩ = some (.int .i64 r.x) := by rw [cell_of_heap (hkeep bs hbs s3 s4)]; exact d0
      have q2 : wr.cell? ⟨bs, offs + j * 2 + 1, none⟩ = some (.int .i64 r.y) := by rw [cell_of_heap (hkeep bs hbs s3 s4)]; exact d1
      have q3 : wr.cell? ⟨Bs, 0, none⟩ = some (.slice (some ⟨bs, offs, none⟩) sn sc) := by rw [cell_of_heap (hkeep Bs hls hne.2.2.1 hne.2.2.2.1)]; exact (box_cell HBS.out 0).1
      have q4 : wr.cell? ⟨Bx, 1, none⟩ = some (.int .i64 s.x) := by rw [cell_of_heap (hkeep Bx hlx hne.2.2.2.2.1 hne.2.2.2.2.2)]; exact (box_cell HBX.out 1).1
      have q5 : wr.cell? ⟨Bx, 2, none⟩ = some (.int .i64 s.y) := by rw [cell_of_heap (hkeep Bx hlx hne.2.2.2.2.1 hne.2.2.2.2.2)]; exact (box_cell HBX.out 2).1
      have HI := Lib.hid hi
      have hkI : (k : Int) < (ln : Int) := by omega
      have hjI : (j : Int) < (sn : Int) := by rw [hSN.out]; omega
      obtain ⟨q, hq⟩ : ∃ q, sqG r s.pt = q := ⟨_, rfl⟩
      have HQ := Lib.hid hq
      have HF : Hid (fnd s.pt S (j : Int) = ⟨j, q⟩) := by
        show _ = _
        unfold fnd
        rw [Int.toNat_natCast, List.getD_eq_getElem?_getD, hr, ← hq, sqE_comm]; rfl
      have HSP : Hid (∃ rest, L.map (fnd s.pt S) = (L.take k).map (fnd s.pt S) ++ ⟨j, q⟩ :: rest) := by
        refine ⟨(L.drop (k + 1)).map (fnd s.pt S), ?_⟩
        rw [← HF.out, ← List.map_cons, ← List.map_append, ← drop_at HI.out, List.take_append_drop]
      clear c0 d0 d1 hkeep hi hr hq
      gi_wp2
      gi_region_with (first | (gi_at_call 103; refine (callsIn_wide.2 (gsq_any r s.pt _)).mono ?_; rintro e w1 ⟨rfl, hb1⟩; rw [HQ.out]; obtain ⟨fn, tmps, assign, body, hy, hR⟩ := hY _ _ _ w1 (Classical.choose_spec HSP.out) (hJ _ _ _ hJk.out ((Below.drew (Below.refl _ _)).trans hb1)); dsimp only [encP] at hy; clear hb1) | (refine hR.mono ?_; rintro e W3 ⟨rfl, hJ3⟩; have HJ3 := Lib.hid hJ3; clear hJ3 hR hy))
      all_goals
        gi_wp2
        go_roundw
        case rel => exact ⟨k + 1, by go_num, by omega, by show J _ _; rw [take_at HI.out, List.map_append, List.map_cons, List.map_nil, HF.out]; exact HJ3.out⟩
        case measure => simp [intOf]; omega
    · have hkk : k = ln := by omega
      subst hkk
      have HT : Hid (L.take k = L) := by show _ = _; rw [List.take_of_length_le (by rw [hN.out]; exact Nat.le_refl _)]
      gi_wp2
      go_end0
      exact ⟨⟨_, rfl⟩, by have := hJk.out; rw [HT.out] at this; exact this⟩

theorem points_any (la : Option Addr) (ln lc : Nat) (sa : Option Addr) (sn sc : Nat) (s : Smp) (w : World) : Calls Tryz.prog 85 #[.slice sa sn sc, .slice la ln lc, s.val] w fun e w' => e = .returned (.func (.func 108) #[] #[.pointer (some ⟨w.heap.size + 1, 0, none⟩), .pointer (some ⟨w.heap.size, 0, none⟩), .pointer (some ⟨w.heap.size + 2, 0, none⟩)]) ∧ w' = ((w.alloc (.cells #[.slice sa sn sc] 22)).alloc (.cells #[.slice la ln lc] 35)).alloc (.cells #[.int .i64 s.t, .int .i64 s.x, .int .i64 s.y] 73) := by
  go_enter Tryz.func85, Tryz.ntmps85
  go_wp2
  go_ret
  exact ⟨by simp, rfl⟩
end Go.Proofs.YtlfbbahihenilaaGreat.Ne

namespace Go.Proofs.YtlfbbahihenilaaGreat.Ne
open Go.RowKit Go.V Go.Shelf Go.Proofs

attribute [local go_sem] Oper.semAt_some

def encL (x : Lg) : Array Value := #[.agg #[.int .i64 x.frm, .int .i64 x.til, .int .i64 x.start, .int .i64 x.fin]]
theorem sl_kept {α : Type} {c : Cod α} {w W : World} {a : Option Addr} {n cap : Nat} {xs : List α} (h : Sl c w a n cap xs) (hs : w.heap.size ≤ W.heap.size) (hk : ∀ d, a = some d → 0 < cap → W.heap[d.block]? = w.heap[d.block]?) : Sl c W a n cap xs := by
  refine ⟨h.hlen, h.hcap, h.hmax, h.hnil, fun d hd hc => ?_⟩
  obtain ⟨h1, h2, h3⟩ := h.hat d hd hc
  refine ⟨h1, Nat.lt_of_lt_of_le h2 hs, fun i u hu => ?_⟩
  have := h3 i u hu
  rw [← this]
  exact cell_of_heap (hk d hd hc) _
theorem run_rn_from {w : World} {b off n cap q : Nat} {xs : List Rn} (h : Sl Rn.cod w (some ⟨b, off, none⟩) n cap xs) (hq : q < n) (W : World) : (Instr.slice 36 (.slice (some ⟨b, off, none⟩) n cap) (some (.int .i64 (q : Int))) none none).run Tryz.prog W = .ok (.slice (some ⟨b, off + q * 3, none⟩) (n - q) (cap - q)) W := by
  have hc := h.hcap
  rw [run_slice_l W 36 _ n cap (by kernel_rfl) .i64 (q : Int) (by omega) (by omega)]
  have e : (sizeOf (Tryz.prog.elem 36)).run Tryz.prog W = .ok 3 W := by kernel_rfl
  rw [e]
  show Result.ok (sliced _ (q : Int).toNat n cap 3) W = _
  unfold sliced
  rw [Int.toNat_natCast, if_neg (by omega)]
  show Result.ok (Value.slice (some ((⟨b, off, none⟩ : Addr).add (q * 3))) _ _) W = _
  rw [add_addr]

/-- The length of the slice in a box. -/
def boxN (W : World) (B : Nat) : Nat := match W.heap[B]? with
  | some (.cells cs _ _) => (match cs.getD 0 undef with | .slice _ n _ => n | _ => 0)
  | _ => 0
theorem boxN_eq {W : World} {B : Nat} {a : Option Addr} {n cap : Nat} {t : TypeId} {fr : Nat × Nat} (h : W.heap[B]? = some (.cells #[.slice a n cap] t fr)) : boxN W B = n := by
  unfold boxN
  rw [h]
  rfl
set_option maxRecDepth 100000 in
set_option maxHeartbeats 8000000 in
theorem legs1_in (m lk Bl Br Ba : Nat) (a0 : Option Addr) (n0 c0 : Nat) (R0 : List Rn) (least : Int) (J : List Lg → World → Prop) (W0 : World) (h1m : 1 ≤ m)
    (hbl : W0.heap[Bl]? = some (.cells #[.slice a0 n0 c0] 36 (0, 0))) (hbr : W0.heap[Br]? = some (.cells #[.int .i64 least] 3 (0, 0)))
    (hne : Bl ≠ Ba ∧ Bl ≠ lk ∧ Br ≠ Ba ∧ Br ≠ lk ∧ Bl ≠ Br) (hR : Sl Rn.cod W0 a0 n0 c0 R0) (hok : RunsOk R0)
    (hla : ∀ d, a0 = some d → 0 < c0 → d.block ≠ Ba ∧ d.block ≠ lk ∧ d.block ≠ Bl)
    (hk : ∀ pre W, J pre W → W0.heap.size ≤ W.heap.size ∧ ∀ k, k < W0.heap.size → k ≠ Ba → k ≠ lk → k ≠ Bl → W.heap[k]? = W0.heap[k]?)
    (hJ : ∀ pre W W', J pre W → Below W.heap.size W W' → J pre W')
    (hJs : ∀ pre W u, J pre W → J pre (W.setCell ⟨Bl, 0, none⟩ u))
    (hY : ∀ pre x rest W, legsE R0 least = pre ++ x :: rest → J pre W → YieldAt Fence.wide (m - 1) Tryz.prog lk (encL x) W fun e W' => e = .returned (.bool true) ∧ J (pre ++ [x]) W' ∧ W'.heap[Bl]? = W.heap[Bl]?)
    (h0 : J [] W0) :
    CallsIn Fence.wide m Tryz.prog 101 #[.func (.yield lk) #[] #[], .pointer (some ⟨Bl, 0, none⟩), .pointer (some ⟨Br, 0, none⟩)] W0 fun e W' => (∃ v, e = .returned v) ∧ J (legsE R0 least) W' := by
  have hn9 : n0 ≤ 9223372036854775807 := by have := hR.hcap; have := hR.hmax; unfold maxLen at this; omega
  have mixed : Tryz.prog.follows .mixedOrders = true := by kernel_rfl
  have HBR : Hid (∀ pre W, J pre W → W.heap[Br]? = some (.cells #[.int .i64 least] 3 (0, 0))) := fun pre W j => ((hk pre W j).2 Br (box_lt hbr) hne.2.2.1 hne.2.2.2.1 (fun e => hne.2.2.2.2 e.symm)).trans hbr
  have hfn : Fence.wide.fn 102 := trivial
  have HK := Lib.hid hk
  have HY := Lib.hid hY
  have HJS := Lib.hid hJs
  have HJB := Lib.hid hJ
  have hlt0 := box_lt hbl
  have HS : Hid (∃ (L : List Lg) (a : Option Addr) (n cap : Nat) (R : List Rn), W0.heap[Bl]? = some (.cells #[.slice a n cap] 36 (0, 0)) ∧ legsE R0 least = L ++ legsE R least ∧ n ≤ n0 ∧ Sl Rn.cod W0 a n cap R ∧ RunsOk R ∧ (∀ d, a = some d → 0 < cap → d.block ≠ Ba ∧ d.block ≠ lk ∧ d.block ≠ Bl) ∧ J L W0) := ⟨[], a0, n0, c0, R0, hbl, rfl, Nat.le_refl _, hR, hok, hla, h0⟩
  clear hbl hbr hR hok hla hk hY hJs hJ h0
  refine callsIn_of_wp Tryz.func101 rfl trivial ?_ rfl
  simp only [Tryz.ntmps101, List.size_toArray, List.length_cons, List.length_nil, Nat.reduceAdd, Nat.reduceSub, Array.replicate_succ, Array.replicate_zero, List.push_toArray, List.append_toArray, List.nil_append, List.cons_append]
  gi_wp2
  gi_loopw [] (fun wr => Hid (∃ (L : List Lg) (a : Option Addr) (n cap : Nat) (R : List Rn), wr.heap[Bl]? = some (.cells #[.slice a n cap] 36 (0, 0)) ∧ legsE R0 least = L ++ legsE R least ∧ n ≤ n0 ∧ Sl Rn.cod W0 a n cap R ∧ RunsOk R ∧ (∀ d, a = some d → 0 < cap → d.block ≠ Ba ∧ d.block ≠ lk ∧ d.block ≠ Bl) ∧ J L wr)) (fun wr => boxN wr Bl)
  case atStart => exact HS.out
  case round =>
    obtain ⟨L, a, n, cap, R, hbx, hlg, hn0, hsl0, hro, hla, hJ⟩ := hrel.out
    have HBX := Lib.hid hbx
    have HLG := Lib.hid hlg
    have HJL := Lib.hid hJ
    have HRO := Lib.hid hro
    have HSL := Lib.hid hsl0
    have HLA := Lib.hid hla
    obtain ⟨hsz, hkeep⟩ := HK.out _ _ hJ
    have HN : Hid (n = R.length) := hsl0.hlen
    have c0 : wr.cell? ⟨Bl, 0, none⟩ = some (.slice a n cap) := (box_cell hbx 0).1
    have d0 : wr.cell? ⟨Br, 0, none⟩ = some (.int .i64 least) := (box_cell (HBR.out _ _ hJ) 0).1
    have HSW : Hid (Sl Rn.cod wr a n cap R) := sl_kept hsl0 hsz (fun d hd hc => by
      obtain ⟨h1, h2, h3⟩ := hla d hd hc
      exact hkeep _ (hsl0.hat d hd hc).2.1 h1 h2 h3)
    clear hbx hlg hJ hro hla hkeep hrel
    by_cases hn1 : 1 < n
    · have hnz : (1 : Int) < (n : Int) := by omega
      have hcn := hsl0.hcap
      obtain ⟨k, hk⟩ : ∃ k, chkE R least = k := ⟨_, rfl⟩
      have hkin : 1 ≤ k ∧ k < n := by rw [← hk, HN.out]; exact chkE_in least (by rw [← HN.out]; exact hn1)
      obtain ⟨b, off, ⟨s1, f1, t1⟩, ha, hbl, hra, -, -, -⟩ := rn_at hsl0 (i := 0) (by omega)
      subst ha
      obtain ⟨_, _, ⟨s2, f2, t2⟩, hb', -, hrb, -, -, -⟩ := rn_at hsl0 hkin.2
      cases hb'
      have HRA := Lib.hid hra
      have HRB := Lib.hid hrb
      have HKE := Lib.hid hk
      have hrun := run_rn_from hsl0 hkin.2
      have HFR := Lib.hid (hsl0.from (j := k) (by omega) (by omega))
      have HCH := Lib.hid (dcheck_any (some ⟨b, off, none⟩) n cap R least)
      have hkz : (k : Int) < (n : Int) := by omega
      clear hra hrb hk hsl0
      gi_wp2_with (gi_at_call 102; refine (callsIn_wide.2 (HCH.out _ HSW.out HRO.out hn1)).mono ?_; rintro e w1 ⟨rfl, hb1⟩; rw [HKE.out]; have HB1 := Lib.hid hb1; clear hb1)
      have HJ1 := Lib.hid (HJB.out _ _ _ HJL.out HB1.out)
      have HX1 := Lib.hid (box_below HBX.out HB1.out)
      have HS1 := Lib.hid (HSW.out.below HB1.out)
      obtain ⟨b', off', r1, e1, hb1, hr1, q0, q1, q2⟩ := rn_at HS1.out (i := 0) (by omega)
      cases e1
      rw [HRA.out] at hr1
      cases hr1
      obtain ⟨b', off', r2, e2, hb2, hr2, p0, p1, p2⟩ := rn_at HS1.out hkin.2
      cases e2
      rw [HRB.out] at hr2
      cases hr2
      simp only [Nat.zero_mul, Nat.add_zero] at q0 q1 q2 p0 p1 p2
      have x0 : w1.cell? ⟨Bl, 0, none⟩ = some (.slice (some ⟨b, off, none⟩) n cap) := (box_cell HX1.out 0).1
      have hbl1 := box_lt HX1.out
      have HKE1 : Hid (∀ w', Below w1.heap.size w1 w' → w'.cell? ⟨Bl, 0, none⟩ = some (.slice (some ⟨b, off, none⟩) n cap) ∧ w'.cell? ⟨b, off, none⟩ = some (.int .i64 s1) ∧ w'.cell? ⟨b, off + 1, none⟩ = some (.int .i64 f1) ∧ w'.cell? ⟨b, off + 2, none⟩ = some (.int .i64 t1) ∧ w'.cell? ⟨b, off + k * 3, none⟩ = some (.int .i64 s2) ∧ w'.cell? ⟨b, off + k * 3 + 1, none⟩ = some (.int .i64 f2) ∧ w'.cell? ⟨b, off + k * 3 + 2, none⟩ = some (.int .i64 t2)) := fun w' hw' =>
        ⟨(hw'.cell (p := ⟨Bl, 0, none⟩) hbl1).trans x0, (hw'.cell (p := ⟨b, off, none⟩) hb1).trans q0, (hw'.cell (p := ⟨b, off + 1, none⟩) hb1).trans q1, (hw'.cell (p := ⟨b, off + 2, none⟩) hb1).trans q2, (hw'.cell (p := ⟨b, off + k * 3, none⟩) hb1).trans p0, (hw'.cell (p := ⟨b, off + k * 3 + 1, none⟩) hb1).trans p1, (hw'.cell (p := ⟨b, off + k * 3 + 2, none⟩) hb1).trans p2⟩
      have HN2 : Hid (∀ A B, ((w1.alloc A).alloc B).heap[w1.heap.size + 1]? = some B) := fun A B => by
        have := box_new (w1.alloc A) B
        rwa [World.size_alloc] at this
      rw [wpIn_wide]
      go_upto_region 2 with fail
      go_cut [6, 7] (fun v6 v7 wx => Hid (∃ g6 g7, v6 = .pointer (some ⟨g6, 0, none⟩) ∧ v7 = .pointer (some ⟨g7, 0, none⟩) ∧ wx.heap[g6]? = some (.cells #[.int .i64 s1, .int .i64 f1, .int .i64 t1] 57 (0, 0)) ∧ wx.heap[g7]? = some (.cells #[.int .i64 s2, .int .i64 f2, .int .i64 t2] 57 (0, 0)) ∧ Below w1.heap.size w1 wx))
      case first =>
        have hnz3 : ¬ n = 0 := by omega
        have hix : ∀ W, (Instr.indexAt 36 (.slice (some ⟨b, off, none⟩) n cap) (.int .i64 0)).run Tryz.prog W = .ok (.pointer (some ⟨b, off, none⟩)) W := fun W => by simp [go_sem, hnz3]
        clear hnz3
        go_region_held3 (fun w' => w'.cell? ⟨Bl, 0, none⟩ = some (.slice (some ⟨b, off, none⟩) n cap) ∧ w'.cell? ⟨b, off, none⟩ = some (.int .i64 s1) ∧ w'.cell? ⟨b, off + 1, none⟩ = some (.int .i64 f1) ∧ w'.cell? ⟨b, off + 2, none⟩ = some (.int .i64 t1) ∧ w'.cell? ⟨b, off + k * 3, none⟩ = some (.int .i64 s2) ∧ w'.cell? ⟨b, off + k * 3 + 1, none⟩ = some (.int .i64 f2) ∧ w'.cell? ⟨b, off + k * 3 + 2, none⟩ = some (.int .i64 t2)) (first | exact HKE1.out _ (Below.refl _ _) | exact HKE1.out _ (Below.drew (Below.refl _ _)) | exact HKE1.out _ (Below.drew ((Below.refl _ _).alloc (Nat.le_refl _) _)) | exact HKE1.out _ (Below.drew (((Below.refl _ _).alloc (Nat.le_refl _) _).alloc (by simp) _)) | go_keep) (fail)
        all_goals
          go_wp2_with fail
          go_meet
          first
            | exact ⟨_, _, rfl, rfl, box_alloc (box_new w1 _), HN2.out _ _, Below.drew (((Below.refl _ _).alloc (Nat.le_refl _) _).alloc (by simp) _)⟩
            | exact ⟨_, _, rfl, rfl, HN2.out _ _, box_alloc (box_new w1 _), Below.drew (((Below.refl _ _).alloc (Nat.le_refl _) _).alloc (by simp) _)⟩
      case rest =>
        obtain ⟨g6, g7, rfl, rfl, hg6, hg7, hb2⟩ := hcut.out
        rename World => w2
        have HG6 := Lib.hid hg6
        have HG7 := Lib.hid hg7
        have HB2 := Lib.hid hb2
        have HX2 := Lib.hid (box_below HX1.out hb2)
        have HJ2 := Lib.hid (HJB.out _ _ _ HJ1.out hb2)
        clear hcut hg6 hg7 hb2 x0 q0 q1 q2 p0 p1 p2 c0 d0
        obtain ⟨q0, q1, q2, -, -, -⟩ := box3_cells HG6.out
        obtain ⟨p0, p1, p2, -, -, -⟩ := box3_cells HG7.out
        have HLG2 : Hid (legsE R least = (⟨s1, s2, t1, f2⟩ : Lg) :: legsE (R.drop k) least) := by
          show _ = _
          rw [legsE_step least (by rw [← HN.out]; exact hn1), HKE.out]
          unfold legAt
          rw [List.getD_eq_getElem?_getD, HRA.out, List.getD_eq_getElem?_getD, HRB.out]
          rfl
        refine (show ∀ (a : Act) (w : World), Code.wpIn _ _ _ _ _ a w → _ from by assumption) _ _ ?_
        obtain ⟨fn, tmps, assign, body, hy, hR⟩ := HY.out L ⟨s1, s2, t1, f2⟩ (legsE (R.drop k) least) w2 (by rw [HLG.out, HLG2.out]) HJ2.out
        dsimp only [encL] at hy
        gi_wp2
        refine hR.mono ?_
        rintro e W3 ⟨rfl, hJ3, hB3⟩
        have HJ3 := Lib.hid hJ3
        have HX3 : Hid (W3.heap[Bl]? = some (.cells #[.slice (some ⟨b, off, none⟩) n cap] 36 (0, 0))) := hB3.trans HX2.out
        clear hJ3 hB3 hy
        obtain ⟨x0, x0f⟩ := box_cell HX3.out 0
        have x0 : W3.cell? ⟨Bl, 0, none⟩ = some (.slice (some ⟨b, off, none⟩) n cap) := x0
        gi_wp2
        have hx4 : (W3.setCell ⟨Bl, 0, none⟩ (.slice (some ⟨b, off + k * 3, none⟩) (n - k) (cap - k))).heap[Bl]? = some (.cells #[.slice (some ⟨b, off + k * 3, none⟩) (n - k) (cap - k)] 36 (0, 0)) := by
          rw [heap_setCell_same W3 Bl 0 _ _ _ HX3.out]; rfl
        refine ⟨⟨L ++ [(⟨s1, s2, t1, f2⟩ : Lg)], _, _, _, R.drop k, hx4, by rw [HLG.out, HLG2.out, List.append_assoc]; rfl, by omega, HFR.out, HRO.out.drop k, fun d hd hc => ?_, HJS.out _ _ _ HJ3.out⟩, by rw [boxN_eq hx4, boxN_eq HBX.out]; omega⟩
        cases hd
        exact HLA.out ⟨b, off, none⟩ rfl (by omega)
    · have hnd : decide ((1 : Int) < (n : Int)) = false := decide_eq_false (by omega)
      have HLE : Hid (legsE R0 least = L) := by
        show _ = _
        rw [HLG.out, legsE_end least (by rw [← HN.out]; omega), List.append_nil]
      clear hsl0
      gi_wp2
      go_end0
      exact ⟨⟨_, rfl⟩, by rw [HLE.out]; exact HJL.out⟩
end Go.Proofs.YtlfbbahihenilaaGreat.Ne
