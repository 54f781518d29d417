/- A range over a function, where the iterator is known: the record is handed through its walk. -/
import Derived.RangeFuncNested
import Derived.RangeFuncBound
import Derived.RangeFuncCalls
import Derived.RangeFuncLeaves
import Derived.Shelf.Abstract
import Derived.Shelf.RegionOpen
import Derived.WalkKit
import Derived.OwnWalkIn
import Derived.TacticsInMore
import Derived.LoopNIn
import Derived.LoopIn
import Derived.Test.YtknbpnkonhniiaaBase2
namespace Go.V
open Go.RowKit Go.Shelf

/-- The loop's record, as it stands between two rounds, in a round, behind a break. -/
def Lp (fn : FuncId) (tmps : Array Value) (ps : Array Tmp) (assign body : Code) (D : Nat) (st : LoopState) (pe : Option Code) : Obj := .loop { state := st, pending := pe, fn := fn, tmps := tmps, params := ps, assign := assign, body := body, defers := D }

variable {P : Program} {n m : Nat}

/-- One round: the assignments, the body, at the record as it is kept. -/
theorem yield_here {l D : Nat} {fn : FuncId} {tmps : Array Value} {ps : Array Tmp} {assign body : Code} {args : Array Value} {W : World} {R : Ending → World → Prop}
    (hl : W.heap[l]? = some (Lp fn tmps ps assign body D .ready none)) (hs : args.size = ps.size)
    (h : assign.wpIn (Fence.wide.inRound l) m P (Exit.then (fun a1 W1 => W1.heap[l]? = some (Lp fn tmps ps assign body D .ready none) ∧
      body.wpIn (Fence.wide.inRound l) m P (fun e _ W3 => W3.heap[l]? = some (Lp fn tmps ps assign body D .busy none) ∧ match e with
        | .normal => R (.returned (.bool true)) (W3.putObj l (Lp fn tmps ps assign body D .ready none))
        | .exit id => R (.returned (.bool false)) (W3.putObj l (Lp fn tmps ps assign body D .done (some (.exit id))))
        | _ => False) a1 (W1.putObj l (Lp fn tmps ps assign body D .busy none))) (fun _ _ _ => False))
      { tmps := (ps.zip args).foldl (fun t (p, v) => t.setIfInBounds p v) tmps, defers := [] } W) :
    YieldAt Fence.wide m P l args W R := by
  refine ⟨fn, _, assign, body, run_yield hl hs, roundIn_of_wpIn trivial (wpIn_mono h ?_)⟩
  intro e a1 W1 hp
  cases e with
  | normal =>
    obtain ⟨h1, h2⟩ := hp
    refine ⟨_, run_beginRound h1 rfl, wpIn_mono h2 ?_⟩
    intro e a3 W3 hq
    obtain ⟨q1, q2⟩ := hq
    cases e with
    | normal => exact ⟨_, _, run_endRound none q1, q2⟩
    | exit id => exact ⟨_, _, run_endRound (some (.exit id)) q1, q2⟩
    | _ => exact q2.elim
  | _ => exact hp.elim

theorem yield_named {l D : Nat} {fn : FuncId} {tmps : Array Value} {ps : Array Tmp} {assign body : Code} {args : Array Value} {W : World} {R : Ending → World → Prop} {L : LoopState → Option Code → Obj} (hL : L = Lp fn tmps ps assign body D)
    (hl : W.heap[l]? = some (L .ready none)) (hs : args.size = ps.size)
    (h : assign.wpIn (Fence.wide.inRound l) m P (Exit.then (fun a1 W1 => W1.heap[l]? = some (L .ready none) ∧
      body.wpIn (Fence.wide.inRound l) m P (fun e _ W3 => W3.heap[l]? = some (L .busy none) ∧ match e with
        | .normal => R (.returned (.bool true)) (W3.putObj l (L .ready none))
        | .exit id => R (.returned (.bool false)) (W3.putObj l (L .done (some (.exit id))))
        | _ => False) a1 (W1.putObj l (L .busy none))) (fun _ _ _ => False))
      { tmps := (ps.zip args).foldl (fun t (p, v) => t.setIfInBounds p v) tmps, defers := [] } W) :
    YieldAt Fence.wide m P l args W R := by
  subst hL
  exact yield_here hl hs h

/-- The statement: the record is laid, the iterator is run, the jump is taken up. -/
theorem range_here {g : Operand} {ps : Array Tmp} {assign body : Code} {Q : Exit → Act → World → Prop} {a : Act} {w : World} (h1 : 1 ≤ n) {gf : Nat} {lb : Array Value}
    (hg : a.eval g = .func (.func gf) #[] lb) (eg : ∀ args w, (callFunc gf args).run P w = .ok (.enter gf args) w)
    (h : ∀ fn : FuncId, CallsIn Fence.wide (n - 1) P gf (#[.func (.yield (w.heap.size + 1)) #[] #[]] ++ lb) ((w.alloc (.deferred (some []))).alloc (Lp fn a.tmps ps assign body w.heap.size .ready none)) fun e W2 => (∃ v, e = .returned v) ∧
      ((W2.heap[w.heap.size + 1]? = some (Lp fn a.tmps ps assign body w.heap.size .ready none) ∧ Q .normal { a with defers := { target := .collected w.heap.size, args := #[] } :: a.defers } (W2.putObj (w.heap.size + 1) (Lp fn a.tmps ps assign body w.heap.size .exhausted none))) ∨
       (∃ c, W2.heap[w.heap.size + 1]? = some (Lp fn a.tmps ps assign body w.heap.size .done (some c)) ∧ c.wpIn Fence.wide n P Q { a with defers := { target := .collected w.heap.size, args := #[] } :: a.defers } (W2.putObj (w.heap.size + 1) (Lp fn a.tmps ps assign body w.heap.size .exhausted (some c)))))) :
    (Code.rangeFunc g ps assign body).wpIn Fence.wide n P Q a w := by
  refine wpIn_rangeFunc fun fn _ => ?_
  have hr1 := run_enterLoop_outer (P := P) (w := w) fn a.tmps ps assign body
  have hr2 : (resolve a.eval (rangeCall g (w.heap.size + 1)) 0).run P ((w.alloc (.deferred (some []))).alloc (Lp fn a.tmps ps assign body w.heap.size .ready none)) = .ok { target := .fn (.func gf) lb, args := #[.func (.yield (w.heap.size + 1)) #[] #[]] } ((w.alloc (.deferred (some []))).alloc (Lp fn a.tmps ps assign body w.heap.size .ready none)) := by
    simp only [resolve, hg]
    simp [go_sem]
  have hr3 : (invoke (.fn (.func gf) lb) #[.func (.yield (w.heap.size + 1)) #[] #[]]).run P ((w.alloc (.deferred (some []))).alloc (Lp fn a.tmps ps assign body w.heap.size .ready none)) = .ok (.enter gf (#[.func (.yield (w.heap.size + 1)) #[] #[]] ++ lb)) ((w.alloc (.deferred (some []))).alloc (Lp fn a.tmps ps assign body w.heap.size .ready none)) := by
    simp [invoke, go_sem, eg _ _]
  exact ⟨_, _, _, _, _, _, _, _, hr1, hr2, fun _ _ => trivial, hr3, fun _ => h1, (h fn).mono (by
    rintro e W2 ⟨⟨v, rfl⟩, h2 | ⟨c, h2, h3⟩⟩
    · exact ⟨none, _, run_endLoop h2.1 (by simp), h2.2⟩
    · exact ⟨some c, _, run_endLoop h2 (by simp), h3⟩)⟩

/-- .. with the record behind a name, and what lies in the world that the iterator is entered in. -/
theorem range_named {g : Operand} {ps : Array Tmp} {assign body : Code} {Q : Exit → Act → World → Prop} {a : Act} {w : World} (h1 : 1 ≤ n) {gf : Nat} {lb : Array Value}
    (hg : a.eval g = .func (.func gf) #[] lb) (eg : ∀ args w, (callFunc gf args).run P w = .ok (.enter gf args) w)
    (h : ∀ (fn : FuncId) (L : LoopState → Option Code → Obj) (W1 : World), L = Lp fn a.tmps ps assign body w.heap.size → W1.heap[w.heap.size + 1]? = some (L .ready none) → W1.heap[w.heap.size]? = some (.deferred (some [])) → Below w.heap.size w W1 → W1.heap.size = w.heap.size + 2 →
      CallsIn Fence.wide (n - 1) P gf (#[.func (.yield (w.heap.size + 1)) #[] #[]] ++ lb) W1 fun e W2 => (∃ v, e = .returned v) ∧
      ((W2.heap[w.heap.size + 1]? = some (L .ready none) ∧ Q .normal { a with defers := { target := .collected w.heap.size, args := #[] } :: a.defers } (W2.putObj (w.heap.size + 1) (L .exhausted none))) ∨
       (∃ c, W2.heap[w.heap.size + 1]? = some (L .done (some c)) ∧ c.wpIn Fence.wide n P Q { a with defers := { target := .collected w.heap.size, args := #[] } :: a.defers } (W2.putObj (w.heap.size + 1) (L .exhausted (some c)))))) :
    (Code.rangeFunc g ps assign body).wpIn Fence.wide n P Q a w := by
  refine range_here h1 hg eg fun fn => ?_
  refine h fn _ _ rfl ?_ ?_ (((Below.refl _ _).alloc (Nat.le_refl _) _).alloc (by simp) _) (by simp)
  · have := World.alloc_heap_new (w.alloc (.deferred (some []))) (Lp fn a.tmps ps assign body w.heap.size .ready none)
    rwa [World.size_alloc] at this
  · exact (Below.heap_alloc _ _ _ (by simp)).trans (World.alloc_heap_new w _)
end Go.V
