/- Networks: what comes first in the heap, walked. -/
import Derived.Test.YtgfakkkiejeofaaNeF
namespace Go.Proofs.Ytgfakkkiejeofaa.Ne
open Go.RowKit Go.V Go.Proofs Go.Sort

theorem results_row_tmp {P : Program} {fn : Func} {p u : Tmp} {ty : TypeId} (h : fn.results = #[.cell p ty, .tmp u]) (tmps : Array Value) (w : World) (g : Nat) (t : TypeId) (cs : Array Value) (fr : Nat × Nat) (d : TypeDesc)
    (hp : tmps.getD p undef = .pointer (some ⟨g, 0, none⟩)) (hg : w.heap[g]? = some (.cells cs t fr))
    (hu : P.underlying ty = some d) (hd : (match d with | .struct _ | .array _ _ => true | _ => false) = true) (hi : (P.info? ty).map (·.size) = some cs.size) :
    (results fn tmps).run P w = .ok (.tuple #[.agg cs, tmps.getD u undef]) w := by
  rw [results_cell_tmp h, hp]
  simp [asAddr, run_loadVar_row w g t ty cs fr d hg hu hd hi, Result.andThen]
theorem box2_set {w : World} {g : Nat} {e : TypeId} {u0 u1 : Value} (h : w.heap[g]? = some (.cells #[u0, u1] e (0, 0))) (v0 v1 : Value) : ((w.setCell ⟨g, 0, none⟩ v0).setCell ⟨g, 1, none⟩ v1).heap[g]? = some (.cells #[v0, v1] e (0, 0)) := by
  have h1 := heap_setCell_same w g 0 _ e v0 h
  have h2 := heap_setCell_same _ g 1 _ e v1 h1
  rw [h2]; rfl
theorem set_grown (w : World) (g j : Nat) (v : Value) : w.grownBy (w.setCell ⟨g, j, none⟩ v) (some g) :=
  ⟨rfl, rfl, rfl, by simp, fun k _ hk => heap_setCell_other _ ⟨g, j, none⟩ k v (fun e => hk (by simp [e]))⟩

set_option maxHeartbeats 2000000 in
set_option maxRecDepth 100000 in
theorem htop_any (w : World) (base g b n k : Nat) (l : List Rch) (h : HeapIn w base g (.slice (some ⟨b, 0, none⟩) n k) l) (hn : n = l.length) (h1 : 1 ≤ n) (hm : n ≤ 1000000000) :
    Calls Try.prog 73 #[.pointer (some ⟨g, 0, none⟩)] w fun e w' => e = .returned (.tuple #[rval (at' l 0), .bool true]) ∧ Below w.heap.size w w' := by
  have HA : Hid (HeapIn (w.alloc (.cells #[.int .i64 0, .int .i64 0] 97)) base g (.slice (some ⟨b, 0, none⟩) n k) l) := h.below ((Below.refl _ _).alloc (Nat.le_refl _) _)
  have HX := Lib.hid (box_new w (.cells #[.int .i64 0, .int .i64 0] 97))
  obtain ⟨c0, c1, -, -⟩ := box2_cells HA.out.box
  obtain ⟨y0, y1, -, -⟩ := rcells HA.out.own hn (i := 0) (by omega)
  obtain ⟨Y, hY⟩ : ∃ Y, at' l 0 = Y := ⟨_, rfl⟩
  rw [hY] at y0 y1 ⊢
  rw [Nat.zero_mul] at y0 y1
  obtain ⟨u0, u1, f0, f1⟩ := box2_cells HX.out
  have hg := box_lt HA.out.box
  clear hY hn
  have p1 : ((n : Int) == 0) = false := by simp; omega
  have p2 : (0 : Int) < (n : Int) := by omega
  go_enter Try.func73, Try.ntmps73
  go_wp2_with (go_at_call 55; refine (hlen_any _ base g _ n k l HA.out).mono ?_; rintro e w1 ⟨rfl, rfl⟩)
  refine bodyPost_ret (results_row_tmp rfl _ _ w.heap.size _ _ _ _ rfl (box_new w _) Try.underlying97 rfl (by kernel_rfl)) rfl ⟨rfl, ?_⟩
  exact (Below.refl _ _).alloc (Nat.le_refl _) _
end Go.Proofs.Ytgfakkkiejeofaa.Ne
