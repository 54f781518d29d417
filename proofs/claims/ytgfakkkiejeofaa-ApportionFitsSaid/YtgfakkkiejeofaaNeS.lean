/- Networks: what the nearest-first walk has in memory while it goes. -/
import Derived.Test.YtgfakkkiejeofaaNeF
import Derived.Test.YtgfakkkiejeofaaBase7
import Derived.Test.YtgfakkkiejeofaaNsG
namespace Go.Proofs.Ytgfakkkiejeofaa.Ne
open Go.RowKit Go.V Go.Proofs

/-- The links of each stop, as rows. -/
structure AdjIn (w : World) (b k : Nat) (L : List Lnk) : Prop where
  lt : b < w.heap.size
  row : ∀ i : Nat, i < k → ∃ a cap, w.cell? ⟨b, i, none⟩ = some (.slice a (adj L i).length cap) ∧ Sl lcod w a (adj L i).length cap (adj L i)
theorem AdjIn.below {w w' : World} {b k : Nat} {L : List Lnk} (h : AdjIn w b k L) (hb : Below w.heap.size w w') : AdjIn w' b k L :=
  ⟨Nat.lt_of_lt_of_le h.lt hb.size, fun i hi => by
    obtain ⟨a, cap, h1, h2⟩ := h.row i hi
    exact ⟨a, cap, by rw [hb.cell (p := ⟨b, i, none⟩) h.lt]; exact h1, h2.below hb⟩⟩

theorem HeapIn.same {w w' : World} {base g : Nat} {v : Value} {l : List Rch} (h : HeapIn w base g v l) {o : Nat} (hg : w.grownBy w' (some o)) (h1 : g ≠ o) (h2 : v.ownBlock ≠ some o) : HeapIn w' base g v l :=
  ⟨(hg.block g (box_lt h.box) (fun e => h1 (Option.some.inj e))).trans h.box, h.own.kept hg (.inr h2), h.ge⟩

structure FS (W w : World) (o oc g k : Nat) (v : Value) (out : List Int) (H : List Rch) : Prop where
  ge : Below W.heap.size W w
  out : V.Own 3 icod W.heap.size w (.slice (some ⟨o, 0, none⟩) k oc) out
  heap : HeapIn w W.heap.size g v H
  ok : HeapOk Rch.far H
  og : o ≠ g
  oh : v.ownBlock ≠ some o
section
variable {W w w' : World} {o oc g k : Nat} {v v' : Value} {out : List Int} {H H' : List Rch}
theorem FS.lt (h : FS W w o oc g k v out H) : W.heap.size ≤ o ∧ o < w.heap.size := World.ownsRow.lt h.out o rfl
theorem FS.chg (h : FS W w o oc g k v out H) (hc : Chg w w' g v.ownBlock) (hh : HeapIn w' W.heap.size g v' H') (hok : HeapOk Rch.far H') (hv : v'.ownBlock = v.ownBlock ∨ ∃ k, v'.ownBlock = some k ∧ w.heap.size ≤ k) : FS W w' o oc g k v' out H' := by
  refine ⟨h.ge.trans (hc.below h.heap.ge (fun k hk => (World.ownsRow.lt h.heap.own k hk).1) h.ge.size), own_same h.out (hc.block o h.lt.2 h.og (fun e => h.oh e.symm)), hh, hok, h.og, ?_⟩
  rcases hv with e | ⟨j, e, hj⟩
  · rw [e]; exact h.oh
  · rw [e]
    intro e2
    have := Option.some.inj e2
    have := h.lt.2
    omega
theorem FS.below (h : FS W w o oc g k v out H) (hb : Below w.heap.size w w') : FS W w' o oc g k v out H :=
  ⟨h.ge.trans (hb.mono h.ge.size), h.out.below hb, h.heap.below hb, h.ok, h.og, h.oh⟩
theorem FS.put (h : FS W w o oc g k v out H) (hk : k = out.length) (i : Nat) (d : Int) : FS W (w.setCell ⟨o, i, none⟩ (.int .i64 d)) o oc g k v (out.set i d) H := by
  obtain ⟨h1, h2⟩ := iset h.out hk i d
  have := h.lt
  exact ⟨h.ge.trans ⟨h2.os, h2.tape, h2.output, h2.size, fun j hj => h2.block j (by have := h.ge.size; omega) (fun e => by have := Option.some.inj e; omega)⟩, h1, h.heap.same h2 (fun e => h.og e.symm) h.oh, h.ok, h.og, h.oh⟩
theorem FS.push (h : FS W w o oc g k v out H) {x : Rch} (hw : ∃ v' l', HeapIn w' W.heap.size g v' l' ∧ HeapOk Rch.far l' ∧ l'.Perm (x :: H) ∧ Chg w w' g v.ownBlock ∧ (v'.ownBlock = v.ownBlock ∨ ∃ k, v'.ownBlock = some k ∧ w.heap.size ≤ k)) :
    ∃ v' l', FS W w' o oc g k v' out l' ∧ l'.Perm (x :: H) ∧ (∀ y ob, w.heap[y]? = some ob → v.ownBlock ≠ some y → y ≠ g → w'.heap[y]? = some ob ∧ v'.ownBlock ≠ some y) := by
  obtain ⟨v', l', h1, h2, h3, h4, h5⟩ := hw
  refine ⟨v', l', h.chg h4 h1 h2 h5, h3, fun y ob hy h6 h7 => ⟨h4.box hy h7 (fun e => h6 e.symm), ?_⟩⟩
  rcases h5 with e | ⟨j, e, hj⟩
  · rw [e]; exact h6
  · rw [e]
    intro e2
    have := Option.some.inj e2
    have := box_lt hy
    omega
end
end Go.Proofs.Ytgfakkkiejeofaa.Ne
