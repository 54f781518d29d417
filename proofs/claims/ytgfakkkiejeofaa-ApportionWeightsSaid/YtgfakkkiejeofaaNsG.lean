/- Rows of numbers of one's own, put anew. -/
import Derived.Test.YtgfakkkiejeofaaBx
import Derived.Test.YtgfakkkiejeofaaBase6
namespace Go.Proofs.Ytgfakkkiejeofaa.Ne
open Go.RowKit Go.V Go.Proofs

theorem own_same {α : Type} {e : TypeId} {c : Cod α} {base o n cap : Nat} {xs : List α} {w w' : World} (h : V.Own e c base w (.slice (some ⟨o, 0, none⟩) n cap) xs) (he : w'.heap[o]? = w.heap[o]?) : V.Own e c base w' (.slice (some ⟨o, 0, none⟩) n cap) xs := by
  obtain ⟨h1, h2⟩ := h
  refine ⟨h1, ?_⟩
  rcases h2 with h2 | ⟨g, cap', cur, e1, h3, h4, h5⟩
  · exact .inl h2
  · have : o = g := by simp only [Value.slice.injEq, Option.some.injEq, Addr.mk.injEq] at e1; exact e1.1.1
    subst this
    exact .inr ⟨o, cap', cur, e1, h3, by rw [he]; exact h4, h5⟩
theorem iflat_set : ∀ (xs : List Int) (i : Nat) (d : Int), (xs.flatMap icod.enc).set i (.int .i64 d) = (xs.set i d).flatMap icod.enc
  | [], _, _ => rfl
  | x :: xs, 0, d => rfl
  | x :: xs, i + 1, d => by
    have ih := iflat_set xs i d
    rw [List.set_cons_succ, List.flatMap_cons, List.flatMap_cons, ← ih]
    rfl
/-- One of a row of numbers is put anew. -/
theorem iset {T : TypeId} {base : Nat} {w : World} {b n cap : Nat} {xs : List Int} (h : V.Own T icod base w (.slice (some ⟨b, 0, none⟩) n cap) xs) (hn : n = xs.length) (i : Nat) (d : Int) :
    V.Own T icod base (w.setCell ⟨b, i, none⟩ (.int .i64 d)) (.slice (some ⟨b, 0, none⟩) n cap) (xs.set i d) ∧ w.grownBy (w.setCell ⟨b, i, none⟩ (.int .i64 d)) (some b) :=
  h.put hn i _ _ (by simp) (iflat_set xs i d)
theorem icells {T : TypeId} {base : Nat} {w : World} {b n cap : Nat} {xs : List Int} (h : V.Own T icod base w (.slice (some ⟨b, 0, none⟩) n cap) xs) (hn : n = xs.length) {i : Nat} (hi : i < n) :
    ∃ d, xs[i]? = some d ∧ w.cell? ⟨b, i, none⟩ = some (.int .i64 d) ∧ w.frozen? ⟨b, i, none⟩ = false ∧ b < w.heap.size := by
  have hx : xs[i]? = some xs[i] := by simp
  obtain ⟨h1, h2⟩ := h.at hn hx
  refine ⟨_, hx, ?_, h2 _, (World.ownsRow.lt h b rfl).2⟩
  have := h1 0 _ rfl
  simpa [icod] using this
end Go.Proofs.Ytgfakkkiejeofaa.Ne
