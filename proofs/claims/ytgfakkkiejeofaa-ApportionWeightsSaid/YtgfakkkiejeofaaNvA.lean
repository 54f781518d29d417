/- Networks: the paths' example walked; what path.From and path.Way hand back, in one form. -/
import Derived.Test.YtgfakkkiejeofaaNsD
import Derived.Test.YtgfakkkiejeofaaNfB
import Derived.Test.YtgfakkkiejeofaaIs
import Derived.Test.YtgfakkkiejeofaaNuQ
namespace Go.Proofs.Ytgfakkkiejeofaa.Ne
open Go.RowKit Go.V Go.Proofs Go.Sort

def exW : Net := ⟨1, [⟨0, 0⟩, ⟨0, 0⟩, ⟨0, 0⟩], [⟨0, 1, 4⟩, ⟨1, 2, 6⟩]⟩
theorem exW_ok : wayErr exW 3 0 2 = 0 ∧ wayFar exW 3 0 2 = 10 := by decide +kernel
theorem exW_way : wayL exW.links 3 0 2 = [0, 1, 2] := by decide +kernel


theorem pfrom_gen (n : Net) (hs hl : Hdr) (s : Int) (w : World) (hm : hs.n ≤ 1000000 ∧ hl.n ≤ 1000000) (h : NetIn w n hs hl) :
    Calls Try.prog 35 #[n.val hs hl, .int .i64 s] w fun e w' => ∃ fa fn fc, e = .returned (.tuple #[.slice fa fn fc, .int .i64 (fromE n s)]) ∧ (fromE n s ≠ 0 → fn = 0) ∧ (fromE n s = 0 → Sl icod w' fa fn fc (bf n.links hs.n s) ∧ fn = hs.n) ∧ Below w.heap.size w w' := by
  refine (pfrom_any n hs hl s w hm h).mono fun e w' hh => ?_
  obtain ⟨hb, h1, h2⟩ := hh
  have hk : hs.n = n.stops.length := h.s.hlen
  by_cases hf : fromE n s = 0
  · obtain ⟨o, cap, e1, ho⟩ := h2 hf
    rw [← hk] at ho
    exact ⟨_, _, _, by rw [e1, hf], fun q => absurd hf q, fun _ => ⟨(own_sl ho).1, rfl⟩, hb⟩
  · exact ⟨_, _, _, h1 hf, fun _ => rfl, fun q => absurd q hf, hb⟩
theorem pway_gen (n : Net) (hs hl : Hdr) (a b : Int) (w : World) (h60 : hs.n ≤ 60) (h120 : hl.n ≤ 120) (h : NetIn w n hs hl) :
    Calls Try.prog 19 #[n.val hs hl, .int .i64 a, .int .i64 b] w fun e w' => ∃ va vn vc, e = .returned (.tuple #[.slice va vn vc, .int .i64 (wayFar n hs.n a b), .int .i64 (wayErr n hs.n a b)]) ∧ (wayErr n hs.n a b ≠ 0 → vn = 0) ∧ (wayErr n hs.n a b = 0 → Sl icod w' va vn vc (wayL n.links hs.n a b) ∧ vn = (wayL n.links hs.n a b).length) ∧ Below w.heap.size w w' := by
  refine (pway_any n hs hl a b w h60 h120 h).mono fun e w' hh => ?_
  obtain ⟨v, e1, ho, hb⟩ := hh
  by_cases hf : wayErr n hs.n a b = 0
  · obtain ⟨va, vc, hv, hsl, -⟩ := (ho.yes hf).slice
    subst hv
    exact ⟨_, _, _, e1, fun q => absurd hf q, fun _ => ⟨hsl, rfl⟩, hb⟩
  · have hv := ho.no hf
    subst hv
    exact ⟨_, _, _, e1, fun _ => rfl, fun q => absurd q hf, hb⟩
end Go.Proofs.Ytgfakkkiejeofaa.Ne
