/-
  No cell of these rows narrows 'for every input' (looked for: loops, veiled, ifaces, maps, wideKeys, modest, calm, conditions, laid).
  DERIVED. THE GIVEN ROWS OF THIS SEAT. 2 by the template 'for every input the law returns true; each argument reads behind the call as it read before'; 0 by the template 'total and deterministic' (their statements: YtehflakmellooaaTotals.lean).
  GIVEN WITH THE SEED: the statements are not yours to turn. If you find one false, say at which input.
  Laid BY PROGRAM, IN A SANDBOX (cutbox-rows.mjs): the forced cells as the released guide's own fill.sh prints them over the translation fd9a75aa57effd69… (all of the seat's roots in one cut). By AI agents, Wed Nov 11 2026. No macro, syntax, notation, axiom, sorry.
-/
import Derived.Test.YtehflakmellooaaChecked
import GoSem.Claim
import GoSem.ClaimJoined
import GoSem.ClaimMapViews
import Derived.JoinedTies
import Derived.KernelRfl
namespace Go.Proofs.Ytehflakmellooaa
/- THE CELL 'sum', in the pinned program and in every row, IS THE sha256 OF THE DUMP (.gsa) THAT YtehflakmellooaaProg.lean LOADS. Nothing in Lean hashes anything: it is a label: what it is worth is what the hold of that sum in a sandbox is worth. -/
noncomputable def Try.pinned : Pinned := { name := "ytehflakmellooaa", sum := "fd9a75aa57effd69a0a3d78f9422fb5916e9e0cb3111100d6e283c08fd76d583", checked := Try.checked }
namespace Rows
def none {H : Type} : Left H := { results := [], args := [] }

/-- 'viaticumlaw14.GridFits': WHATEVER THE INPUT: true; the input reads as it did. -/
def gridFitsSpec : ChangeSpec := { name := "gridFits", fn := fun _ => fun
  | [d1, d2, d3] => { results := [.lit (.bool true)], args := [d1, d2, d3] }
  | _ => none }
def gridFitsRow : OpenClaim := { program := "ytehflakmellooaa", sum := "fd9a75aa57effd69a0a3d78f9422fb5916e9e0cb3111100d6e283c08fd76d583", func := "viaticum/viaticumlaw14.GridFits", spec := "gridFits", unfollowed := true, recurses := true, plainKeys := false, apart := false }
def GridFitsSaid : Prop := gridFitsRow.holds Try.pinned (OpenSpec.ofChange gridFitsSpec)

/-- ITS FALSE NEIGHBOUR: 'it returns false'. Refute it at one input. -/
def gridFitsWrong : ChangeSpec := { name := "gridFits", fn := fun _ => fun
  | [d1, d2, d3] => { results := [.lit (.bool false)], args := [d1, d2, d3] }
  | _ => none }
def GridFitsWrongFalsely : Prop := gridFitsRow.holds Try.pinned (OpenSpec.ofChange gridFitsWrong)

/-- 'viaticumlaw14.GridFinds': WHATEVER THE INPUT: true; the input reads as it did. -/
def gridFindsSpec : ChangeSpec := { name := "gridFinds", fn := fun _ => fun
  | [d1, d2, d3] => { results := [.lit (.bool true)], args := [d1, d2, d3] }
  | _ => none }
def gridFindsRow : OpenClaim := { program := "ytehflakmellooaa", sum := "fd9a75aa57effd69a0a3d78f9422fb5916e9e0cb3111100d6e283c08fd76d583", func := "viaticum/viaticumlaw14.GridFinds", spec := "gridFinds", unfollowed := true, recurses := true, plainKeys := false, apart := false }
def GridFindsSaid : Prop := gridFindsRow.holds Try.pinned (OpenSpec.ofChange gridFindsSpec)

/-- ITS FALSE NEIGHBOUR: 'it returns false'. Refute it at one input. -/
def gridFindsWrong : ChangeSpec := { name := "gridFinds", fn := fun _ => fun
  | [d1, d2, d3] => { results := [.lit (.bool false)], args := [d1, d2, d3] }
  | _ => none }
def GridFindsWrongFalsely : Prop := gridFindsRow.holds Try.pinned (OpenSpec.ofChange gridFindsWrong)

/- THE SECOND FORM. 'bulk': how many values and letters a reading holds, each counted each time it is reached (what is shared counts as often as it is met; a slice's spare places count too). A statement '..UptoSaid' is the law's where the arguments, and the package variables that the reading takes, are together of bulk at most 1048576: NARROWER than '..Said'. Prove '..Said' where nothing that the law and all that it calls make is longer than what came in: it says more and counts as full. Else prove '..UptoSaid'. A law counts once. -/
mutual
def uptoBulk {H : Type} : DataW H → Nat
  | .lit (.string bytes) => bytes.length + 1
  | .lit _ => 1
  | .nil => 1
  | .ptr d => uptoBulk d + 1
  | .slice elems spare => uptoBulkAll elems + uptoBulkAll spare + 1
  | .agg parts => uptoBulkAll parts + 1
  | .iface _ d => uptoBulk d + 1
  | .map entries => uptoBulkEntries entries + 1
  | .held _ => 1
def uptoBulkAll {H : Type} : List (DataW H) → Nat
  | [] => 0
  | d :: r => uptoBulk d + uptoBulkAll r
def uptoBulkEntries {H : Type} : List (Lit × DataW H) → Nat
  | [] => 0
  | x :: r => uptoBulkEntry x + uptoBulkEntries r
def uptoBulkEntry {H : Type} : Lit × DataW H → Nat
  | (.string bytes, d) => bytes.length + uptoBulk d + 1
  | (_, d) => uptoBulk d + 1
 end
def uptoSmall : (H : Type) → List (DataW H) → Bool := fun _ ds => decide (uptoBulkAll ds ≤ 1048576)
def OpenSpec.upto (s : _root_.Go.ChangeSpec) : _root_.Go.OpenSpec := { _root_.Go.OpenSpec.ofChange s with cond := some uptoSmall }

/-- 'viaticumlaw14.GridFits', WHERE WHAT IT READS IS OF BULK AT MOST 1048576: true; the input reads as it did. -/
def gridFitsUptoRow : OpenClaim := { program := "ytehflakmellooaa", sum := "fd9a75aa57effd69a0a3d78f9422fb5916e9e0cb3111100d6e283c08fd76d583", func := "viaticum/viaticumlaw14.GridFits", spec := "gridFits", unfollowed := true, recurses := true, plainKeys := false, apart := false, narrowed := true }
def GridFitsUptoSaid : Prop := gridFitsUptoRow.holds Try.pinned (OpenSpec.upto gridFitsSpec)

/-- 'viaticumlaw14.GridFinds', WHERE WHAT IT READS IS OF BULK AT MOST 1048576: true; the input reads as it did. -/
def gridFindsUptoRow : OpenClaim := { program := "ytehflakmellooaa", sum := "fd9a75aa57effd69a0a3d78f9422fb5916e9e0cb3111100d6e283c08fd76d583", func := "viaticum/viaticumlaw14.GridFinds", spec := "gridFinds", unfollowed := true, recurses := true, plainKeys := false, apart := false, narrowed := true }
def GridFindsUptoSaid : Prop := gridFindsUptoRow.holds Try.pinned (OpenSpec.upto gridFindsSpec)

end Rows
end Go.Proofs.Ytehflakmellooaa
