/-
  No cell of these rows narrows 'for every input' (looked for: loops, veiled, ifaces, maps, wideKeys, modest, calm, conditions, laid).
  DERIVED. THE GIVEN ROWS OF THIS SEAT. 12 by the template 'for every input the law returns true; each argument reads behind the call as it read before'; 0 by the template 'total and deterministic' (their statements: YteihffnmgacfpaaTotals.lean).
  GIVEN WITH THE SEED: the statements are not yours to turn. If you find one false, say at which input.
  Laid BY PROGRAM, IN A SANDBOX (cutbox-rows.mjs): the forced cells as the released guide's own fill.sh prints them over the translation 731754f66aea701a… (all of the seat's roots in one cut). By AI agents, Wed Nov 11 2026. No macro, syntax, notation, axiom, sorry.
-/
import Derived.Test.YteihffnmgacfpaaChecked
import GoSem.Claim
import GoSem.ClaimJoined
import GoSem.ClaimMapViews
import Derived.JoinedTies
import Derived.KernelRfl
namespace Go.Proofs.Yteihffnmgacfpaa
/- THE CELL 'sum', in the pinned program and in every row, IS THE sha256 OF THE DUMP (.gsa) THAT YteihffnmgacfpaaProg.lean LOADS. Nothing in Lean hashes anything: it is a label: what it is worth is what the hold of that sum in a sandbox is worth. -/
noncomputable def Try.pinned : Pinned := { name := "yteihffnmgacfpaa", sum := "731754f66aea701a44766b7cf6a3a16adb30bb0f9fc98e50d22eb599d3a92c9e", checked := Try.checked }
namespace Rows
def none {H : Type} : Left H := { results := [], args := [] }

/-- 'viaticumlaw18.TableTells': WHATEVER THE INPUT: true; the input reads as it did. -/
def tableTellsSpec : ChangeSpec := { name := "tableTells", fn := fun _ => fun
  | [d1, d2] => { results := [.lit (.bool true)], args := [d1, d2] }
  | _ => none }
def tableTellsRow : OpenClaim := { program := "yteihffnmgacfpaa", sum := "731754f66aea701a44766b7cf6a3a16adb30bb0f9fc98e50d22eb599d3a92c9e", func := "viaticum/viaticumlaw18.TableTells", spec := "tableTells", unfollowed := true, recurses := true, plainKeys := false, apart := false }
def TableTellsSaid : Prop := tableTellsRow.holds Try.pinned (OpenSpec.ofChange tableTellsSpec)

/-- ITS FALSE NEIGHBOUR: 'it returns false'. Refute it at one input. -/
def tableTellsWrong : ChangeSpec := { name := "tableTells", fn := fun _ => fun
  | [d1, d2] => { results := [.lit (.bool false)], args := [d1, d2] }
  | _ => none }
def TableTellsWrongFalsely : Prop := tableTellsRow.holds Try.pinned (OpenSpec.ofChange tableTellsWrong)

/-- 'viaticumlaw15.GraphNear': WHATEVER THE INPUT: true; the input reads as it did. -/
def graphNearSpec : ChangeSpec := { name := "graphNear", fn := fun _ => fun
  | [d1, d2] => { results := [.lit (.bool true)], args := [d1, d2] }
  | _ => none }
def graphNearRow : OpenClaim := { program := "yteihffnmgacfpaa", sum := "731754f66aea701a44766b7cf6a3a16adb30bb0f9fc98e50d22eb599d3a92c9e", func := "viaticum/viaticumlaw15.GraphNear", spec := "graphNear", unfollowed := true, recurses := true, plainKeys := false, apart := false }
def GraphNearSaid : Prop := graphNearRow.holds Try.pinned (OpenSpec.ofChange graphNearSpec)

/-- ITS FALSE NEIGHBOUR: 'it returns false'. Refute it at one input. -/
def graphNearWrong : ChangeSpec := { name := "graphNear", fn := fun _ => fun
  | [d1, d2] => { results := [.lit (.bool false)], args := [d1, d2] }
  | _ => none }
def GraphNearWrongFalsely : Prop := graphNearRow.holds Try.pinned (OpenSpec.ofChange graphNearWrong)

/-- 'viaticumlaw22.CostTells': WHATEVER THE INPUT: true; the input reads as it did. -/
def costTellsSpec : ChangeSpec := { name := "costTells", fn := fun _ => fun
  | [d1, d2, d3] => { results := [.lit (.bool true)], args := [d1, d2, d3] }
  | _ => none }
def costTellsRow : OpenClaim := { program := "yteihffnmgacfpaa", sum := "731754f66aea701a44766b7cf6a3a16adb30bb0f9fc98e50d22eb599d3a92c9e", func := "viaticum/viaticumlaw22.CostTells", spec := "costTells", unfollowed := true, recurses := true, plainKeys := false, apart := false }
def CostTellsSaid : Prop := costTellsRow.holds Try.pinned (OpenSpec.ofChange costTellsSpec)

/-- ITS FALSE NEIGHBOUR: 'it returns false'. Refute it at one input. -/
def costTellsWrong : ChangeSpec := { name := "costTells", fn := fun _ => fun
  | [d1, d2, d3] => { results := [.lit (.bool false)], args := [d1, d2, d3] }
  | _ => none }
def CostTellsWrongFalsely : Prop := costTellsRow.holds Try.pinned (OpenSpec.ofChange costTellsWrong)

/-- 'viaticumlaw22.CostFits': WHATEVER THE INPUT: true; the input reads as it did. -/
def costFitsSpec : ChangeSpec := { name := "costFits", fn := fun _ => fun
  | [d1, d2, d3] => { results := [.lit (.bool true)], args := [d1, d2, d3] }
  | _ => none }
def costFitsRow : OpenClaim := { program := "yteihffnmgacfpaa", sum := "731754f66aea701a44766b7cf6a3a16adb30bb0f9fc98e50d22eb599d3a92c9e", func := "viaticum/viaticumlaw22.CostFits", spec := "costFits", unfollowed := true, recurses := true, plainKeys := false, apart := false }
def CostFitsSaid : Prop := costFitsRow.holds Try.pinned (OpenSpec.ofChange costFitsSpec)

/-- ITS FALSE NEIGHBOUR: 'it returns false'. Refute it at one input. -/
def costFitsWrong : ChangeSpec := { name := "costFits", fn := fun _ => fun
  | [d1, d2, d3] => { results := [.lit (.bool false)], args := [d1, d2, d3] }
  | _ => none }
def CostFitsWrongFalsely : Prop := costFitsRow.holds Try.pinned (OpenSpec.ofChange costFitsWrong)

/-- 'viaticumlaw23.ViterbiLeast': WHATEVER THE INPUT: true; the input reads as it did. -/
def viterbiLeastSpec : ChangeSpec := { name := "viterbiLeast", fn := fun _ => fun
  | [d1, d2, d3] => { results := [.lit (.bool true)], args := [d1, d2, d3] }
  | _ => none }
def viterbiLeastRow : OpenClaim := { program := "yteihffnmgacfpaa", sum := "731754f66aea701a44766b7cf6a3a16adb30bb0f9fc98e50d22eb599d3a92c9e", func := "viaticum/viaticumlaw23.ViterbiLeast", spec := "viterbiLeast", unfollowed := true, recurses := true, plainKeys := false, apart := false }
def ViterbiLeastSaid : Prop := viterbiLeastRow.holds Try.pinned (OpenSpec.ofChange viterbiLeastSpec)

/-- ITS FALSE NEIGHBOUR: 'it returns false'. Refute it at one input. -/
def viterbiLeastWrong : ChangeSpec := { name := "viterbiLeast", fn := fun _ => fun
  | [d1, d2, d3] => { results := [.lit (.bool false)], args := [d1, d2, d3] }
  | _ => none }
def ViterbiLeastWrongFalsely : Prop := viterbiLeastRow.holds Try.pinned (OpenSpec.ofChange viterbiLeastWrong)

/-- 'viaticumlaw17.PathFits': WHATEVER THE INPUT: true; the input reads as it did. -/
def pathFitsSpec : ChangeSpec := { name := "pathFits", fn := fun _ => fun
  | [d1, d2] => { results := [.lit (.bool true)], args := [d1, d2] }
  | _ => none }
def pathFitsRow : OpenClaim := { program := "yteihffnmgacfpaa", sum := "731754f66aea701a44766b7cf6a3a16adb30bb0f9fc98e50d22eb599d3a92c9e", func := "viaticum/viaticumlaw17.PathFits", spec := "pathFits", unfollowed := true, recurses := true, plainKeys := false, apart := false }
def PathFitsSaid : Prop := pathFitsRow.holds Try.pinned (OpenSpec.ofChange pathFitsSpec)

/-- ITS FALSE NEIGHBOUR: 'it returns false'. Refute it at one input. -/
def pathFitsWrong : ChangeSpec := { name := "pathFits", fn := fun _ => fun
  | [d1, d2] => { results := [.lit (.bool false)], args := [d1, d2] }
  | _ => none }
def PathFitsWrongFalsely : Prop := pathFitsRow.holds Try.pinned (OpenSpec.ofChange pathFitsWrong)

/-- 'viaticumlaw17.PathTells': WHATEVER THE INPUT: true; the input reads as it did. -/
def pathTellsSpec : ChangeSpec := { name := "pathTells", fn := fun _ => fun
  | [d1, d2, d3] => { results := [.lit (.bool true)], args := [d1, d2, d3] }
  | _ => none }
def pathTellsRow : OpenClaim := { program := "yteihffnmgacfpaa", sum := "731754f66aea701a44766b7cf6a3a16adb30bb0f9fc98e50d22eb599d3a92c9e", func := "viaticum/viaticumlaw17.PathTells", spec := "pathTells", unfollowed := true, recurses := true, plainKeys := false, apart := false }
def PathTellsSaid : Prop := pathTellsRow.holds Try.pinned (OpenSpec.ofChange pathTellsSpec)

/-- ITS FALSE NEIGHBOUR: 'it returns false'. Refute it at one input. -/
def pathTellsWrong : ChangeSpec := { name := "pathTells", fn := fun _ => fun
  | [d1, d2, d3] => { results := [.lit (.bool false)], args := [d1, d2, d3] }
  | _ => none }
def PathTellsWrongFalsely : Prop := pathTellsRow.holds Try.pinned (OpenSpec.ofChange pathTellsWrong)

/-- 'viaticumlaw17.PathLeast': WHATEVER THE INPUT: true; the input reads as it did. -/
def pathLeastSpec : ChangeSpec := { name := "pathLeast", fn := fun _ => fun
  | [d1, d2] => { results := [.lit (.bool true)], args := [d1, d2] }
  | _ => none }
def pathLeastRow : OpenClaim := { program := "yteihffnmgacfpaa", sum := "731754f66aea701a44766b7cf6a3a16adb30bb0f9fc98e50d22eb599d3a92c9e", func := "viaticum/viaticumlaw17.PathLeast", spec := "pathLeast", unfollowed := true, recurses := true, plainKeys := false, apart := false }
def PathLeastSaid : Prop := pathLeastRow.holds Try.pinned (OpenSpec.ofChange pathLeastSpec)

/-- ITS FALSE NEIGHBOUR: 'it returns false'. Refute it at one input. -/
def pathLeastWrong : ChangeSpec := { name := "pathLeast", fn := fun _ => fun
  | [d1, d2] => { results := [.lit (.bool false)], args := [d1, d2] }
  | _ => none }
def PathLeastWrongFalsely : Prop := pathLeastRow.holds Try.pinned (OpenSpec.ofChange pathLeastWrong)

/-- 'viaticumlaw52.FlowCounts': WHATEVER THE INPUT: true; the input reads as it did. -/
def flowCountsSpec : ChangeSpec := { name := "flowCounts", fn := fun _ => fun
  | [d1, d2] => { results := [.lit (.bool true)], args := [d1, d2] }
  | _ => none }
def flowCountsRow : OpenClaim := { program := "yteihffnmgacfpaa", sum := "731754f66aea701a44766b7cf6a3a16adb30bb0f9fc98e50d22eb599d3a92c9e", func := "viaticum/viaticumlaw52.FlowCounts", spec := "flowCounts", unfollowed := true, recurses := true, plainKeys := false, apart := false }
def FlowCountsSaid : Prop := flowCountsRow.holds Try.pinned (OpenSpec.ofChange flowCountsSpec)

/-- ITS FALSE NEIGHBOUR: 'it returns false'. Refute it at one input. -/
def flowCountsWrong : ChangeSpec := { name := "flowCounts", fn := fun _ => fun
  | [d1, d2] => { results := [.lit (.bool false)], args := [d1, d2] }
  | _ => none }
def FlowCountsWrongFalsely : Prop := flowCountsRow.holds Try.pinned (OpenSpec.ofChange flowCountsWrong)

/-- 'viaticumlaw18.TableFits': WHATEVER THE INPUT: true; the input reads as it did. -/
def tableFitsSpec : ChangeSpec := { name := "tableFits", fn := fun _ => fun
  | [d1, d2] => { results := [.lit (.bool true)], args := [d1, d2] }
  | _ => none }
def tableFitsRow : OpenClaim := { program := "yteihffnmgacfpaa", sum := "731754f66aea701a44766b7cf6a3a16adb30bb0f9fc98e50d22eb599d3a92c9e", func := "viaticum/viaticumlaw18.TableFits", spec := "tableFits", unfollowed := true, recurses := true, plainKeys := false, apart := false }
def TableFitsSaid : Prop := tableFitsRow.holds Try.pinned (OpenSpec.ofChange tableFitsSpec)

/-- ITS FALSE NEIGHBOUR: 'it returns false'. Refute it at one input. -/
def tableFitsWrong : ChangeSpec := { name := "tableFits", fn := fun _ => fun
  | [d1, d2] => { results := [.lit (.bool false)], args := [d1, d2] }
  | _ => none }
def TableFitsWrongFalsely : Prop := tableFitsRow.holds Try.pinned (OpenSpec.ofChange tableFitsWrong)

/-- 'viaticumlaw52.FlowFits': WHATEVER THE INPUT: true; the input reads as it did. -/
def flowFitsSpec : ChangeSpec := { name := "flowFits", fn := fun _ => fun
  | [d1, d2, d3] => { results := [.lit (.bool true)], args := [d1, d2, d3] }
  | _ => none }
def flowFitsRow : OpenClaim := { program := "yteihffnmgacfpaa", sum := "731754f66aea701a44766b7cf6a3a16adb30bb0f9fc98e50d22eb599d3a92c9e", func := "viaticum/viaticumlaw52.FlowFits", spec := "flowFits", unfollowed := true, recurses := true, plainKeys := false, apart := false }
def FlowFitsSaid : Prop := flowFitsRow.holds Try.pinned (OpenSpec.ofChange flowFitsSpec)

/-- ITS FALSE NEIGHBOUR: 'it returns false'. Refute it at one input. -/
def flowFitsWrong : ChangeSpec := { name := "flowFits", fn := fun _ => fun
  | [d1, d2, d3] => { results := [.lit (.bool false)], args := [d1, d2, d3] }
  | _ => none }
def FlowFitsWrongFalsely : Prop := flowFitsRow.holds Try.pinned (OpenSpec.ofChange flowFitsWrong)

/-- 'viaticumlaw52.FlowMerges': WHATEVER THE INPUT: true; the input reads as it did. -/
def flowMergesSpec : ChangeSpec := { name := "flowMerges", fn := fun _ => fun
  | [d1, d2, d3] => { results := [.lit (.bool true)], args := [d1, d2, d3] }
  | _ => none }
def flowMergesRow : OpenClaim := { program := "yteihffnmgacfpaa", sum := "731754f66aea701a44766b7cf6a3a16adb30bb0f9fc98e50d22eb599d3a92c9e", func := "viaticum/viaticumlaw52.FlowMerges", spec := "flowMerges", unfollowed := true, recurses := true, plainKeys := false, apart := false }
def FlowMergesSaid : Prop := flowMergesRow.holds Try.pinned (OpenSpec.ofChange flowMergesSpec)

/-- ITS FALSE NEIGHBOUR: 'it returns false'. Refute it at one input. -/
def flowMergesWrong : ChangeSpec := { name := "flowMerges", fn := fun _ => fun
  | [d1, d2, d3] => { results := [.lit (.bool false)], args := [d1, d2, d3] }
  | _ => none }
def FlowMergesWrongFalsely : Prop := flowMergesRow.holds Try.pinned (OpenSpec.ofChange flowMergesWrong)

/- THE SECOND FORM. 'bulk': how many values and letters a reading holds, each counted each time it is reached (what is shared counts as often as it is met; a slice's spare places count too). A statement '..UptoSaid' is the law's where the arguments, and the package variables that the reading takes, are together of bulk at most 1048576: NARROWER than '..Said'. Prove '..Said' where nothing that the law and all that it calls make is longer than what came in: it says more and counts as full. Else prove '..UptoSaid'. A law counts once. -/
mutual
def uptoBulk {H : Type} : DataW H → Nat
  | .lit (.string bytes) => bytes.length + 1
  | .lit _ => 1
  | .nil => 1
  | .ptr d => uptoBulk d + 1
  | .slice elems spare => uptoBulkAll elems + uptoBulkAll spare + 1
  | .agg parts => uptoBulkAll parts + 1
  | .iface _ d => uptoBulk d + 1
  | .map entries => uptoBulkEntries entries + 1
  | .held _ => 1
def uptoBulkAll {H : Type} : List (DataW H) → Nat
  | [] => 0
  | d :: r => uptoBulk d + uptoBulkAll r
def uptoBulkEntries {H : Type} : List (Lit × DataW H) → Nat
  | [] => 0
  | x :: r => uptoBulkEntry x + uptoBulkEntries r
def uptoBulkEntry {H : Type} : Lit × DataW H → Nat
  | (.string bytes, d) => bytes.length + uptoBulk d + 1
  | (_, d) => uptoBulk d + 1
 end
def uptoSmall : (H : Type) → List (DataW H) → Bool := fun _ ds => decide (uptoBulkAll ds ≤ 1048576)
def OpenSpec.upto (s : _root_.Go.ChangeSpec) : _root_.Go.OpenSpec := { _root_.Go.OpenSpec.ofChange s with cond := some uptoSmall }

/-- 'viaticumlaw18.TableTells', WHERE WHAT IT READS IS OF BULK AT MOST 1048576: true; the input reads as it did. -/
def tableTellsUptoRow : OpenClaim := { program := "yteihffnmgacfpaa", sum := "731754f66aea701a44766b7cf6a3a16adb30bb0f9fc98e50d22eb599d3a92c9e", func := "viaticum/viaticumlaw18.TableTells", spec := "tableTells", unfollowed := true, recurses := true, plainKeys := false, apart := false, narrowed := true }
def TableTellsUptoSaid : Prop := tableTellsUptoRow.holds Try.pinned (OpenSpec.upto tableTellsSpec)

/-- 'viaticumlaw15.GraphNear', WHERE WHAT IT READS IS OF BULK AT MOST 1048576: true; the input reads as it did. -/
def graphNearUptoRow : OpenClaim := { program := "yteihffnmgacfpaa", sum := "731754f66aea701a44766b7cf6a3a16adb30bb0f9fc98e50d22eb599d3a92c9e", func := "viaticum/viaticumlaw15.GraphNear", spec := "graphNear", unfollowed := true, recurses := true, plainKeys := false, apart := false, narrowed := true }
def GraphNearUptoSaid : Prop := graphNearUptoRow.holds Try.pinned (OpenSpec.upto graphNearSpec)

/-- 'viaticumlaw22.CostTells', WHERE WHAT IT READS IS OF BULK AT MOST 1048576: true; the input reads as it did. -/
def costTellsUptoRow : OpenClaim := { program := "yteihffnmgacfpaa", sum := "731754f66aea701a44766b7cf6a3a16adb30bb0f9fc98e50d22eb599d3a92c9e", func := "viaticum/viaticumlaw22.CostTells", spec := "costTells", unfollowed := true, recurses := true, plainKeys := false, apart := false, narrowed := true }
def CostTellsUptoSaid : Prop := costTellsUptoRow.holds Try.pinned (OpenSpec.upto costTellsSpec)

/-- 'viaticumlaw22.CostFits', WHERE WHAT IT READS IS OF BULK AT MOST 1048576: true; the input reads as it did. -/
def costFitsUptoRow : OpenClaim := { program := "yteihffnmgacfpaa", sum := "731754f66aea701a44766b7cf6a3a16adb30bb0f9fc98e50d22eb599d3a92c9e", func := "viaticum/viaticumlaw22.CostFits", spec := "costFits", unfollowed := true, recurses := true, plainKeys := false, apart := false, narrowed := true }
def CostFitsUptoSaid : Prop := costFitsUptoRow.holds Try.pinned (OpenSpec.upto costFitsSpec)

/-- 'viaticumlaw23.ViterbiLeast', WHERE WHAT IT READS IS OF BULK AT MOST 1048576: true; the input reads as it did. -/
def viterbiLeastUptoRow : OpenClaim := { program := "yteihffnmgacfpaa", sum := "731754f66aea701a44766b7cf6a3a16adb30bb0f9fc98e50d22eb599d3a92c9e", func := "viaticum/viaticumlaw23.ViterbiLeast", spec := "viterbiLeast", unfollowed := true, recurses := true, plainKeys := false, apart := false, narrowed := true }
def ViterbiLeastUptoSaid : Prop := viterbiLeastUptoRow.holds Try.pinned (OpenSpec.upto viterbiLeastSpec)

/-- 'viaticumlaw17.PathFits', WHERE WHAT IT READS IS OF BULK AT MOST 1048576: true; the input reads as it did. -/
def pathFitsUptoRow : OpenClaim := { program := "yteihffnmgacfpaa", sum := "731754f66aea701a44766b7cf6a3a16adb30bb0f9fc98e50d22eb599d3a92c9e", func := "viaticum/viaticumlaw17.PathFits", spec := "pathFits", unfollowed := true, recurses := true, plainKeys := false, apart := false, narrowed := true }
def PathFitsUptoSaid : Prop := pathFitsUptoRow.holds Try.pinned (OpenSpec.upto pathFitsSpec)

/-- 'viaticumlaw17.PathTells', WHERE WHAT IT READS IS OF BULK AT MOST 1048576: true; the input reads as it did. -/
def pathTellsUptoRow : OpenClaim := { program := "yteihffnmgacfpaa", sum := "731754f66aea701a44766b7cf6a3a16adb30bb0f9fc98e50d22eb599d3a92c9e", func := "viaticum/viaticumlaw17.PathTells", spec := "pathTells", unfollowed := true, recurses := true, plainKeys := false, apart := false, narrowed := true }
def PathTellsUptoSaid : Prop := pathTellsUptoRow.holds Try.pinned (OpenSpec.upto pathTellsSpec)

/-- 'viaticumlaw17.PathLeast', WHERE WHAT IT READS IS OF BULK AT MOST 1048576: true; the input reads as it did. -/
def pathLeastUptoRow : OpenClaim := { program := "yteihffnmgacfpaa", sum := "731754f66aea701a44766b7cf6a3a16adb30bb0f9fc98e50d22eb599d3a92c9e", func := "viaticum/viaticumlaw17.PathLeast", spec := "pathLeast", unfollowed := true, recurses := true, plainKeys := false, apart := false, narrowed := true }
def PathLeastUptoSaid : Prop := pathLeastUptoRow.holds Try.pinned (OpenSpec.upto pathLeastSpec)

/-- 'viaticumlaw52.FlowCounts', WHERE WHAT IT READS IS OF BULK AT MOST 1048576: true; the input reads as it did. -/
def flowCountsUptoRow : OpenClaim := { program := "yteihffnmgacfpaa", sum := "731754f66aea701a44766b7cf6a3a16adb30bb0f9fc98e50d22eb599d3a92c9e", func := "viaticum/viaticumlaw52.FlowCounts", spec := "flowCounts", unfollowed := true, recurses := true, plainKeys := false, apart := false, narrowed := true }
def FlowCountsUptoSaid : Prop := flowCountsUptoRow.holds Try.pinned (OpenSpec.upto flowCountsSpec)

/-- 'viaticumlaw18.TableFits', WHERE WHAT IT READS IS OF BULK AT MOST 1048576: true; the input reads as it did. -/
def tableFitsUptoRow : OpenClaim := { program := "yteihffnmgacfpaa", sum := "731754f66aea701a44766b7cf6a3a16adb30bb0f9fc98e50d22eb599d3a92c9e", func := "viaticum/viaticumlaw18.TableFits", spec := "tableFits", unfollowed := true, recurses := true, plainKeys := false, apart := false, narrowed := true }
def TableFitsUptoSaid : Prop := tableFitsUptoRow.holds Try.pinned (OpenSpec.upto tableFitsSpec)

/-- 'viaticumlaw52.FlowFits', WHERE WHAT IT READS IS OF BULK AT MOST 1048576: true; the input reads as it did. -/
def flowFitsUptoRow : OpenClaim := { program := "yteihffnmgacfpaa", sum := "731754f66aea701a44766b7cf6a3a16adb30bb0f9fc98e50d22eb599d3a92c9e", func := "viaticum/viaticumlaw52.FlowFits", spec := "flowFits", unfollowed := true, recurses := true, plainKeys := false, apart := false, narrowed := true }
def FlowFitsUptoSaid : Prop := flowFitsUptoRow.holds Try.pinned (OpenSpec.upto flowFitsSpec)

/-- 'viaticumlaw52.FlowMerges', WHERE WHAT IT READS IS OF BULK AT MOST 1048576: true; the input reads as it did. -/
def flowMergesUptoRow : OpenClaim := { program := "yteihffnmgacfpaa", sum := "731754f66aea701a44766b7cf6a3a16adb30bb0f9fc98e50d22eb599d3a92c9e", func := "viaticum/viaticumlaw52.FlowMerges", spec := "flowMerges", unfollowed := true, recurses := true, plainKeys := false, apart := false, narrowed := true }
def FlowMergesUptoSaid : Prop := flowMergesUptoRow.holds Try.pinned (OpenSpec.upto flowMergesSpec)

end Rows
end Go.Proofs.Yteihffnmgacfpaa
