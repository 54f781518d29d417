/-
  No cell of these rows narrows 'for every input' (looked for: loops, veiled, ifaces, maps, wideKeys, modest, calm, conditions, laid).
  DERIVED. THE GIVEN ROWS OF THIS SEAT. 10 by the template 'for every input the law returns true; each argument reads behind the call as it read before'; 0 by the template 'total and deterministic' (their statements: YtjejpaladjfegaaTotals.lean).
  GIVEN WITH THE SEED: the statements are not yours to turn. If you find one false, say at which input.
  Laid BY PROGRAM, IN A SANDBOX (cutbox-rows.mjs): the forced cells as the released guide's own fill.sh prints them over the translation 7dc4c352be896725… (all of the seat's roots in one cut). By AI agents, Wed Nov 11 2026. No macro, syntax, notation, axiom, sorry.
-/
import Derived.Test.YtjejpaladjfegaaChecked
import GoSem.Claim
import GoSem.ClaimJoined
import GoSem.ClaimMapViews
import Derived.JoinedTies
import Derived.KernelRfl
namespace Go.Proofs.Ytjejpaladjfegaa
/- THE CELL 'sum', in the pinned program and in every row, IS THE sha256 OF THE DUMP (.gsa) THAT YtjejpaladjfegaaProg.lean LOADS. Nothing in Lean hashes anything: it is a label: what it is worth is what the hold of that sum in a sandbox is worth. -/
noncomputable def Try.pinned : Pinned := { name := "ytjejpaladjfegaa", sum := "7dc4c352be896725a2b2090b4de19782d3dd112d74db45220050f1e85a858c26", checked := Try.checked }
namespace Rows
def none {H : Type} : Left H := { results := [], args := [] }

/-- 'viaticumlaw23.ViterbiBest': WHATEVER THE INPUT: true; the input reads as it did. -/
def viterbiBestSpec : ChangeSpec := { name := "viterbiBest", fn := fun _ => fun
  | [d1, d2, d3] => { results := [.lit (.bool true)], args := [d1, d2, d3] }
  | _ => none }
def viterbiBestRow : OpenClaim := { program := "ytjejpaladjfegaa", sum := "7dc4c352be896725a2b2090b4de19782d3dd112d74db45220050f1e85a858c26", func := "viaticum/viaticumlaw23.ViterbiBest", spec := "viterbiBest", unfollowed := true, recurses := true, plainKeys := false, apart := false }
def ViterbiBestSaid : Prop := viterbiBestRow.holds Try.pinned (OpenSpec.ofChange viterbiBestSpec)

/-- ITS FALSE NEIGHBOUR: 'it returns false'. Refute it at one input. -/
def viterbiBestWrong : ChangeSpec := { name := "viterbiBest", fn := fun _ => fun
  | [d1, d2, d3] => { results := [.lit (.bool false)], args := [d1, d2, d3] }
  | _ => none }
def ViterbiBestWrongFalsely : Prop := viterbiBestRow.holds Try.pinned (OpenSpec.ofChange viterbiBestWrong)

/-- 'viaticumlaw23.ViterbiLeast': WHATEVER THE INPUT: true; the input reads as it did. -/
def viterbiLeastSpec : ChangeSpec := { name := "viterbiLeast", fn := fun _ => fun
  | [d1, d2, d3] => { results := [.lit (.bool true)], args := [d1, d2, d3] }
  | _ => none }
def viterbiLeastRow : OpenClaim := { program := "ytjejpaladjfegaa", sum := "7dc4c352be896725a2b2090b4de19782d3dd112d74db45220050f1e85a858c26", func := "viaticum/viaticumlaw23.ViterbiLeast", spec := "viterbiLeast", unfollowed := true, recurses := true, plainKeys := false, apart := false }
def ViterbiLeastSaid : Prop := viterbiLeastRow.holds Try.pinned (OpenSpec.ofChange viterbiLeastSpec)

/-- ITS FALSE NEIGHBOUR: 'it returns false'. Refute it at one input. -/
def viterbiLeastWrong : ChangeSpec := { name := "viterbiLeast", fn := fun _ => fun
  | [d1, d2, d3] => { results := [.lit (.bool false)], args := [d1, d2, d3] }
  | _ => none }
def ViterbiLeastWrongFalsely : Prop := viterbiLeastRow.holds Try.pinned (OpenSpec.ofChange viterbiLeastWrong)

/-- 'viaticumlaw46.InspectTells': WHATEVER THE INPUT: true; the input reads as it did. -/
def inspectTellsSpec : ChangeSpec := { name := "inspectTells", fn := fun _ => fun
  | [d1, d2, d3] => { results := [.lit (.bool true)], args := [d1, d2, d3] }
  | _ => none }
def inspectTellsRow : OpenClaim := { program := "ytjejpaladjfegaa", sum := "7dc4c352be896725a2b2090b4de19782d3dd112d74db45220050f1e85a858c26", func := "viaticum/viaticumlaw46.InspectTells", spec := "inspectTells", unfollowed := true, recurses := true, plainKeys := false, apart := false }
def InspectTellsSaid : Prop := inspectTellsRow.holds Try.pinned (OpenSpec.ofChange inspectTellsSpec)

/-- ITS FALSE NEIGHBOUR: 'it returns false'. Refute it at one input. -/
def inspectTellsWrong : ChangeSpec := { name := "inspectTells", fn := fun _ => fun
  | [d1, d2, d3] => { results := [.lit (.bool false)], args := [d1, d2, d3] }
  | _ => none }
def InspectTellsWrongFalsely : Prop := inspectTellsRow.holds Try.pinned (OpenSpec.ofChange inspectTellsWrong)

/-- 'viaticumlaw15.GraphBytes': WHATEVER THE INPUT: true; the input reads as it did. -/
def graphBytesSpec : ChangeSpec := { name := "graphBytes", fn := fun _ => fun
  | [d1, d2] => { results := [.lit (.bool true)], args := [d1, d2] }
  | _ => none }
def graphBytesRow : OpenClaim := { program := "ytjejpaladjfegaa", sum := "7dc4c352be896725a2b2090b4de19782d3dd112d74db45220050f1e85a858c26", func := "viaticum/viaticumlaw15.GraphBytes", spec := "graphBytes", unfollowed := true, recurses := true, plainKeys := false, apart := false }
def GraphBytesSaid : Prop := graphBytesRow.holds Try.pinned (OpenSpec.ofChange graphBytesSpec)

/-- ITS FALSE NEIGHBOUR: 'it returns false'. Refute it at one input. -/
def graphBytesWrong : ChangeSpec := { name := "graphBytes", fn := fun _ => fun
  | [d1, d2] => { results := [.lit (.bool false)], args := [d1, d2] }
  | _ => none }
def GraphBytesWrongFalsely : Prop := graphBytesRow.holds Try.pinned (OpenSpec.ofChange graphBytesWrong)

/-- 'viaticumlaw15.GraphBack': WHATEVER THE INPUT: true; the input reads as it did. -/
def graphBackSpec : ChangeSpec := { name := "graphBack", fn := fun _ => fun
  | [d] => { results := [.lit (.bool true)], args := [d] }
  | _ => none }
def graphBackRow : OpenClaim := { program := "ytjejpaladjfegaa", sum := "7dc4c352be896725a2b2090b4de19782d3dd112d74db45220050f1e85a858c26", func := "viaticum/viaticumlaw15.GraphBack", spec := "graphBack", unfollowed := true, recurses := true, plainKeys := false, apart := false }
def GraphBackSaid : Prop := graphBackRow.holds Try.pinned (OpenSpec.ofChange graphBackSpec)

/-- ITS FALSE NEIGHBOUR: 'it returns false'. Refute it at one input. -/
def graphBackWrong : ChangeSpec := { name := "graphBack", fn := fun _ => fun
  | [d] => { results := [.lit (.bool false)], args := [d] }
  | _ => none }
def GraphBackWrongFalsely : Prop := graphBackRow.holds Try.pinned (OpenSpec.ofChange graphBackWrong)

/-- 'viaticumlaw55.ApportionShares': WHATEVER THE INPUT: true; the input reads as it did. -/
def apportionSharesSpec : ChangeSpec := { name := "apportionShares", fn := fun _ => fun
  | [d1, d2] => { results := [.lit (.bool true)], args := [d1, d2] }
  | _ => none }
def apportionSharesRow : OpenClaim := { program := "ytjejpaladjfegaa", sum := "7dc4c352be896725a2b2090b4de19782d3dd112d74db45220050f1e85a858c26", func := "viaticum/viaticumlaw55.ApportionShares", spec := "apportionShares", unfollowed := true, recurses := true, plainKeys := false, apart := false }
def ApportionSharesSaid : Prop := apportionSharesRow.holds Try.pinned (OpenSpec.ofChange apportionSharesSpec)

/-- ITS FALSE NEIGHBOUR: 'it returns false'. Refute it at one input. -/
def apportionSharesWrong : ChangeSpec := { name := "apportionShares", fn := fun _ => fun
  | [d1, d2] => { results := [.lit (.bool false)], args := [d1, d2] }
  | _ => none }
def ApportionSharesWrongFalsely : Prop := apportionSharesRow.holds Try.pinned (OpenSpec.ofChange apportionSharesWrong)

/-- 'viaticumlaw14.GridFits': WHATEVER THE INPUT: true; the input reads as it did. -/
def gridFitsSpec : ChangeSpec := { name := "gridFits", fn := fun _ => fun
  | [d1, d2, d3] => { results := [.lit (.bool true)], args := [d1, d2, d3] }
  | _ => none }
def gridFitsRow : OpenClaim := { program := "ytjejpaladjfegaa", sum := "7dc4c352be896725a2b2090b4de19782d3dd112d74db45220050f1e85a858c26", func := "viaticum/viaticumlaw14.GridFits", spec := "gridFits", unfollowed := true, recurses := true, plainKeys := false, apart := false }
def GridFitsSaid : Prop := gridFitsRow.holds Try.pinned (OpenSpec.ofChange gridFitsSpec)

/-- ITS FALSE NEIGHBOUR: 'it returns false'. Refute it at one input. -/
def gridFitsWrong : ChangeSpec := { name := "gridFits", fn := fun _ => fun
  | [d1, d2, d3] => { results := [.lit (.bool false)], args := [d1, d2, d3] }
  | _ => none }
def GridFitsWrongFalsely : Prop := gridFitsRow.holds Try.pinned (OpenSpec.ofChange gridFitsWrong)

/-- 'viaticumlaw14.GridFinds': WHATEVER THE INPUT: true; the input reads as it did. -/
def gridFindsSpec : ChangeSpec := { name := "gridFinds", fn := fun _ => fun
  | [d1, d2, d3] => { results := [.lit (.bool true)], args := [d1, d2, d3] }
  | _ => none }
def gridFindsRow : OpenClaim := { program := "ytjejpaladjfegaa", sum := "7dc4c352be896725a2b2090b4de19782d3dd112d74db45220050f1e85a858c26", func := "viaticum/viaticumlaw14.GridFinds", spec := "gridFinds", unfollowed := true, recurses := true, plainKeys := false, apart := false }
def GridFindsSaid : Prop := gridFindsRow.holds Try.pinned (OpenSpec.ofChange gridFindsSpec)

/-- ITS FALSE NEIGHBOUR: 'it returns false'. Refute it at one input. -/
def gridFindsWrong : ChangeSpec := { name := "gridFinds", fn := fun _ => fun
  | [d1, d2, d3] => { results := [.lit (.bool false)], args := [d1, d2, d3] }
  | _ => none }
def GridFindsWrongFalsely : Prop := gridFindsRow.holds Try.pinned (OpenSpec.ofChange gridFindsWrong)

/-- 'viaticumlaw49.UplinkPlays': WHATEVER THE INPUT: true; the input reads as it did. -/
def uplinkPlaysSpec : ChangeSpec := { name := "uplinkPlays", fn := fun _ => fun
  | [d] => { results := [.lit (.bool true)], args := [d] }
  | _ => none }
def uplinkPlaysRow : OpenClaim := { program := "ytjejpaladjfegaa", sum := "7dc4c352be896725a2b2090b4de19782d3dd112d74db45220050f1e85a858c26", func := "viaticum/viaticumlaw49.UplinkPlays", spec := "uplinkPlays", unfollowed := true, recurses := true, plainKeys := false, apart := false }
def UplinkPlaysSaid : Prop := uplinkPlaysRow.holds Try.pinned (OpenSpec.ofChange uplinkPlaysSpec)

/-- ITS FALSE NEIGHBOUR: 'it returns false'. Refute it at one input. -/
def uplinkPlaysWrong : ChangeSpec := { name := "uplinkPlays", fn := fun _ => fun
  | [d] => { results := [.lit (.bool false)], args := [d] }
  | _ => none }
def UplinkPlaysWrongFalsely : Prop := uplinkPlaysRow.holds Try.pinned (OpenSpec.ofChange uplinkPlaysWrong)

/-- 'viaticumlaw49.UplinkKeeps': WHATEVER THE INPUT: true; the input reads as it did. -/
def uplinkKeepsSpec : ChangeSpec := { name := "uplinkKeeps", fn := fun _ => fun
  | [d] => { results := [.lit (.bool true)], args := [d] }
  | _ => none }
def uplinkKeepsRow : OpenClaim := { program := "ytjejpaladjfegaa", sum := "7dc4c352be896725a2b2090b4de19782d3dd112d74db45220050f1e85a858c26", func := "viaticum/viaticumlaw49.UplinkKeeps", spec := "uplinkKeeps", unfollowed := true, recurses := true, plainKeys := false, apart := false }
def UplinkKeepsSaid : Prop := uplinkKeepsRow.holds Try.pinned (OpenSpec.ofChange uplinkKeepsSpec)

/-- ITS FALSE NEIGHBOUR: 'it returns false'. Refute it at one input. -/
def uplinkKeepsWrong : ChangeSpec := { name := "uplinkKeeps", fn := fun _ => fun
  | [d] => { results := [.lit (.bool false)], args := [d] }
  | _ => none }
def UplinkKeepsWrongFalsely : Prop := uplinkKeepsRow.holds Try.pinned (OpenSpec.ofChange uplinkKeepsWrong)

/- THE SECOND FORM. 'bulk': how many values and letters a reading holds, each counted each time it is reached (what is shared counts as often as it is met; a slice's spare places count too). A statement '..UptoSaid' is the law's where the arguments, and the package variables that the reading takes, are together of bulk at most 1048576: NARROWER than '..Said'. Prove '..Said' where nothing that the law and all that it calls make is longer than what came in: it says more and counts as full. Else prove '..UptoSaid'. A law counts once. -/
mutual
def uptoBulk {H : Type} : DataW H → Nat
  | .lit (.string bytes) => bytes.length + 1
  | .lit _ => 1
  | .nil => 1
  | .ptr d => uptoBulk d + 1
  | .slice elems spare => uptoBulkAll elems + uptoBulkAll spare + 1
  | .agg parts => uptoBulkAll parts + 1
  | .iface _ d => uptoBulk d + 1
  | .map entries => uptoBulkEntries entries + 1
  | .held _ => 1
def uptoBulkAll {H : Type} : List (DataW H) → Nat
  | [] => 0
  | d :: r => uptoBulk d + uptoBulkAll r
def uptoBulkEntries {H : Type} : List (Lit × DataW H) → Nat
  | [] => 0
  | x :: r => uptoBulkEntry x + uptoBulkEntries r
def uptoBulkEntry {H : Type} : Lit × DataW H → Nat
  | (.string bytes, d) => bytes.length + uptoBulk d + 1
  | (_, d) => uptoBulk d + 1
 end
def uptoSmall : (H : Type) → List (DataW H) → Bool := fun _ ds => decide (uptoBulkAll ds ≤ 1048576)
def OpenSpec.upto (s : _root_.Go.ChangeSpec) : _root_.Go.OpenSpec := { _root_.Go.OpenSpec.ofChange s with cond := some uptoSmall }

/-- 'viaticumlaw23.ViterbiBest', WHERE WHAT IT READS IS OF BULK AT MOST 1048576: true; the input reads as it did. -/
def viterbiBestUptoRow : OpenClaim := { program := "ytjejpaladjfegaa", sum := "7dc4c352be896725a2b2090b4de19782d3dd112d74db45220050f1e85a858c26", func := "viaticum/viaticumlaw23.ViterbiBest", spec := "viterbiBest", unfollowed := true, recurses := true, plainKeys := false, apart := false, narrowed := true }
def ViterbiBestUptoSaid : Prop := viterbiBestUptoRow.holds Try.pinned (OpenSpec.upto viterbiBestSpec)

/-- 'viaticumlaw23.ViterbiLeast', WHERE WHAT IT READS IS OF BULK AT MOST 1048576: true; the input reads as it did. -/
def viterbiLeastUptoRow : OpenClaim := { program := "ytjejpaladjfegaa", sum := "7dc4c352be896725a2b2090b4de19782d3dd112d74db45220050f1e85a858c26", func := "viaticum/viaticumlaw23.ViterbiLeast", spec := "viterbiLeast", unfollowed := true, recurses := true, plainKeys := false, apart := false, narrowed := true }
def ViterbiLeastUptoSaid : Prop := viterbiLeastUptoRow.holds Try.pinned (OpenSpec.upto viterbiLeastSpec)

/-- 'viaticumlaw46.InspectTells', WHERE WHAT IT READS IS OF BULK AT MOST 1048576: true; the input reads as it did. -/
def inspectTellsUptoRow : OpenClaim := { program := "ytjejpaladjfegaa", sum := "7dc4c352be896725a2b2090b4de19782d3dd112d74db45220050f1e85a858c26", func := "viaticum/viaticumlaw46.InspectTells", spec := "inspectTells", unfollowed := true, recurses := true, plainKeys := false, apart := false, narrowed := true }
def InspectTellsUptoSaid : Prop := inspectTellsUptoRow.holds Try.pinned (OpenSpec.upto inspectTellsSpec)

/-- 'viaticumlaw15.GraphBytes', WHERE WHAT IT READS IS OF BULK AT MOST 1048576: true; the input reads as it did. -/
def graphBytesUptoRow : OpenClaim := { program := "ytjejpaladjfegaa", sum := "7dc4c352be896725a2b2090b4de19782d3dd112d74db45220050f1e85a858c26", func := "viaticum/viaticumlaw15.GraphBytes", spec := "graphBytes", unfollowed := true, recurses := true, plainKeys := false, apart := false, narrowed := true }
def GraphBytesUptoSaid : Prop := graphBytesUptoRow.holds Try.pinned (OpenSpec.upto graphBytesSpec)

/-- 'viaticumlaw15.GraphBack', WHERE WHAT IT READS IS OF BULK AT MOST 1048576: true; the input reads as it did. -/
def graphBackUptoRow : OpenClaim := { program := "ytjejpaladjfegaa", sum := "7dc4c352be896725a2b2090b4de19782d3dd112d74db45220050f1e85a858c26", func := "viaticum/viaticumlaw15.GraphBack", spec := "graphBack", unfollowed := true, recurses := true, plainKeys := false, apart := false, narrowed := true }
def GraphBackUptoSaid : Prop := graphBackUptoRow.holds Try.pinned (OpenSpec.upto graphBackSpec)

/-- 'viaticumlaw55.ApportionShares', WHERE WHAT IT READS IS OF BULK AT MOST 1048576: true; the input reads as it did. -/
def apportionSharesUptoRow : OpenClaim := { program := "ytjejpaladjfegaa", sum := "7dc4c352be896725a2b2090b4de19782d3dd112d74db45220050f1e85a858c26", func := "viaticum/viaticumlaw55.ApportionShares", spec := "apportionShares", unfollowed := true, recurses := true, plainKeys := false, apart := false, narrowed := true }
def ApportionSharesUptoSaid : Prop := apportionSharesUptoRow.holds Try.pinned (OpenSpec.upto apportionSharesSpec)

/-- 'viaticumlaw14.GridFits', WHERE WHAT IT READS IS OF BULK AT MOST 1048576: true; the input reads as it did. -/
def gridFitsUptoRow : OpenClaim := { program := "ytjejpaladjfegaa", sum := "7dc4c352be896725a2b2090b4de19782d3dd112d74db45220050f1e85a858c26", func := "viaticum/viaticumlaw14.GridFits", spec := "gridFits", unfollowed := true, recurses := true, plainKeys := false, apart := false, narrowed := true }
def GridFitsUptoSaid : Prop := gridFitsUptoRow.holds Try.pinned (OpenSpec.upto gridFitsSpec)

/-- 'viaticumlaw14.GridFinds', WHERE WHAT IT READS IS OF BULK AT MOST 1048576: true; the input reads as it did. -/
def gridFindsUptoRow : OpenClaim := { program := "ytjejpaladjfegaa", sum := "7dc4c352be896725a2b2090b4de19782d3dd112d74db45220050f1e85a858c26", func := "viaticum/viaticumlaw14.GridFinds", spec := "gridFinds", unfollowed := true, recurses := true, plainKeys := false, apart := false, narrowed := true }
def GridFindsUptoSaid : Prop := gridFindsUptoRow.holds Try.pinned (OpenSpec.upto gridFindsSpec)

/-- 'viaticumlaw49.UplinkPlays', WHERE WHAT IT READS IS OF BULK AT MOST 1048576: true; the input reads as it did. -/
def uplinkPlaysUptoRow : OpenClaim := { program := "ytjejpaladjfegaa", sum := "7dc4c352be896725a2b2090b4de19782d3dd112d74db45220050f1e85a858c26", func := "viaticum/viaticumlaw49.UplinkPlays", spec := "uplinkPlays", unfollowed := true, recurses := true, plainKeys := false, apart := false, narrowed := true }
def UplinkPlaysUptoSaid : Prop := uplinkPlaysUptoRow.holds Try.pinned (OpenSpec.upto uplinkPlaysSpec)

/-- 'viaticumlaw49.UplinkKeeps', WHERE WHAT IT READS IS OF BULK AT MOST 1048576: true; the input reads as it did. -/
def uplinkKeepsUptoRow : OpenClaim := { program := "ytjejpaladjfegaa", sum := "7dc4c352be896725a2b2090b4de19782d3dd112d74db45220050f1e85a858c26", func := "viaticum/viaticumlaw49.UplinkKeeps", spec := "uplinkKeeps", unfollowed := true, recurses := true, plainKeys := false, apart := false, narrowed := true }
def UplinkKeepsUptoSaid : Prop := uplinkKeepsUptoRow.holds Try.pinned (OpenSpec.upto uplinkKeepsSpec)

end Rows
end Go.Proofs.Ytjejpaladjfegaa
