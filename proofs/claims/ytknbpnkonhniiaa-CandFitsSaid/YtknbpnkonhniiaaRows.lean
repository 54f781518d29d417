/-
  No cell of these rows narrows 'for every input' (looked for: loops, veiled, ifaces, maps, wideKeys, modest, calm, conditions, laid).
  DERIVED. THE GIVEN ROWS OF THIS SEAT. 3 by the template 'for every input the law returns true; each argument reads behind the call as it read before'; 0 by the template 'total and deterministic' (their statements: YtknbpnkonhniiaaTotals.lean).
  GIVEN WITH THE SEED: the statements are not yours to turn. If you find one false, say at which input.
  Laid BY PROGRAM, IN A SANDBOX (cutbox-rows.mjs): the forced cells as the released guide's own fill.sh prints them over the translation de25d71b5a65f2c1… (all of the seat's roots in one cut). By AI agents, Wed Nov 11 2026. No macro, syntax, notation, axiom, sorry.
-/
import Derived.Test.YtknbpnkonhniiaaChecked
import GoSem.Claim
import GoSem.ClaimJoined
import GoSem.ClaimMapViews
import Derived.JoinedTies
import Derived.KernelRfl
namespace Go.Proofs.Ytknbpnkonhniiaa
/- THE CELL 'sum', in the pinned program and in every row, IS THE sha256 OF THE DUMP (.gsa) THAT YtknbpnkonhniiaaProg.lean LOADS. Nothing in Lean hashes anything: it is a label: what it is worth is what the hold of that sum in a sandbox is worth. -/
noncomputable def Try.pinned : Pinned := { name := "ytknbpnkonhniiaa", sum := "de25d71b5a65f2c14b10fba6925c1aaff4a69a14db5795667c5f09451a7cb2e2", checked := Try.checked }
namespace Rows
def none {H : Type} : Left H := { results := [], args := [] }

/-- 'viaticumlaw21.CandTells': WHATEVER THE INPUT: true; the input reads as it did. -/
def candTellsSpec : ChangeSpec := { name := "candTells", fn := fun _ => fun
  | [d1, d2, d3] => { results := [.lit (.bool true)], args := [d1, d2, d3] }
  | _ => none }
def candTellsRow : OpenClaim := { program := "ytknbpnkonhniiaa", sum := "de25d71b5a65f2c14b10fba6925c1aaff4a69a14db5795667c5f09451a7cb2e2", func := "viaticum/viaticumlaw21.CandTells", spec := "candTells", unfollowed := true, recurses := true, plainKeys := false, apart := false }
def CandTellsSaid : Prop := candTellsRow.holds Try.pinned (OpenSpec.ofChange candTellsSpec)

/-- ITS FALSE NEIGHBOUR: 'it returns false'. Refute it at one input. -/
def candTellsWrong : ChangeSpec := { name := "candTells", fn := fun _ => fun
  | [d1, d2, d3] => { results := [.lit (.bool false)], args := [d1, d2, d3] }
  | _ => none }
def CandTellsWrongFalsely : Prop := candTellsRow.holds Try.pinned (OpenSpec.ofChange candTellsWrong)

/-- 'viaticumlaw21.CandOne': WHATEVER THE INPUT: true; the input reads as it did. -/
def candOneSpec : ChangeSpec := { name := "candOne", fn := fun _ => fun
  | [d1, d2, d3] => { results := [.lit (.bool true)], args := [d1, d2, d3] }
  | _ => none }
def candOneRow : OpenClaim := { program := "ytknbpnkonhniiaa", sum := "de25d71b5a65f2c14b10fba6925c1aaff4a69a14db5795667c5f09451a7cb2e2", func := "viaticum/viaticumlaw21.CandOne", spec := "candOne", unfollowed := true, recurses := true, plainKeys := false, apart := false }
def CandOneSaid : Prop := candOneRow.holds Try.pinned (OpenSpec.ofChange candOneSpec)

/-- ITS FALSE NEIGHBOUR: 'it returns false'. Refute it at one input. -/
def candOneWrong : ChangeSpec := { name := "candOne", fn := fun _ => fun
  | [d1, d2, d3] => { results := [.lit (.bool false)], args := [d1, d2, d3] }
  | _ => none }
def CandOneWrongFalsely : Prop := candOneRow.holds Try.pinned (OpenSpec.ofChange candOneWrong)

/-- 'viaticumlaw21.CandFits': WHATEVER THE INPUT: true; the input reads as it did. -/
def candFitsSpec : ChangeSpec := { name := "candFits", fn := fun _ => fun
  | [d1, d2, d3] => { results := [.lit (.bool true)], args := [d1, d2, d3] }
  | _ => none }
def candFitsRow : OpenClaim := { program := "ytknbpnkonhniiaa", sum := "de25d71b5a65f2c14b10fba6925c1aaff4a69a14db5795667c5f09451a7cb2e2", func := "viaticum/viaticumlaw21.CandFits", spec := "candFits", unfollowed := true, recurses := true, plainKeys := false, apart := false }
def CandFitsSaid : Prop := candFitsRow.holds Try.pinned (OpenSpec.ofChange candFitsSpec)

/-- ITS FALSE NEIGHBOUR: 'it returns false'. Refute it at one input. -/
def candFitsWrong : ChangeSpec := { name := "candFits", fn := fun _ => fun
  | [d1, d2, d3] => { results := [.lit (.bool false)], args := [d1, d2, d3] }
  | _ => none }
def CandFitsWrongFalsely : Prop := candFitsRow.holds Try.pinned (OpenSpec.ofChange candFitsWrong)

/- THE SECOND FORM. 'bulk': how many values and letters a reading holds, each counted each time it is reached (what is shared counts as often as it is met; a slice's spare places count too). A statement '..UptoSaid' is the law's where the arguments, and the package variables that the reading takes, are together of bulk at most 1048576: NARROWER than '..Said'. Prove '..Said' where nothing that the law and all that it calls make is longer than what came in: it says more and counts as full. Else prove '..UptoSaid'. A law counts once. -/
mutual
def uptoBulk {H : Type} : DataW H → Nat
  | .lit (.string bytes) => bytes.length + 1
  | .lit _ => 1
  | .nil => 1
  | .ptr d => uptoBulk d + 1
  | .slice elems spare => uptoBulkAll elems + uptoBulkAll spare + 1
  | .agg parts => uptoBulkAll parts + 1
  | .iface _ d => uptoBulk d + 1
  | .map entries => uptoBulkEntries entries + 1
  | .held _ => 1
def uptoBulkAll {H : Type} : List (DataW H) → Nat
  | [] => 0
  | d :: r => uptoBulk d + uptoBulkAll r
def uptoBulkEntries {H : Type} : List (Lit × DataW H) → Nat
  | [] => 0
  | x :: r => uptoBulkEntry x + uptoBulkEntries r
def uptoBulkEntry {H : Type} : Lit × DataW H → Nat
  | (.string bytes, d) => bytes.length + uptoBulk d + 1
  | (_, d) => uptoBulk d + 1
 end
def uptoSmall : (H : Type) → List (DataW H) → Bool := fun _ ds => decide (uptoBulkAll ds ≤ 1048576)
def OpenSpec.upto (s : _root_.Go.ChangeSpec) : _root_.Go.OpenSpec := { _root_.Go.OpenSpec.ofChange s with cond := some uptoSmall }

/-- 'viaticumlaw21.CandTells', WHERE WHAT IT READS IS OF BULK AT MOST 1048576: true; the input reads as it did. -/
def candTellsUptoRow : OpenClaim := { program := "ytknbpnkonhniiaa", sum := "de25d71b5a65f2c14b10fba6925c1aaff4a69a14db5795667c5f09451a7cb2e2", func := "viaticum/viaticumlaw21.CandTells", spec := "candTells", unfollowed := true, recurses := true, plainKeys := false, apart := false, narrowed := true }
def CandTellsUptoSaid : Prop := candTellsUptoRow.holds Try.pinned (OpenSpec.upto candTellsSpec)

/-- 'viaticumlaw21.CandOne', WHERE WHAT IT READS IS OF BULK AT MOST 1048576: true; the input reads as it did. -/
def candOneUptoRow : OpenClaim := { program := "ytknbpnkonhniiaa", sum := "de25d71b5a65f2c14b10fba6925c1aaff4a69a14db5795667c5f09451a7cb2e2", func := "viaticum/viaticumlaw21.CandOne", spec := "candOne", unfollowed := true, recurses := true, plainKeys := false, apart := false, narrowed := true }
def CandOneUptoSaid : Prop := candOneUptoRow.holds Try.pinned (OpenSpec.upto candOneSpec)

/-- 'viaticumlaw21.CandFits', WHERE WHAT IT READS IS OF BULK AT MOST 1048576: true; the input reads as it did. -/
def candFitsUptoRow : OpenClaim := { program := "ytknbpnkonhniiaa", sum := "de25d71b5a65f2c14b10fba6925c1aaff4a69a14db5795667c5f09451a7cb2e2", func := "viaticum/viaticumlaw21.CandFits", spec := "candFits", unfollowed := true, recurses := true, plainKeys := false, apart := false, narrowed := true }
def CandFitsUptoSaid : Prop := candFitsUptoRow.holds Try.pinned (OpenSpec.upto candFitsSpec)

end Rows
end Go.Proofs.Ytknbpnkonhniiaa
