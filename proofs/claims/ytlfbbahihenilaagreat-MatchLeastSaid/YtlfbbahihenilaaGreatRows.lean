/-
  No cell of these rows narrows 'for every input' (looked for: loops, veiled, ifaces, maps, wideKeys, modest, calm, conditions, laid).
  DERIVED. THE GIVEN ROWS OF THIS SEAT. 3 by the template 'for every input the law returns true; each argument reads behind the call as it read before'; 0 by the template 'total and deterministic' (their statements: YtlfbbahihenilaaGreatTotals.lean).
  GIVEN WITH THE SEED: the statements are not yours to turn. If you find one false, say at which input.
  Laid BY PROGRAM, IN A SANDBOX (cutbox-rows.mjs): the forced cells as the released guide's own fill.sh prints them over the translation 7a5c9f888eea9ac5… (all of the seat's roots in one cut). By AI agents, Wed Nov 11 2026. No macro, syntax, notation, axiom, sorry.
-/
import Derived.Test.YtlfbbahihenilaaGreatChecked
import GoSem.Claim
import GoSem.ClaimJoined
import GoSem.ClaimMapViews
import Derived.JoinedTies
import Derived.KernelRfl
namespace Go.Proofs.YtlfbbahihenilaaGreat
/- THE CELL 'sum', in the pinned program and in every row, IS THE sha256 OF THE DUMP (.gsa) THAT YtlfbbahihenilaaGreatProg.lean LOADS. Nothing in Lean hashes anything: it is a label: what it is worth is what the hold of that sum in a sandbox is worth. -/
noncomputable def Tryz.pinned : Pinned := { name := "ytlfbbahihenilaagreat", sum := "7a5c9f888eea9ac59ec3acaff589c18bfcda0efa884efd4f5e8429cc0b768cfe", checked := Tryz.checked }
namespace Rows
def none {H : Type} : Left H := { results := [], args := [] }

/-- 'viaticumlaw26.MatchTells': WHATEVER THE INPUT: true; the input reads as it did. -/
def matchTellsSpec : ChangeSpec := { name := "matchTells", fn := fun _ => fun
  | [d1, d2, d3] => { results := [.lit (.bool true)], args := [d1, d2, d3] }
  | _ => none }
def matchTellsRow : OpenClaim := { program := "ytlfbbahihenilaagreat", sum := "7a5c9f888eea9ac59ec3acaff589c18bfcda0efa884efd4f5e8429cc0b768cfe", func := "viaticum/viaticumlaw26.MatchTells", spec := "matchTells", unfollowed := true, recurses := true, plainKeys := false, apart := false }
def MatchTellsSaid : Prop := matchTellsRow.holds Tryz.pinned (OpenSpec.ofChange matchTellsSpec)

/-- ITS FALSE NEIGHBOUR: 'it returns false'. Refute it at one input. -/
def matchTellsWrong : ChangeSpec := { name := "matchTells", fn := fun _ => fun
  | [d1, d2, d3] => { results := [.lit (.bool false)], args := [d1, d2, d3] }
  | _ => none }
def MatchTellsWrongFalsely : Prop := matchTellsRow.holds Tryz.pinned (OpenSpec.ofChange matchTellsWrong)

/-- 'viaticumlaw26.MatchTrips': WHATEVER THE INPUT: true; the input reads as it did. -/
def matchTripsSpec : ChangeSpec := { name := "matchTrips", fn := fun _ => fun
  | [d1, d2] => { results := [.lit (.bool true)], args := [d1, d2] }
  | _ => none }
def matchTripsRow : OpenClaim := { program := "ytlfbbahihenilaagreat", sum := "7a5c9f888eea9ac59ec3acaff589c18bfcda0efa884efd4f5e8429cc0b768cfe", func := "viaticum/viaticumlaw26.MatchTrips", spec := "matchTrips", unfollowed := true, recurses := true, plainKeys := false, apart := false }
def MatchTripsSaid : Prop := matchTripsRow.holds Tryz.pinned (OpenSpec.ofChange matchTripsSpec)

/-- ITS FALSE NEIGHBOUR: 'it returns false'. Refute it at one input. -/
def matchTripsWrong : ChangeSpec := { name := "matchTrips", fn := fun _ => fun
  | [d1, d2] => { results := [.lit (.bool false)], args := [d1, d2] }
  | _ => none }
def MatchTripsWrongFalsely : Prop := matchTripsRow.holds Tryz.pinned (OpenSpec.ofChange matchTripsWrong)

/-- 'viaticumlaw26.MatchLeast': WHATEVER THE INPUT: true; the input reads as it did. -/
def matchLeastSpec : ChangeSpec := { name := "matchLeast", fn := fun _ => fun
  | [d1, d2, d3] => { results := [.lit (.bool true)], args := [d1, d2, d3] }
  | _ => none }
def matchLeastRow : OpenClaim := { program := "ytlfbbahihenilaagreat", sum := "7a5c9f888eea9ac59ec3acaff589c18bfcda0efa884efd4f5e8429cc0b768cfe", func := "viaticum/viaticumlaw26.MatchLeast", spec := "matchLeast", unfollowed := true, recurses := true, plainKeys := false, apart := false }
def MatchLeastSaid : Prop := matchLeastRow.holds Tryz.pinned (OpenSpec.ofChange matchLeastSpec)

/-- ITS FALSE NEIGHBOUR: 'it returns false'. Refute it at one input. -/
def matchLeastWrong : ChangeSpec := { name := "matchLeast", fn := fun _ => fun
  | [d1, d2, d3] => { results := [.lit (.bool false)], args := [d1, d2, d3] }
  | _ => none }
def MatchLeastWrongFalsely : Prop := matchLeastRow.holds Tryz.pinned (OpenSpec.ofChange matchLeastWrong)

/- THE SECOND FORM. 'bulk': how many values and letters a reading holds, each counted each time it is reached (what is shared counts as often as it is met; a slice's spare places count too). A statement '..UptoSaid' is the law's where the arguments, and the package variables that the reading takes, are together of bulk at most 1048576: NARROWER than '..Said'. Prove '..Said' where nothing that the law and all that it calls make is longer than what came in: it says more and counts as full. Else prove '..UptoSaid'. A law counts once. -/
mutual
def uptoBulk {H : Type} : DataW H → Nat
  | .lit (.string bytes) => bytes.length + 1
  | .lit _ => 1
  | .nil => 1
  | .ptr d => uptoBulk d + 1
  | .slice elems spare => uptoBulkAll elems + uptoBulkAll spare + 1
  | .agg parts => uptoBulkAll parts + 1
  | .iface _ d => uptoBulk d + 1
  | .map entries => uptoBulkEntries entries + 1
  | .held _ => 1
def uptoBulkAll {H : Type} : List (DataW H) → Nat
  | [] => 0
  | d :: r => uptoBulk d + uptoBulkAll r
def uptoBulkEntries {H : Type} : List (Lit × DataW H) → Nat
  | [] => 0
  | x :: r => uptoBulkEntry x + uptoBulkEntries r
def uptoBulkEntry {H : Type} : Lit × DataW H → Nat
  | (.string bytes, d) => bytes.length + uptoBulk d + 1
  | (_, d) => uptoBulk d + 1
 end
def uptoSmall : (H : Type) → List (DataW H) → Bool := fun _ ds => decide (uptoBulkAll ds ≤ 1048576)
def OpenSpec.upto (s : _root_.Go.ChangeSpec) : _root_.Go.OpenSpec := { _root_.Go.OpenSpec.ofChange s with cond := some uptoSmall }

/-- 'viaticumlaw26.MatchTells', WHERE WHAT IT READS IS OF BULK AT MOST 1048576: true; the input reads as it did. -/
def matchTellsUptoRow : OpenClaim := { program := "ytlfbbahihenilaagreat", sum := "7a5c9f888eea9ac59ec3acaff589c18bfcda0efa884efd4f5e8429cc0b768cfe", func := "viaticum/viaticumlaw26.MatchTells", spec := "matchTells", unfollowed := true, recurses := true, plainKeys := false, apart := false, narrowed := true }
def MatchTellsUptoSaid : Prop := matchTellsUptoRow.holds Tryz.pinned (OpenSpec.upto matchTellsSpec)

/-- 'viaticumlaw26.MatchTrips', WHERE WHAT IT READS IS OF BULK AT MOST 1048576: true; the input reads as it did. -/
def matchTripsUptoRow : OpenClaim := { program := "ytlfbbahihenilaagreat", sum := "7a5c9f888eea9ac59ec3acaff589c18bfcda0efa884efd4f5e8429cc0b768cfe", func := "viaticum/viaticumlaw26.MatchTrips", spec := "matchTrips", unfollowed := true, recurses := true, plainKeys := false, apart := false, narrowed := true }
def MatchTripsUptoSaid : Prop := matchTripsUptoRow.holds Tryz.pinned (OpenSpec.upto matchTripsSpec)

/-- 'viaticumlaw26.MatchLeast', WHERE WHAT IT READS IS OF BULK AT MOST 1048576: true; the input reads as it did. -/
def matchLeastUptoRow : OpenClaim := { program := "ytlfbbahihenilaagreat", sum := "7a5c9f888eea9ac59ec3acaff589c18bfcda0efa884efd4f5e8429cc0b768cfe", func := "viaticum/viaticumlaw26.MatchLeast", spec := "matchLeast", unfollowed := true, recurses := true, plainKeys := false, apart := false, narrowed := true }
def MatchLeastUptoSaid : Prop := matchLeastUptoRow.holds Tryz.pinned (OpenSpec.upto matchLeastSpec)

end Rows
end Go.Proofs.YtlfbbahihenilaaGreat
