/-
  No cell of these rows narrows 'for every input' (looked for: loops, veiled, ifaces, maps, wideKeys, modest, calm, conditions, laid).
  DERIVED. THE GIVEN ROWS OF THIS SEAT. 4 by the template 'for every input the law returns true; each argument reads behind the call as it read before'; 0 by the template 'total and deterministic' (their statements: YtbdkhgenkekioaaTotals.lean).
  GIVEN WITH THE SEED: the statements are not yours to turn. If you find one false, say at which input.
  Laid BY PROGRAM, IN A SANDBOX (cutbox-rows.mjs): the forced cells as the released guide's own fill.sh prints them over the translation 004aa1ae3f862805… (all of the seat's roots in one cut). By AI agents, Wed Nov 11 2026. No macro, syntax, notation, axiom, sorry.
-/
import Derived.Test.YtbdkhgenkekioaaChecked
import GoSem.Claim
import GoSem.ClaimJoined
import GoSem.ClaimMapViews
import Derived.JoinedTies
import Derived.KernelRfl
namespace Go.Proofs.Ytbdkhgenkekioaa
/- THE CELL 'sum', in the pinned program and in every row, IS THE sha256 OF THE DUMP (.gsa) THAT YtbdkhgenkekioaaProg.lean LOADS. Nothing in Lean hashes anything: it is a label: what it is worth is what the hold of that sum in a sandbox is worth. -/
noncomputable def Try.pinned : Pinned := { name := "ytbdkhgenkekioaa", sum := "004aa1ae3f8628052af52510b2236bbb306d728f699fc34055a7f70caac91b3b", checked := Try.checked }
namespace Rows
def none {H : Type} : Left H := { results := [], args := [] }

/-- 'viaticumlaw37.MonthTurns': WHATEVER THE INPUT: true; the input reads as it did. -/
def monthTurnsSpec : ChangeSpec := { name := "monthTurns", fn := fun _ => fun
  | [d1, d2] => { results := [.lit (.bool true)], args := [d1, d2] }
  | _ => none }
def monthTurnsRow : OpenClaim := { program := "ytbdkhgenkekioaa", sum := "004aa1ae3f8628052af52510b2236bbb306d728f699fc34055a7f70caac91b3b", func := "viaticum/viaticumlaw37.MonthTurns", spec := "monthTurns", inPlace := ["slices.overlaps[viaticum/api.Month]"], unfollowed := true, recurses := true, apart := false }
def MonthTurnsSaid : Prop := monthTurnsRow.holds Try.pinned (OpenSpec.ofChange monthTurnsSpec)

/-- ITS FALSE NEIGHBOUR: 'it returns false'. Refute it at one input. -/
def monthTurnsWrong : ChangeSpec := { name := "monthTurns", fn := fun _ => fun
  | [d1, d2] => { results := [.lit (.bool false)], args := [d1, d2] }
  | _ => none }
def MonthTurnsWrongFalsely : Prop := monthTurnsRow.holds Try.pinned (OpenSpec.ofChange monthTurnsWrong)

/-- 'viaticumlaw37.MonthBytes': WHATEVER THE INPUT: true; the input reads as it did. -/
def monthBytesSpec : ChangeSpec := { name := "monthBytes", fn := fun _ => fun
  | [d1, d2] => { results := [.lit (.bool true)], args := [d1, d2] }
  | _ => none }
def monthBytesRow : OpenClaim := { program := "ytbdkhgenkekioaa", sum := "004aa1ae3f8628052af52510b2236bbb306d728f699fc34055a7f70caac91b3b", func := "viaticum/viaticumlaw37.MonthBytes", spec := "monthBytes", inPlace := ["slices.overlaps[viaticum/api.Month]"], unfollowed := true, recurses := true, apart := false }
def MonthBytesSaid : Prop := monthBytesRow.holds Try.pinned (OpenSpec.ofChange monthBytesSpec)

/-- ITS FALSE NEIGHBOUR: 'it returns false'. Refute it at one input. -/
def monthBytesWrong : ChangeSpec := { name := "monthBytes", fn := fun _ => fun
  | [d1, d2] => { results := [.lit (.bool false)], args := [d1, d2] }
  | _ => none }
def MonthBytesWrongFalsely : Prop := monthBytesRow.holds Try.pinned (OpenSpec.ofChange monthBytesWrong)

/-- 'viaticumlaw37.MonthFits': WHATEVER THE INPUT: true; the input reads as it did. -/
def monthFitsSpec : ChangeSpec := { name := "monthFits", fn := fun _ => fun
  | [d1, d2, d3] => { results := [.lit (.bool true)], args := [d1, d2, d3] }
  | _ => none }
def monthFitsRow : OpenClaim := { program := "ytbdkhgenkekioaa", sum := "004aa1ae3f8628052af52510b2236bbb306d728f699fc34055a7f70caac91b3b", func := "viaticum/viaticumlaw37.MonthFits", spec := "monthFits", inPlace := ["slices.overlaps[viaticum/api.Month]"], unfollowed := true, recurses := true, apart := false }
def MonthFitsSaid : Prop := monthFitsRow.holds Try.pinned (OpenSpec.ofChange monthFitsSpec)

/-- ITS FALSE NEIGHBOUR: 'it returns false'. Refute it at one input. -/
def monthFitsWrong : ChangeSpec := { name := "monthFits", fn := fun _ => fun
  | [d1, d2, d3] => { results := [.lit (.bool false)], args := [d1, d2, d3] }
  | _ => none }
def MonthFitsWrongFalsely : Prop := monthFitsRow.holds Try.pinned (OpenSpec.ofChange monthFitsWrong)

/-- 'viaticumlaw32.PriceBytes': WHATEVER THE INPUT: true; the input reads as it did. -/
def priceBytesSpec : ChangeSpec := { name := "priceBytes", fn := fun _ => fun
  | [d1, d2] => { results := [.lit (.bool true)], args := [d1, d2] }
  | _ => none }
def priceBytesRow : OpenClaim := { program := "ytbdkhgenkekioaa", sum := "004aa1ae3f8628052af52510b2236bbb306d728f699fc34055a7f70caac91b3b", func := "viaticum/viaticumlaw32.PriceBytes", spec := "priceBytes", unfollowed := true, recurses := true, apart := false }
def PriceBytesSaid : Prop := priceBytesRow.holds Try.pinned (OpenSpec.ofChange priceBytesSpec)

/-- ITS FALSE NEIGHBOUR: 'it returns false'. Refute it at one input. -/
def priceBytesWrong : ChangeSpec := { name := "priceBytes", fn := fun _ => fun
  | [d1, d2] => { results := [.lit (.bool false)], args := [d1, d2] }
  | _ => none }
def PriceBytesWrongFalsely : Prop := priceBytesRow.holds Try.pinned (OpenSpec.ofChange priceBytesWrong)

/- THE SECOND FORM. 'bulk': how many values and letters a reading holds, each counted each time it is reached (what is shared counts as often as it is met; a slice's spare places count too). A statement '..UptoSaid' is the law's where the arguments, and the package variables that the reading takes, are together of bulk at most 1048576: NARROWER than '..Said'. Prove '..Said' where nothing that the law and all that it calls make is longer than what came in: it says more and counts as full. Else prove '..UptoSaid'. A law counts once. -/
mutual
def uptoBulk {H : Type} : DataW H → Nat
  | .lit (.string bytes) => bytes.length + 1
  | .lit _ => 1
  | .nil => 1
  | .ptr d => uptoBulk d + 1
  | .slice elems spare => uptoBulkAll elems + uptoBulkAll spare + 1
  | .agg parts => uptoBulkAll parts + 1
  | .iface _ d => uptoBulk d + 1
  | .map entries => uptoBulkEntries entries + 1
  | .held _ => 1
def uptoBulkAll {H : Type} : List (DataW H) → Nat
  | [] => 0
  | d :: r => uptoBulk d + uptoBulkAll r
def uptoBulkEntries {H : Type} : List (Lit × DataW H) → Nat
  | [] => 0
  | x :: r => uptoBulkEntry x + uptoBulkEntries r
def uptoBulkEntry {H : Type} : Lit × DataW H → Nat
  | (.string bytes, d) => bytes.length + uptoBulk d + 1
  | (_, d) => uptoBulk d + 1
 end
def uptoSmall : (H : Type) → List (DataW H) → Bool := fun _ ds => decide (uptoBulkAll ds ≤ 1048576)
def OpenSpec.upto (s : _root_.Go.ChangeSpec) : _root_.Go.OpenSpec := { _root_.Go.OpenSpec.ofChange s with cond := some uptoSmall }

/-- 'viaticumlaw37.MonthTurns', WHERE WHAT IT READS IS OF BULK AT MOST 1048576: true; the input reads as it did. -/
def monthTurnsUptoRow : OpenClaim := { program := "ytbdkhgenkekioaa", sum := "004aa1ae3f8628052af52510b2236bbb306d728f699fc34055a7f70caac91b3b", func := "viaticum/viaticumlaw37.MonthTurns", spec := "monthTurns", inPlace := ["slices.overlaps[viaticum/api.Month]"], unfollowed := true, recurses := true, apart := false, narrowed := true }
def MonthTurnsUptoSaid : Prop := monthTurnsUptoRow.holds Try.pinned (OpenSpec.upto monthTurnsSpec)

/-- 'viaticumlaw37.MonthBytes', WHERE WHAT IT READS IS OF BULK AT MOST 1048576: true; the input reads as it did. -/
def monthBytesUptoRow : OpenClaim := { program := "ytbdkhgenkekioaa", sum := "004aa1ae3f8628052af52510b2236bbb306d728f699fc34055a7f70caac91b3b", func := "viaticum/viaticumlaw37.MonthBytes", spec := "monthBytes", inPlace := ["slices.overlaps[viaticum/api.Month]"], unfollowed := true, recurses := true, apart := false, narrowed := true }
def MonthBytesUptoSaid : Prop := monthBytesUptoRow.holds Try.pinned (OpenSpec.upto monthBytesSpec)

/-- 'viaticumlaw37.MonthFits', WHERE WHAT IT READS IS OF BULK AT MOST 1048576: true; the input reads as it did. -/
def monthFitsUptoRow : OpenClaim := { program := "ytbdkhgenkekioaa", sum := "004aa1ae3f8628052af52510b2236bbb306d728f699fc34055a7f70caac91b3b", func := "viaticum/viaticumlaw37.MonthFits", spec := "monthFits", inPlace := ["slices.overlaps[viaticum/api.Month]"], unfollowed := true, recurses := true, apart := false, narrowed := true }
def MonthFitsUptoSaid : Prop := monthFitsUptoRow.holds Try.pinned (OpenSpec.upto monthFitsSpec)

/-- 'viaticumlaw32.PriceBytes', WHERE WHAT IT READS IS OF BULK AT MOST 1048576: true; the input reads as it did. -/
def priceBytesUptoRow : OpenClaim := { program := "ytbdkhgenkekioaa", sum := "004aa1ae3f8628052af52510b2236bbb306d728f699fc34055a7f70caac91b3b", func := "viaticum/viaticumlaw32.PriceBytes", spec := "priceBytes", unfollowed := true, recurses := true, apart := false, narrowed := true }
def PriceBytesUptoSaid : Prop := priceBytesUptoRow.holds Try.pinned (OpenSpec.upto priceBytesSpec)

end Rows
end Go.Proofs.Ytbdkhgenkekioaa
