/-
  No cell of these rows narrows 'for every input' (looked for: loops, veiled, ifaces, maps, wideKeys, modest, calm, conditions, laid).
  DERIVED. THE GIVEN ROWS OF THIS SEAT. 8 by the template 'for every input the law returns true; each argument reads behind the call as it read before'; 0 by the template 'total and deterministic' (their statements: YtjnggjhijedcpaaTotals.lean).
  GIVEN WITH THE SEED: the statements are not yours to turn. If you find one false, say at which input.
  Laid BY PROGRAM, IN A SANDBOX (cutbox-rows.mjs): the forced cells as the released guide's own fill.sh prints them over the translation e440e64c3221afb8… (all of the seat's roots in one cut). By AI agents, Wed Nov 11 2026. No macro, syntax, notation, axiom, sorry.
-/
import Derived.Test.YtjnggjhijedcpaaChecked
import GoSem.Claim
import GoSem.ClaimJoined
import GoSem.ClaimMapViews
import Derived.JoinedTies
import Derived.KernelRfl
namespace Go.Proofs.Ytjnggjhijedcpaa
/- THE CELL 'sum', in the pinned program and in every row, IS THE sha256 OF THE DUMP (.gsa) THAT YtjnggjhijedcpaaProg.lean LOADS. Nothing in Lean hashes anything: it is a label: what it is worth is what the hold of that sum in a sandbox is worth. -/
noncomputable def Try.pinned : Pinned := { name := "ytjnggjhijedcpaa", sum := "e440e64c3221afb845020580009a3f22a517a4331a6a9c1dd49f34c9fdb16a09", checked := Try.checked }
namespace Rows
def none {H : Type} : Left H := { results := [], args := [] }

/-- 'viaticumlaw32.PriceMonths': WHATEVER THE INPUT: true; the input reads as it did. -/
def priceMonthsSpec : ChangeSpec := { name := "priceMonths", fn := fun _ => fun
  | [d1, d2, d3] => { results := [.lit (.bool true)], args := [d1, d2, d3] }
  | _ => none }
def priceMonthsRow : OpenClaim := { program := "ytjnggjhijedcpaa", sum := "e440e64c3221afb845020580009a3f22a517a4331a6a9c1dd49f34c9fdb16a09", func := "viaticum/viaticumlaw32.PriceMonths", spec := "priceMonths", unfollowed := true, recurses := true, apart := false }
def PriceMonthsSaid : Prop := priceMonthsRow.holds Try.pinned (OpenSpec.ofChange priceMonthsSpec)

/-- ITS FALSE NEIGHBOUR: 'it returns false'. Refute it at one input. -/
def priceMonthsWrong : ChangeSpec := { name := "priceMonths", fn := fun _ => fun
  | [d1, d2, d3] => { results := [.lit (.bool false)], args := [d1, d2, d3] }
  | _ => none }
def PriceMonthsWrongFalsely : Prop := priceMonthsRow.holds Try.pinned (OpenSpec.ofChange priceMonthsWrong)

/-- 'viaticumlaw32.PriceAny': WHATEVER THE INPUT: true; the input reads as it did. -/
def priceAnySpec : ChangeSpec := { name := "priceAny", fn := fun _ => fun
  | [d1, d2, d3] => { results := [.lit (.bool true)], args := [d1, d2, d3] }
  | _ => none }
def priceAnyRow : OpenClaim := { program := "ytjnggjhijedcpaa", sum := "e440e64c3221afb845020580009a3f22a517a4331a6a9c1dd49f34c9fdb16a09", func := "viaticum/viaticumlaw32.PriceAny", spec := "priceAny", unfollowed := true, recurses := true, apart := false }
def PriceAnySaid : Prop := priceAnyRow.holds Try.pinned (OpenSpec.ofChange priceAnySpec)

/-- ITS FALSE NEIGHBOUR: 'it returns false'. Refute it at one input. -/
def priceAnyWrong : ChangeSpec := { name := "priceAny", fn := fun _ => fun
  | [d1, d2, d3] => { results := [.lit (.bool false)], args := [d1, d2, d3] }
  | _ => none }
def PriceAnyWrongFalsely : Prop := priceAnyRow.holds Try.pinned (OpenSpec.ofChange priceAnyWrong)

/-- 'viaticumlaw37.MonthTurns': WHATEVER THE INPUT: true; the input reads as it did. -/
def monthTurnsSpec : ChangeSpec := { name := "monthTurns", fn := fun _ => fun
  | [d1, d2] => { results := [.lit (.bool true)], args := [d1, d2] }
  | _ => none }
def monthTurnsRow : OpenClaim := { program := "ytjnggjhijedcpaa", sum := "e440e64c3221afb845020580009a3f22a517a4331a6a9c1dd49f34c9fdb16a09", func := "viaticum/viaticumlaw37.MonthTurns", spec := "monthTurns", inPlace := ["slices.overlaps[viaticum/api.Month]"], unfollowed := true, recurses := true, apart := false }
def MonthTurnsSaid : Prop := monthTurnsRow.holds Try.pinned (OpenSpec.ofChange monthTurnsSpec)

/-- ITS FALSE NEIGHBOUR: 'it returns false'. Refute it at one input. -/
def monthTurnsWrong : ChangeSpec := { name := "monthTurns", fn := fun _ => fun
  | [d1, d2] => { results := [.lit (.bool false)], args := [d1, d2] }
  | _ => none }
def MonthTurnsWrongFalsely : Prop := monthTurnsRow.holds Try.pinned (OpenSpec.ofChange monthTurnsWrong)

/-- 'viaticumlaw33.DisputeFits': WHATEVER THE INPUT: true; the input reads as it did. -/
def disputeFitsSpec : ChangeSpec := { name := "disputeFits", fn := fun _ => fun
  | [d1, d2] => { results := [.lit (.bool true)], args := [d1, d2] }
  | _ => none }
def disputeFitsRow : OpenClaim := { program := "ytjnggjhijedcpaa", sum := "e440e64c3221afb845020580009a3f22a517a4331a6a9c1dd49f34c9fdb16a09", func := "viaticum/viaticumlaw33.DisputeFits", spec := "disputeFits", unfollowed := true, recurses := true, apart := false }
def DisputeFitsSaid : Prop := disputeFitsRow.holds Try.pinned (OpenSpec.ofChange disputeFitsSpec)

/-- ITS FALSE NEIGHBOUR: 'it returns false'. Refute it at one input. -/
def disputeFitsWrong : ChangeSpec := { name := "disputeFits", fn := fun _ => fun
  | [d1, d2] => { results := [.lit (.bool false)], args := [d1, d2] }
  | _ => none }
def DisputeFitsWrongFalsely : Prop := disputeFitsRow.holds Try.pinned (OpenSpec.ofChange disputeFitsWrong)

/-- 'viaticumlaw33.DisputeTells': WHATEVER THE INPUT: true; the input reads as it did. -/
def disputeTellsSpec : ChangeSpec := { name := "disputeTells", fn := fun _ => fun
  | [d1, d2] => { results := [.lit (.bool true)], args := [d1, d2] }
  | _ => none }
def disputeTellsRow : OpenClaim := { program := "ytjnggjhijedcpaa", sum := "e440e64c3221afb845020580009a3f22a517a4331a6a9c1dd49f34c9fdb16a09", func := "viaticum/viaticumlaw33.DisputeTells", spec := "disputeTells", unfollowed := true, recurses := true, apart := false }
def DisputeTellsSaid : Prop := disputeTellsRow.holds Try.pinned (OpenSpec.ofChange disputeTellsSpec)

/-- ITS FALSE NEIGHBOUR: 'it returns false'. Refute it at one input. -/
def disputeTellsWrong : ChangeSpec := { name := "disputeTells", fn := fun _ => fun
  | [d1, d2] => { results := [.lit (.bool false)], args := [d1, d2] }
  | _ => none }
def DisputeTellsWrongFalsely : Prop := disputeTellsRow.holds Try.pinned (OpenSpec.ofChange disputeTellsWrong)

/-- 'viaticumlaw37.MonthBytes': WHATEVER THE INPUT: true; the input reads as it did. -/
def monthBytesSpec : ChangeSpec := { name := "monthBytes", fn := fun _ => fun
  | [d1, d2] => { results := [.lit (.bool true)], args := [d1, d2] }
  | _ => none }
def monthBytesRow : OpenClaim := { program := "ytjnggjhijedcpaa", sum := "e440e64c3221afb845020580009a3f22a517a4331a6a9c1dd49f34c9fdb16a09", func := "viaticum/viaticumlaw37.MonthBytes", spec := "monthBytes", inPlace := ["slices.overlaps[viaticum/api.Month]"], unfollowed := true, recurses := true, apart := false }
def MonthBytesSaid : Prop := monthBytesRow.holds Try.pinned (OpenSpec.ofChange monthBytesSpec)

/-- ITS FALSE NEIGHBOUR: 'it returns false'. Refute it at one input. -/
def monthBytesWrong : ChangeSpec := { name := "monthBytes", fn := fun _ => fun
  | [d1, d2] => { results := [.lit (.bool false)], args := [d1, d2] }
  | _ => none }
def MonthBytesWrongFalsely : Prop := monthBytesRow.holds Try.pinned (OpenSpec.ofChange monthBytesWrong)

/-- 'viaticumlaw37.MonthFits': WHATEVER THE INPUT: true; the input reads as it did. -/
def monthFitsSpec : ChangeSpec := { name := "monthFits", fn := fun _ => fun
  | [d1, d2, d3] => { results := [.lit (.bool true)], args := [d1, d2, d3] }
  | _ => none }
def monthFitsRow : OpenClaim := { program := "ytjnggjhijedcpaa", sum := "e440e64c3221afb845020580009a3f22a517a4331a6a9c1dd49f34c9fdb16a09", func := "viaticum/viaticumlaw37.MonthFits", spec := "monthFits", inPlace := ["slices.overlaps[viaticum/api.Month]"], unfollowed := true, recurses := true, apart := false }
def MonthFitsSaid : Prop := monthFitsRow.holds Try.pinned (OpenSpec.ofChange monthFitsSpec)

/-- ITS FALSE NEIGHBOUR: 'it returns false'. Refute it at one input. -/
def monthFitsWrong : ChangeSpec := { name := "monthFits", fn := fun _ => fun
  | [d1, d2, d3] => { results := [.lit (.bool false)], args := [d1, d2, d3] }
  | _ => none }
def MonthFitsWrongFalsely : Prop := monthFitsRow.holds Try.pinned (OpenSpec.ofChange monthFitsWrong)

/-- 'viaticumlaw32.PriceBytes': WHATEVER THE INPUT: true; the input reads as it did. -/
def priceBytesSpec : ChangeSpec := { name := "priceBytes", fn := fun _ => fun
  | [d1, d2] => { results := [.lit (.bool true)], args := [d1, d2] }
  | _ => none }
def priceBytesRow : OpenClaim := { program := "ytjnggjhijedcpaa", sum := "e440e64c3221afb845020580009a3f22a517a4331a6a9c1dd49f34c9fdb16a09", func := "viaticum/viaticumlaw32.PriceBytes", spec := "priceBytes", unfollowed := true, recurses := true, apart := false }
def PriceBytesSaid : Prop := priceBytesRow.holds Try.pinned (OpenSpec.ofChange priceBytesSpec)

/-- ITS FALSE NEIGHBOUR: 'it returns false'. Refute it at one input. -/
def priceBytesWrong : ChangeSpec := { name := "priceBytes", fn := fun _ => fun
  | [d1, d2] => { results := [.lit (.bool false)], args := [d1, d2] }
  | _ => none }
def PriceBytesWrongFalsely : Prop := priceBytesRow.holds Try.pinned (OpenSpec.ofChange priceBytesWrong)

/- THE SECOND FORM. 'bulk': how many values and letters a reading holds, each counted each time it is reached (what is shared counts as often as it is met; a slice's spare places count too). A statement '..UptoSaid' is the law's where the arguments, and the package variables that the reading takes, are together of bulk at most 1048576: NARROWER than '..Said'. Prove '..Said' where nothing that the law and all that it calls make is longer than what came in: it says more and counts as full. Else prove '..UptoSaid'. A law counts once. -/
mutual
def uptoBulk {H : Type} : DataW H → Nat
  | .lit (.string bytes) => bytes.length + 1
  | .lit _ => 1
  | .nil => 1
  | .ptr d => uptoBulk d + 1
  | .slice elems spare => uptoBulkAll elems + uptoBulkAll spare + 1
  | .agg parts => uptoBulkAll parts + 1
  | .iface _ d => uptoBulk d + 1
  | .map entries => uptoBulkEntries entries + 1
  | .held _ => 1
def uptoBulkAll {H : Type} : List (DataW H) → Nat
  | [] => 0
  | d :: r => uptoBulk d + uptoBulkAll r
def uptoBulkEntries {H : Type} : List (Lit × DataW H) → Nat
  | [] => 0
  | x :: r => uptoBulkEntry x + uptoBulkEntries r
def uptoBulkEntry {H : Type} : Lit × DataW H → Nat
  | (.string bytes, d) => bytes.length + uptoBulk d + 1
  | (_, d) => uptoBulk d + 1
 end
def uptoSmall : (H : Type) → List (DataW H) → Bool := fun _ ds => decide (uptoBulkAll ds ≤ 1048576)
def OpenSpec.upto (s : _root_.Go.ChangeSpec) : _root_.Go.OpenSpec := { _root_.Go.OpenSpec.ofChange s with cond := some uptoSmall }

/-- 'viaticumlaw32.PriceMonths', WHERE WHAT IT READS IS OF BULK AT MOST 1048576: true; the input reads as it did. -/
def priceMonthsUptoRow : OpenClaim := { program := "ytjnggjhijedcpaa", sum := "e440e64c3221afb845020580009a3f22a517a4331a6a9c1dd49f34c9fdb16a09", func := "viaticum/viaticumlaw32.PriceMonths", spec := "priceMonths", unfollowed := true, recurses := true, apart := false, narrowed := true }
def PriceMonthsUptoSaid : Prop := priceMonthsUptoRow.holds Try.pinned (OpenSpec.upto priceMonthsSpec)

/-- 'viaticumlaw32.PriceAny', WHERE WHAT IT READS IS OF BULK AT MOST 1048576: true; the input reads as it did. -/
def priceAnyUptoRow : OpenClaim := { program := "ytjnggjhijedcpaa", sum := "e440e64c3221afb845020580009a3f22a517a4331a6a9c1dd49f34c9fdb16a09", func := "viaticum/viaticumlaw32.PriceAny", spec := "priceAny", unfollowed := true, recurses := true, apart := false, narrowed := true }
def PriceAnyUptoSaid : Prop := priceAnyUptoRow.holds Try.pinned (OpenSpec.upto priceAnySpec)

/-- 'viaticumlaw37.MonthTurns', WHERE WHAT IT READS IS OF BULK AT MOST 1048576: true; the input reads as it did. -/
def monthTurnsUptoRow : OpenClaim := { program := "ytjnggjhijedcpaa", sum := "e440e64c3221afb845020580009a3f22a517a4331a6a9c1dd49f34c9fdb16a09", func := "viaticum/viaticumlaw37.MonthTurns", spec := "monthTurns", inPlace := ["slices.overlaps[viaticum/api.Month]"], unfollowed := true, recurses := true, apart := false, narrowed := true }
def MonthTurnsUptoSaid : Prop := monthTurnsUptoRow.holds Try.pinned (OpenSpec.upto monthTurnsSpec)

/-- 'viaticumlaw33.DisputeFits', WHERE WHAT IT READS IS OF BULK AT MOST 1048576: true; the input reads as it did. -/
def disputeFitsUptoRow : OpenClaim := { program := "ytjnggjhijedcpaa", sum := "e440e64c3221afb845020580009a3f22a517a4331a6a9c1dd49f34c9fdb16a09", func := "viaticum/viaticumlaw33.DisputeFits", spec := "disputeFits", unfollowed := true, recurses := true, apart := false, narrowed := true }
def DisputeFitsUptoSaid : Prop := disputeFitsUptoRow.holds Try.pinned (OpenSpec.upto disputeFitsSpec)

/-- 'viaticumlaw33.DisputeTells', WHERE WHAT IT READS IS OF BULK AT MOST 1048576: true; the input reads as it did. -/
def disputeTellsUptoRow : OpenClaim := { program := "ytjnggjhijedcpaa", sum := "e440e64c3221afb845020580009a3f22a517a4331a6a9c1dd49f34c9fdb16a09", func := "viaticum/viaticumlaw33.DisputeTells", spec := "disputeTells", unfollowed := true, recurses := true, apart := false, narrowed := true }
def DisputeTellsUptoSaid : Prop := disputeTellsUptoRow.holds Try.pinned (OpenSpec.upto disputeTellsSpec)

/-- 'viaticumlaw37.MonthBytes', WHERE WHAT IT READS IS OF BULK AT MOST 1048576: true; the input reads as it did. -/
def monthBytesUptoRow : OpenClaim := { program := "ytjnggjhijedcpaa", sum := "e440e64c3221afb845020580009a3f22a517a4331a6a9c1dd49f34c9fdb16a09", func := "viaticum/viaticumlaw37.MonthBytes", spec := "monthBytes", inPlace := ["slices.overlaps[viaticum/api.Month]"], unfollowed := true, recurses := true, apart := false, narrowed := true }
def MonthBytesUptoSaid : Prop := monthBytesUptoRow.holds Try.pinned (OpenSpec.upto monthBytesSpec)

/-- 'viaticumlaw37.MonthFits', WHERE WHAT IT READS IS OF BULK AT MOST 1048576: true; the input reads as it did. -/
def monthFitsUptoRow : OpenClaim := { program := "ytjnggjhijedcpaa", sum := "e440e64c3221afb845020580009a3f22a517a4331a6a9c1dd49f34c9fdb16a09", func := "viaticum/viaticumlaw37.MonthFits", spec := "monthFits", inPlace := ["slices.overlaps[viaticum/api.Month]"], unfollowed := true, recurses := true, apart := false, narrowed := true }
def MonthFitsUptoSaid : Prop := monthFitsUptoRow.holds Try.pinned (OpenSpec.upto monthFitsSpec)

/-- 'viaticumlaw32.PriceBytes', WHERE WHAT IT READS IS OF BULK AT MOST 1048576: true; the input reads as it did. -/
def priceBytesUptoRow : OpenClaim := { program := "ytjnggjhijedcpaa", sum := "e440e64c3221afb845020580009a3f22a517a4331a6a9c1dd49f34c9fdb16a09", func := "viaticum/viaticumlaw32.PriceBytes", spec := "priceBytes", unfollowed := true, recurses := true, apart := false, narrowed := true }
def PriceBytesUptoSaid : Prop := priceBytesUptoRow.holds Try.pinned (OpenSpec.upto priceBytesSpec)

end Rows
end Go.Proofs.Ytjnggjhijedcpaa
