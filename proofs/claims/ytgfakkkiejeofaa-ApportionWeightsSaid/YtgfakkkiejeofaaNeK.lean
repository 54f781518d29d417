/- Networks: links and stops as elements of rows. -/
import Derived.Test.YtgfakkkiejeofaaNeA
namespace Go.Proofs.Ytgfakkkiejeofaa.Ne
open Go.RowKit Go.V Go.Proofs
theorem infoLnk : (Try.prog.info? 55).map (fun i => (i.zero, i.size, i.bytes)) = some (some (.agg #[.int .i64 0, .int .i64 0, .int .i64 0]), 3, 24) := by kernel_rfl
theorem eltLnk : Elt Try.prog 23 55 lcod 24 := Elt.of Try.underlying23 infoLnk rfl (by decide)
theorem eltStp : Elt Try.prog 22 77 Stp.cod 16 := Elt.of (z := .agg #[.int .i64 0, .int .i64 0]) Try.underlying22 (by kernel_rfl) rfl (by decide)
end Go.Proofs.Ytgfakkkiejeofaa.Ne
