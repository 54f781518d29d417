/- Networks: links and stops as elements of rows. -/
import Derived.Test.YthhpgahnhpgmeaaNeA
namespace Go.Proofs.Ythhpgahnhpgmeaa.Ne
open Go.RowKit Go.V Go.Proofs
theorem infoLnk : (Try.prog.info? 107).map (fun i => (i.zero, i.size, i.bytes)) = some (some (.agg #[.int .i64 0, .int .i64 0, .int .i64 0]), 3, 24) := by kernel_rfl
theorem eltLnk : Elt Try.prog 44 107 lcod 24 := Elt.of Try.underlying44 infoLnk rfl (by decide)
theorem eltStp : Elt Try.prog 43 105 Stp.cod 16 := Elt.of (z := .agg #[.int .i64 0, .int .i64 0]) Try.underlying43 (by kernel_rfl) rfl (by decide)
end Go.Proofs.Ythhpgahnhpgmeaa.Ne
