/- Networks: what a law on a network, a weighing and a play has boxed. -/
import Derived.Test.YthhpgahnhpgmeaaNfA
namespace Go.Proofs.Ythhpgahnhpgmeaa.Ne
open Go.RowKit Go.V Go.Proofs Go.Sort Go.Maps
end Go.Proofs.Ythhpgahnhpgmeaa.Ne
