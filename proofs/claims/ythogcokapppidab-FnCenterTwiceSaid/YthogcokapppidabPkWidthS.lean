/- Contracts of PeakWidth, of the program and of the reference. -/
import Derived.Test.YthogcokapppidabPkWidthI
namespace Go.Proofs.Ythogcokapppidab
open Go.RowKit Pk

end Go.Proofs.Ythogcokapppidab
