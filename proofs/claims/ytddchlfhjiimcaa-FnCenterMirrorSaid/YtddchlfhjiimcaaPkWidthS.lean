/- Contracts of PeakWidth, of the program and of the reference. -/
import Derived.Test.YtddchlfhjiimcaaPkWidthI
namespace Go.Proofs.Ytddchlfhjiimcaa
open Go.RowKit Pk

end Go.Proofs.Ytddchlfhjiimcaa
