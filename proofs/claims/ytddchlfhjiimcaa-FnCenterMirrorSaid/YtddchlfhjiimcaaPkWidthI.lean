/- Contracts of PeakWidth, of the program and of the reference. -/
import Derived.Test.YtddchlfhjiimcaaPkWalks
namespace Go.Proofs.Ytddchlfhjiimcaa
open Go.RowKit Pk

end Go.Proofs.Ytddchlfhjiimcaa
