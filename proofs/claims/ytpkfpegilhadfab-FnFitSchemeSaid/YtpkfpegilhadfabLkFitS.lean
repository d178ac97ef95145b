/- Contracts of the reference's energies. -/
import Derived.Test.YtpkfpegilhadfabLkFitM
set_option linter.unusedVariables false
namespace Go.Proofs.Ytpkfpegilhadfab
open Go.RowKit Lk

end Go.Proofs.Ytpkfpegilhadfab
