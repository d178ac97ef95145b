/- The walk of the law FnMatchExact: a line matches itself. -/
import Derived.Test.YtpkfpegilhadfabMtDraw2
import Derived.Test.YtpkfpegilhadfabMtBestI
import Derived.Test.YtpkfpegilhadfabMtLawP
set_option linter.unusedVariables false
namespace Go.Proofs.Ytpkfpegilhadfab
open Go.RowKit Lk Mt

theorem best_pos {s : List Nd} {seen tol : Int} {k : Nat} (h : matchBest s seen tol = k) : sOk s = true ∧ mOk seen tol = true ∧ bestL (lines s) seen tol = k ∧ k < (lines s).length := by
  unfold matchBest at h
  split at h
  · next hh => exact ⟨hh.1, hh.2, h, (best_in h).1⟩
  · omega
end Go.Proofs.Ytpkfpegilhadfab
