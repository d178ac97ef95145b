/- The bounds of what MatchAll and MatchMissing return. -/
import Derived.Test.YtpkfpegilhadfaaMtMissS
set_option linter.unusedVariables false
namespace Go.Proofs.Ytpkfpegilhadfaa
open Go.RowKit Lk Mt
theorem matchAll_in (s : List Nd) (zs : List Int) (tol : Int) : ∀ z ∈ matchAll s zs tol, InI z := by
  unfold matchAll
  split
  · exact allL_inI _ _ _ (lines_len s)
  · intro z hz; cases hz
theorem matchAll_len (s : List Nd) (zs : List Int) (tol : Int) : (matchAll s zs tol).length ≤ 40 := by
  unfold matchAll
  split
  · next h => rw [allL_len]; exact (allOk_parts h).2.1
  · simp
theorem matchMissing_in (s : List Nd) (zs : List Int) (tol : Int) : ∀ z ∈ matchMissing s zs tol, InI z := by
  unfold matchMissing
  split
  · intro z hz
    have := miss_in _ _ z hz
    have := lines_len s
    unfold InI; omega
  · intro z hz; cases hz
theorem matchMissing_len (s : List Nd) (zs : List Int) (tol : Int) : (matchMissing s zs tol).length ≤ 144 := by
  unfold matchMissing
  split
  · exact Nat.le_trans (miss_len _ _) (lines_len s)
  · simp
end Go.Proofs.Ytpkfpegilhadfaa
