/- The contract of the reference's LinksFit. -/
import Derived.Test.YtpkfpegilhadfabLkFitS
import Derived.Test.YtpkfpegilhadfabLkGap
set_option linter.unusedVariables false
namespace Go.Proofs.Ytpkfpegilhadfab
open Go.RowKit Lk

theorem bool_info : (Try.prog.info? 4).map (fun i => (i.zero, i.size, i.bytes)) = some (some (.bool false), 1, 1) := by kernel_rfl
theorem offL_z {es : List Int} {l : Link} (h : gI es l.t.toNat - gI es l.f.toNat - l.d = 0) : gI es l.t.toNat - gI es l.f.toNat = l.d := by omega

/-- LinksFit's end -/
def FitEnd (many : Int) (ls : List Link) (w : World) (e : Ending) (w' : World) : Prop :=
  ∃ A' m c', e = .returned (.tuple #[.slice A' m c', .bool (fitR many ls).isSome]) ∧ w'.ownsRow w.heap.size 3 1 (.slice A' m c') m (((fitR many ls).getD []).map (Value.int .i64)) ∧ Below w.heap.size w w'

end Go.Proofs.Ytpkfpegilhadfab
