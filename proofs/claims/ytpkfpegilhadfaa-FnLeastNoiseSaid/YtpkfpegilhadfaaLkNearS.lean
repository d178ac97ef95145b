/- The contract of the reference's LinksNear. -/
import Derived.Test.YtpkfpegilhadfaaLkRelS
set_option linter.unusedVariables false
namespace Go.Proofs.Ytpkfpegilhadfaa
open Go.RowKit Lk

/-- LinksNear's result -/
def linksNear (many : Int) (ls : List Link) (tol : Int) : Bool := lsOk many ls && inB tol 0 200000 && nearB many.toNat ls tol
theorem made_ints {w w1 : World} {base N : Nat} {v : Value} (h : w1.ownsRow base 3 1 v N (madeCells (Value.int .i64 0).cells (N * 1)).toList) : w1.ownsRow base 3 1 v N ((List.replicate N 0).map (Value.int .i64)) := by
  have : (madeCells (Value.int .i64 0).cells (N * 1)).toList = (List.replicate N (0 : Int)).map (Value.int .i64) := by
    rw [Nat.mul_one]
    show (madeCells #[Value.int .i64 0] N).toList = _
    rw [toList_madeCells_one]; simp
  rw [← this]; exact h
theorem bd_rounds {tol : Int} (ht : 0 ≤ tol) {ls : List Link} {n : Nat} (hl : ∀ l ∈ ls, In n l) (hd : ∀ l ∈ ls, -200000 ≤ l.d ∧ l.d ≤ 200000) (h30 : ls.length ≤ 30) (r : Nat) : Bd (12000000 * r) (rounds tol ls r (List.replicate n 0)) := by
  induction r with
  | zero => exact bd_zero n
  | succ r ih =>
    have e : (rounds tol ls r (List.replicate n 0)).length = n := by rw [rounds_len, List.length_replicate]
    exact (bd_rel ht ls (by rw [e]; exact hl) hd ih (by omega)).more (by omega)

end Go.Proofs.Ytpkfpegilhadfaa
