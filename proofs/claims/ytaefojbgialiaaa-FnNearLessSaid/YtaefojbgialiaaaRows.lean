/-
  No cell of these rows narrows 'for every input' (looked for: loops, veiled, ifaces, maps, wideKeys, modest, calm, conditions, laid).
  DERIVED. THE GIVEN ROWS OF THIS SEAT. 10 by the template 'for every input the law returns true; each argument reads behind the call as it read before'; 0 by the template 'total and deterministic' (their statements: YtaefojbgialiaaaTotals.lean).
  GIVEN WITH THE SEED: the statements are not yours to turn. If you find one false, say at which input.
  Laid BY PROGRAM, IN A SANDBOX (cutbox-rows.mjs): the forced cells as the released guide's own fill.sh prints them over the translation 45a5a379759f0512… (all of the seat's roots in one cut). By AI agents, Wed Nov 11 2026. No macro, syntax, notation, axiom, sorry.
-/
import Derived.Test.YtaefojbgialiaaaChecked
import GoSem.Claim
import GoSem.ClaimJoined
import GoSem.ClaimMapViews
import Derived.JoinedTies
import Derived.KernelRfl
namespace Go.Proofs.Ytaefojbgialiaaa
/- THE CELL 'sum', in the pinned program and in every row, IS THE sha256 OF THE DUMP (.gsa) THAT YtaefojbgialiaaaProg.lean LOADS. Nothing in Lean hashes anything: it is a label: what it is worth is what the hold of that sum in a sandbox is worth. -/
noncomputable def Try.pinned : Pinned := { name := "ytaefojbgialiaaa", sum := "45a5a379759f051211f8638567402563af9678abbfde1885e2290f1334da66c5", checked := Try.checked }
namespace Rows
def none {H : Type} : Left H := { results := [], args := [] }

/-- 'laws.FnExactLinksNear': WHATEVER THE INPUT: true; the input reads as it did. -/
def fnExactLinksNearSpec : ChangeSpec := { name := "fnExactLinksNear", fn := fun _ => fun
  | [d1, d2, d3] => { results := [.lit (.bool true)], args := [d1, d2, d3] }
  | _ => none }
def fnExactLinksNearRow : OpenClaim := { program := "ytaefojbgialiaaa", sum := "45a5a379759f051211f8638567402563af9678abbfde1885e2290f1334da66c5", func := "loop.example/atomicspectra/laws.FnExactLinksNear", spec := "fnExactLinksNear", apart := false }
def FnExactLinksNearSaid : Prop := fnExactLinksNearRow.holds Try.pinned (OpenSpec.ofChange fnExactLinksNearSpec)

/-- ITS FALSE NEIGHBOUR: 'it returns false'. Refute it at one input. -/
def fnExactLinksNearWrong : ChangeSpec := { name := "fnExactLinksNear", fn := fun _ => fun
  | [d1, d2, d3] => { results := [.lit (.bool false)], args := [d1, d2, d3] }
  | _ => none }
def FnExactLinksNearWrongFalsely : Prop := fnExactLinksNearRow.holds Try.pinned (OpenSpec.ofChange fnExactLinksNearWrong)

/-- 'laws.FnExactLinksGap': WHATEVER THE INPUT: true; the input reads as it did. -/
def fnExactLinksGapSpec : ChangeSpec := { name := "fnExactLinksGap", fn := fun _ => fun
  | [d1, d2, d3] => { results := [.lit (.bool true)], args := [d1, d2, d3] }
  | _ => none }
def fnExactLinksGapRow : OpenClaim := { program := "ytaefojbgialiaaa", sum := "45a5a379759f051211f8638567402563af9678abbfde1885e2290f1334da66c5", func := "loop.example/atomicspectra/laws.FnExactLinksGap", spec := "fnExactLinksGap", apart := false }
def FnExactLinksGapSaid : Prop := fnExactLinksGapRow.holds Try.pinned (OpenSpec.ofChange fnExactLinksGapSpec)

/-- ITS FALSE NEIGHBOUR: 'it returns false'. Refute it at one input. -/
def fnExactLinksGapWrong : ChangeSpec := { name := "fnExactLinksGap", fn := fun _ => fun
  | [d1, d2, d3] => { results := [.lit (.bool false)], args := [d1, d2, d3] }
  | _ => none }
def FnExactLinksGapWrongFalsely : Prop := fnExactLinksGapRow.holds Try.pinned (OpenSpec.ofChange fnExactLinksGapWrong)

/-- 'laws.FnNearLess': WHATEVER THE INPUT: true; the input reads as it did. -/
def fnNearLessSpec : ChangeSpec := { name := "fnNearLess", fn := fun _ => fun
  | [d1, d2] => { results := [.lit (.bool true)], args := [d1, d2] }
  | _ => none }
def fnNearLessRow : OpenClaim := { program := "ytaefojbgialiaaa", sum := "45a5a379759f051211f8638567402563af9678abbfde1885e2290f1334da66c5", func := "loop.example/atomicspectra/laws.FnNearLess", spec := "fnNearLess", apart := false }
def FnNearLessSaid : Prop := fnNearLessRow.holds Try.pinned (OpenSpec.ofChange fnNearLessSpec)

/-- ITS FALSE NEIGHBOUR: 'it returns false'. Refute it at one input. -/
def fnNearLessWrong : ChangeSpec := { name := "fnNearLess", fn := fun _ => fun
  | [d1, d2] => { results := [.lit (.bool false)], args := [d1, d2] }
  | _ => none }
def FnNearLessWrongFalsely : Prop := fnNearLessRow.holds Try.pinned (OpenSpec.ofChange fnNearLessWrong)

/-- 'laws.FnGap': WHATEVER THE INPUT: true; the input reads as it did. -/
def fnGapSpec : ChangeSpec := { name := "fnGap", fn := fun _ => fun
  | [d] => { results := [.lit (.bool true)], args := [d] }
  | _ => none }
def fnGapRow : OpenClaim := { program := "ytaefojbgialiaaa", sum := "45a5a379759f051211f8638567402563af9678abbfde1885e2290f1334da66c5", func := "loop.example/atomicspectra/laws.FnGap", spec := "fnGap", apart := false }
def FnGapSaid : Prop := fnGapRow.holds Try.pinned (OpenSpec.ofChange fnGapSpec)

/-- ITS FALSE NEIGHBOUR: 'it returns false'. Refute it at one input. -/
def fnGapWrong : ChangeSpec := { name := "fnGap", fn := fun _ => fun
  | [d] => { results := [.lit (.bool false)], args := [d] }
  | _ => none }
def FnGapWrongFalsely : Prop := fnGapRow.holds Try.pinned (OpenSpec.ofChange fnGapWrong)

/-- 'laws.FnJoined': WHATEVER THE INPUT: true; the input reads as it did. -/
def fnJoinedSpec : ChangeSpec := { name := "fnJoined", fn := fun _ => fun
  | [d] => { results := [.lit (.bool true)], args := [d] }
  | _ => none }
def fnJoinedRow : OpenClaim := { program := "ytaefojbgialiaaa", sum := "45a5a379759f051211f8638567402563af9678abbfde1885e2290f1334da66c5", func := "loop.example/atomicspectra/laws.FnJoined", spec := "fnJoined", apart := false }
def FnJoinedSaid : Prop := fnJoinedRow.holds Try.pinned (OpenSpec.ofChange fnJoinedSpec)

/-- ITS FALSE NEIGHBOUR: 'it returns false'. Refute it at one input. -/
def fnJoinedWrong : ChangeSpec := { name := "fnJoined", fn := fun _ => fun
  | [d] => { results := [.lit (.bool false)], args := [d] }
  | _ => none }
def FnJoinedWrongFalsely : Prop := fnJoinedRow.holds Try.pinned (OpenSpec.ofChange fnJoinedWrong)

/-- 'laws.FnJoinedLess': WHATEVER THE INPUT: true; the input reads as it did. -/
def fnJoinedLessSpec : ChangeSpec := { name := "fnJoinedLess", fn := fun _ => fun
  | [d] => { results := [.lit (.bool true)], args := [d] }
  | _ => none }
def fnJoinedLessRow : OpenClaim := { program := "ytaefojbgialiaaa", sum := "45a5a379759f051211f8638567402563af9678abbfde1885e2290f1334da66c5", func := "loop.example/atomicspectra/laws.FnJoinedLess", spec := "fnJoinedLess", apart := false }
def FnJoinedLessSaid : Prop := fnJoinedLessRow.holds Try.pinned (OpenSpec.ofChange fnJoinedLessSpec)

/-- ITS FALSE NEIGHBOUR: 'it returns false'. Refute it at one input. -/
def fnJoinedLessWrong : ChangeSpec := { name := "fnJoinedLess", fn := fun _ => fun
  | [d] => { results := [.lit (.bool false)], args := [d] }
  | _ => none }
def FnJoinedLessWrongFalsely : Prop := fnJoinedLessRow.holds Try.pinned (OpenSpec.ofChange fnJoinedLessWrong)

/-- 'laws.FnJoinedMany': WHATEVER THE INPUT: true; the input reads as it did. -/
def fnJoinedManySpec : ChangeSpec := { name := "fnJoinedMany", fn := fun _ => fun
  | [d] => { results := [.lit (.bool true)], args := [d] }
  | _ => none }
def fnJoinedManyRow : OpenClaim := { program := "ytaefojbgialiaaa", sum := "45a5a379759f051211f8638567402563af9678abbfde1885e2290f1334da66c5", func := "loop.example/atomicspectra/laws.FnJoinedMany", spec := "fnJoinedMany", apart := false }
def FnJoinedManySaid : Prop := fnJoinedManyRow.holds Try.pinned (OpenSpec.ofChange fnJoinedManySpec)

/-- ITS FALSE NEIGHBOUR: 'it returns false'. Refute it at one input. -/
def fnJoinedManyWrong : ChangeSpec := { name := "fnJoinedMany", fn := fun _ => fun
  | [d] => { results := [.lit (.bool false)], args := [d] }
  | _ => none }
def FnJoinedManyWrongFalsely : Prop := fnJoinedManyRow.holds Try.pinned (OpenSpec.ofChange fnJoinedManyWrong)

/-- 'laws.FnExactLinksLeast': WHATEVER THE INPUT: true; the input reads as it did. -/
def fnExactLinksLeastSpec : ChangeSpec := { name := "fnExactLinksLeast", fn := fun _ => fun
  | [d1, d2] => { results := [.lit (.bool true)], args := [d1, d2] }
  | _ => none }
def fnExactLinksLeastRow : OpenClaim := { program := "ytaefojbgialiaaa", sum := "45a5a379759f051211f8638567402563af9678abbfde1885e2290f1334da66c5", func := "loop.example/atomicspectra/laws.FnExactLinksLeast", spec := "fnExactLinksLeast", unfollowed := true, recurses := true, apart := false }
def FnExactLinksLeastSaid : Prop := fnExactLinksLeastRow.holds Try.pinned (OpenSpec.ofChange fnExactLinksLeastSpec)

/-- ITS FALSE NEIGHBOUR: 'it returns false'. Refute it at one input. -/
def fnExactLinksLeastWrong : ChangeSpec := { name := "fnExactLinksLeast", fn := fun _ => fun
  | [d1, d2] => { results := [.lit (.bool false)], args := [d1, d2] }
  | _ => none }
def FnExactLinksLeastWrongFalsely : Prop := fnExactLinksLeastRow.holds Try.pinned (OpenSpec.ofChange fnExactLinksLeastWrong)

/-- 'laws.FnExactLinksJoined': WHATEVER THE INPUT: true; the input reads as it did. -/
def fnExactLinksJoinedSpec : ChangeSpec := { name := "fnExactLinksJoined", fn := fun _ => fun
  | [d1, d2] => { results := [.lit (.bool true)], args := [d1, d2] }
  | _ => none }
def fnExactLinksJoinedRow : OpenClaim := { program := "ytaefojbgialiaaa", sum := "45a5a379759f051211f8638567402563af9678abbfde1885e2290f1334da66c5", func := "loop.example/atomicspectra/laws.FnExactLinksJoined", spec := "fnExactLinksJoined", apart := false }
def FnExactLinksJoinedSaid : Prop := fnExactLinksJoinedRow.holds Try.pinned (OpenSpec.ofChange fnExactLinksJoinedSpec)

/-- ITS FALSE NEIGHBOUR: 'it returns false'. Refute it at one input. -/
def fnExactLinksJoinedWrong : ChangeSpec := { name := "fnExactLinksJoined", fn := fun _ => fun
  | [d1, d2] => { results := [.lit (.bool false)], args := [d1, d2] }
  | _ => none }
def FnExactLinksJoinedWrongFalsely : Prop := fnExactLinksJoinedRow.holds Try.pinned (OpenSpec.ofChange fnExactLinksJoinedWrong)

/-- 'laws.FnLeastLoop': WHATEVER THE INPUT: true; the input reads as it did. -/
def fnLeastLoopSpec : ChangeSpec := { name := "fnLeastLoop", fn := fun _ => fun
  | [d1, d2] => { results := [.lit (.bool true)], args := [d1, d2] }
  | _ => none }
def fnLeastLoopRow : OpenClaim := { program := "ytaefojbgialiaaa", sum := "45a5a379759f051211f8638567402563af9678abbfde1885e2290f1334da66c5", func := "loop.example/atomicspectra/laws.FnLeastLoop", spec := "fnLeastLoop", unfollowed := true, recurses := true, apart := false }
def FnLeastLoopSaid : Prop := fnLeastLoopRow.holds Try.pinned (OpenSpec.ofChange fnLeastLoopSpec)

/-- ITS FALSE NEIGHBOUR: 'it returns false'. Refute it at one input. -/
def fnLeastLoopWrong : ChangeSpec := { name := "fnLeastLoop", fn := fun _ => fun
  | [d1, d2] => { results := [.lit (.bool false)], args := [d1, d2] }
  | _ => none }
def FnLeastLoopWrongFalsely : Prop := fnLeastLoopRow.holds Try.pinned (OpenSpec.ofChange fnLeastLoopWrong)

/- THE SECOND FORM. 'bulk': how many values and letters a reading holds, each counted each time it is reached (what is shared counts as often as it is met; a slice's spare places count too). A statement '..UptoSaid' is the law's where the arguments, and the package variables that the reading takes, are together of bulk at most 1048576: NARROWER than '..Said'. Prove '..Said' where nothing that the law and all that it calls make is longer than what came in: it says more and counts as full. Else prove '..UptoSaid'. A law counts once. -/
mutual
def uptoBulk {H : Type} : DataW H → Nat
  | .lit (.string bytes) => bytes.length + 1
  | .lit _ => 1
  | .nil => 1
  | .ptr d => uptoBulk d + 1
  | .slice elems spare => uptoBulkAll elems + uptoBulkAll spare + 1
  | .agg parts => uptoBulkAll parts + 1
  | .iface _ d => uptoBulk d + 1
  | .map entries => uptoBulkEntries entries + 1
  | .held _ => 1
def uptoBulkAll {H : Type} : List (DataW H) → Nat
  | [] => 0
  | d :: r => uptoBulk d + uptoBulkAll r
def uptoBulkEntries {H : Type} : List (Lit × DataW H) → Nat
  | [] => 0
  | x :: r => uptoBulkEntry x + uptoBulkEntries r
def uptoBulkEntry {H : Type} : Lit × DataW H → Nat
  | (.string bytes, d) => bytes.length + uptoBulk d + 1
  | (_, d) => uptoBulk d + 1
 end
def uptoSmall : (H : Type) → List (DataW H) → Bool := fun _ ds => decide (uptoBulkAll ds ≤ 1048576)
def OpenSpec.upto (s : _root_.Go.ChangeSpec) : _root_.Go.OpenSpec := { _root_.Go.OpenSpec.ofChange s with cond := some uptoSmall }

/-- 'laws.FnExactLinksNear', WHERE WHAT IT READS IS OF BULK AT MOST 1048576: true; the input reads as it did. -/
def fnExactLinksNearUptoRow : OpenClaim := { program := "ytaefojbgialiaaa", sum := "45a5a379759f051211f8638567402563af9678abbfde1885e2290f1334da66c5", func := "loop.example/atomicspectra/laws.FnExactLinksNear", spec := "fnExactLinksNear", apart := false, narrowed := true }
def FnExactLinksNearUptoSaid : Prop := fnExactLinksNearUptoRow.holds Try.pinned (OpenSpec.upto fnExactLinksNearSpec)

/-- 'laws.FnExactLinksGap', WHERE WHAT IT READS IS OF BULK AT MOST 1048576: true; the input reads as it did. -/
def fnExactLinksGapUptoRow : OpenClaim := { program := "ytaefojbgialiaaa", sum := "45a5a379759f051211f8638567402563af9678abbfde1885e2290f1334da66c5", func := "loop.example/atomicspectra/laws.FnExactLinksGap", spec := "fnExactLinksGap", apart := false, narrowed := true }
def FnExactLinksGapUptoSaid : Prop := fnExactLinksGapUptoRow.holds Try.pinned (OpenSpec.upto fnExactLinksGapSpec)

/-- 'laws.FnNearLess', WHERE WHAT IT READS IS OF BULK AT MOST 1048576: true; the input reads as it did. -/
def fnNearLessUptoRow : OpenClaim := { program := "ytaefojbgialiaaa", sum := "45a5a379759f051211f8638567402563af9678abbfde1885e2290f1334da66c5", func := "loop.example/atomicspectra/laws.FnNearLess", spec := "fnNearLess", apart := false, narrowed := true }
def FnNearLessUptoSaid : Prop := fnNearLessUptoRow.holds Try.pinned (OpenSpec.upto fnNearLessSpec)

/-- 'laws.FnGap', WHERE WHAT IT READS IS OF BULK AT MOST 1048576: true; the input reads as it did. -/
def fnGapUptoRow : OpenClaim := { program := "ytaefojbgialiaaa", sum := "45a5a379759f051211f8638567402563af9678abbfde1885e2290f1334da66c5", func := "loop.example/atomicspectra/laws.FnGap", spec := "fnGap", apart := false, narrowed := true }
def FnGapUptoSaid : Prop := fnGapUptoRow.holds Try.pinned (OpenSpec.upto fnGapSpec)

/-- 'laws.FnJoined', WHERE WHAT IT READS IS OF BULK AT MOST 1048576: true; the input reads as it did. -/
def fnJoinedUptoRow : OpenClaim := { program := "ytaefojbgialiaaa", sum := "45a5a379759f051211f8638567402563af9678abbfde1885e2290f1334da66c5", func := "loop.example/atomicspectra/laws.FnJoined", spec := "fnJoined", apart := false, narrowed := true }
def FnJoinedUptoSaid : Prop := fnJoinedUptoRow.holds Try.pinned (OpenSpec.upto fnJoinedSpec)

/-- 'laws.FnJoinedLess', WHERE WHAT IT READS IS OF BULK AT MOST 1048576: true; the input reads as it did. -/
def fnJoinedLessUptoRow : OpenClaim := { program := "ytaefojbgialiaaa", sum := "45a5a379759f051211f8638567402563af9678abbfde1885e2290f1334da66c5", func := "loop.example/atomicspectra/laws.FnJoinedLess", spec := "fnJoinedLess", apart := false, narrowed := true }
def FnJoinedLessUptoSaid : Prop := fnJoinedLessUptoRow.holds Try.pinned (OpenSpec.upto fnJoinedLessSpec)

/-- 'laws.FnJoinedMany', WHERE WHAT IT READS IS OF BULK AT MOST 1048576: true; the input reads as it did. -/
def fnJoinedManyUptoRow : OpenClaim := { program := "ytaefojbgialiaaa", sum := "45a5a379759f051211f8638567402563af9678abbfde1885e2290f1334da66c5", func := "loop.example/atomicspectra/laws.FnJoinedMany", spec := "fnJoinedMany", apart := false, narrowed := true }
def FnJoinedManyUptoSaid : Prop := fnJoinedManyUptoRow.holds Try.pinned (OpenSpec.upto fnJoinedManySpec)

/-- 'laws.FnExactLinksLeast', WHERE WHAT IT READS IS OF BULK AT MOST 1048576: true; the input reads as it did. -/
def fnExactLinksLeastUptoRow : OpenClaim := { program := "ytaefojbgialiaaa", sum := "45a5a379759f051211f8638567402563af9678abbfde1885e2290f1334da66c5", func := "loop.example/atomicspectra/laws.FnExactLinksLeast", spec := "fnExactLinksLeast", unfollowed := true, recurses := true, apart := false, narrowed := true }
def FnExactLinksLeastUptoSaid : Prop := fnExactLinksLeastUptoRow.holds Try.pinned (OpenSpec.upto fnExactLinksLeastSpec)

/-- 'laws.FnExactLinksJoined', WHERE WHAT IT READS IS OF BULK AT MOST 1048576: true; the input reads as it did. -/
def fnExactLinksJoinedUptoRow : OpenClaim := { program := "ytaefojbgialiaaa", sum := "45a5a379759f051211f8638567402563af9678abbfde1885e2290f1334da66c5", func := "loop.example/atomicspectra/laws.FnExactLinksJoined", spec := "fnExactLinksJoined", apart := false, narrowed := true }
def FnExactLinksJoinedUptoSaid : Prop := fnExactLinksJoinedUptoRow.holds Try.pinned (OpenSpec.upto fnExactLinksJoinedSpec)

/-- 'laws.FnLeastLoop', WHERE WHAT IT READS IS OF BULK AT MOST 1048576: true; the input reads as it did. -/
def fnLeastLoopUptoRow : OpenClaim := { program := "ytaefojbgialiaaa", sum := "45a5a379759f051211f8638567402563af9678abbfde1885e2290f1334da66c5", func := "loop.example/atomicspectra/laws.FnLeastLoop", spec := "fnLeastLoop", unfollowed := true, recurses := true, apart := false, narrowed := true }
def FnLeastLoopUptoSaid : Prop := fnLeastLoopUptoRow.holds Try.pinned (OpenSpec.upto fnLeastLoopSpec)

end Rows
end Go.Proofs.Ytaefojbgialiaaa
