/-
  No cell of these rows narrows 'for every input' (looked for: loops, veiled, ifaces, maps, wideKeys, modest, calm, conditions, laid).
  DERIVED. THE GIVEN ROWS OF THIS SEAT. 9 by the template 'for every input the law returns true; each argument reads behind the call as it read before'; 0 by the template 'total and deterministic' (their statements: YthogcokapppidaaTotals.lean).
  GIVEN WITH THE SEED: the statements are not yours to turn. If you find one false, say at which input.
  Laid BY PROGRAM, IN A SANDBOX (cutbox-rows.mjs): the forced cells as the released guide's own fill.sh prints them over the translation a4a0cc41bed51343… (all of the seat's roots in one cut). By AI agents, Wed Nov 11 2026. No macro, syntax, notation, axiom, sorry.
-/
import Derived.Test.YthogcokapppidaaChecked
import GoSem.Claim
import GoSem.ClaimJoined
import GoSem.ClaimMapViews
import Derived.JoinedTies
import Derived.KernelRfl
namespace Go.Proofs.Ythogcokapppidaa
/- THE CELL 'sum', in the pinned program and in every row, IS THE sha256 OF THE DUMP (.gsa) THAT YthogcokapppidaaProg.lean LOADS. Nothing in Lean hashes anything: it is a label: what it is worth is what the hold of that sum in a sandbox is worth. -/
noncomputable def Try.pinned : Pinned := { name := "ythogcokapppidaa", sum := "a4a0cc41bed51343726936a3826c7bd828664b16705bfbaacaf43dbdafbdbed5", checked := Try.checked }
namespace Rows
def none {H : Type} : Left H := { results := [], args := [] }

/-- 'laws.FnExactPeakBest': WHATEVER THE INPUT: true; the input reads as it did. -/
def fnExactPeakBestSpec : ChangeSpec := { name := "fnExactPeakBest", fn := fun _ => fun
  | [d] => { results := [.lit (.bool true)], args := [d] }
  | _ => none }
def fnExactPeakBestRow : OpenClaim := { program := "ythogcokapppidaa", sum := "a4a0cc41bed51343726936a3826c7bd828664b16705bfbaacaf43dbdafbdbed5", func := "loop.example/atomicspectra/laws.FnExactPeakBest", spec := "fnExactPeakBest", apart := false }
def FnExactPeakBestSaid : Prop := fnExactPeakBestRow.holds Try.pinned (OpenSpec.ofChange fnExactPeakBestSpec)

/-- ITS FALSE NEIGHBOUR: 'it returns false'. Refute it at one input. -/
def fnExactPeakBestWrong : ChangeSpec := { name := "fnExactPeakBest", fn := fun _ => fun
  | [d] => { results := [.lit (.bool false)], args := [d] }
  | _ => none }
def FnExactPeakBestWrongFalsely : Prop := fnExactPeakBestRow.holds Try.pinned (OpenSpec.ofChange fnExactPeakBestWrong)

/-- 'laws.FnExactPeakWidth': WHATEVER THE INPUT: true; the input reads as it did. -/
def fnExactPeakWidthSpec : ChangeSpec := { name := "fnExactPeakWidth", fn := fun _ => fun
  | [d1, d2] => { results := [.lit (.bool true)], args := [d1, d2] }
  | _ => none }
def fnExactPeakWidthRow : OpenClaim := { program := "ythogcokapppidaa", sum := "a4a0cc41bed51343726936a3826c7bd828664b16705bfbaacaf43dbdafbdbed5", func := "loop.example/atomicspectra/laws.FnExactPeakWidth", spec := "fnExactPeakWidth", apart := false }
def FnExactPeakWidthSaid : Prop := fnExactPeakWidthRow.holds Try.pinned (OpenSpec.ofChange fnExactPeakWidthSpec)

/-- ITS FALSE NEIGHBOUR: 'it returns false'. Refute it at one input. -/
def fnExactPeakWidthWrong : ChangeSpec := { name := "fnExactPeakWidth", fn := fun _ => fun
  | [d1, d2] => { results := [.lit (.bool false)], args := [d1, d2] }
  | _ => none }
def FnExactPeakWidthWrongFalsely : Prop := fnExactPeakWidthRow.holds Try.pinned (OpenSpec.ofChange fnExactPeakWidthWrong)

/-- 'laws.FnPeakWidthEdge': WHATEVER THE INPUT: true; the input reads as it did. -/
def fnPeakWidthEdgeSpec : ChangeSpec := { name := "fnPeakWidthEdge", fn := fun _ => fun
  | [d] => { results := [.lit (.bool true)], args := [d] }
  | _ => none }
def fnPeakWidthEdgeRow : OpenClaim := { program := "ythogcokapppidaa", sum := "a4a0cc41bed51343726936a3826c7bd828664b16705bfbaacaf43dbdafbdbed5", func := "loop.example/atomicspectra/laws.FnPeakWidthEdge", spec := "fnPeakWidthEdge", apart := false }
def FnPeakWidthEdgeSaid : Prop := fnPeakWidthEdgeRow.holds Try.pinned (OpenSpec.ofChange fnPeakWidthEdgeSpec)

/-- ITS FALSE NEIGHBOUR: 'it returns false'. Refute it at one input. -/
def fnPeakWidthEdgeWrong : ChangeSpec := { name := "fnPeakWidthEdge", fn := fun _ => fun
  | [d] => { results := [.lit (.bool false)], args := [d] }
  | _ => none }
def FnPeakWidthEdgeWrongFalsely : Prop := fnPeakWidthEdgeRow.holds Try.pinned (OpenSpec.ofChange fnPeakWidthEdgeWrong)

/-- 'laws.FnExactPeaksOf': WHATEVER THE INPUT: true; the input reads as it did. -/
def fnExactPeaksOfSpec : ChangeSpec := { name := "fnExactPeaksOf", fn := fun _ => fun
  | [d1, d2] => { results := [.lit (.bool true)], args := [d1, d2] }
  | _ => none }
def fnExactPeaksOfRow : OpenClaim := { program := "ythogcokapppidaa", sum := "a4a0cc41bed51343726936a3826c7bd828664b16705bfbaacaf43dbdafbdbed5", func := "loop.example/atomicspectra/laws.FnExactPeaksOf", spec := "fnExactPeaksOf", apart := false }
def FnExactPeaksOfSaid : Prop := fnExactPeaksOfRow.holds Try.pinned (OpenSpec.ofChange fnExactPeaksOfSpec)

/-- ITS FALSE NEIGHBOUR: 'it returns false'. Refute it at one input. -/
def fnExactPeaksOfWrong : ChangeSpec := { name := "fnExactPeaksOf", fn := fun _ => fun
  | [d1, d2] => { results := [.lit (.bool false)], args := [d1, d2] }
  | _ => none }
def FnExactPeaksOfWrongFalsely : Prop := fnExactPeaksOfRow.holds Try.pinned (OpenSpec.ofChange fnExactPeaksOfWrong)

/-- 'laws.FnPeakWidth': WHATEVER THE INPUT: true; the input reads as it did. -/
def fnPeakWidthSpec : ChangeSpec := { name := "fnPeakWidth", fn := fun _ => fun
  | [d] => { results := [.lit (.bool true)], args := [d] }
  | _ => none }
def fnPeakWidthRow : OpenClaim := { program := "ythogcokapppidaa", sum := "a4a0cc41bed51343726936a3826c7bd828664b16705bfbaacaf43dbdafbdbed5", func := "loop.example/atomicspectra/laws.FnPeakWidth", spec := "fnPeakWidth", apart := false }
def FnPeakWidthSaid : Prop := fnPeakWidthRow.holds Try.pinned (OpenSpec.ofChange fnPeakWidthSpec)

/-- ITS FALSE NEIGHBOUR: 'it returns false'. Refute it at one input. -/
def fnPeakWidthWrong : ChangeSpec := { name := "fnPeakWidth", fn := fun _ => fun
  | [d] => { results := [.lit (.bool false)], args := [d] }
  | _ => none }
def FnPeakWidthWrongFalsely : Prop := fnPeakWidthRow.holds Try.pinned (OpenSpec.ofChange fnPeakWidthWrong)

/-- 'laws.FnPeakBest': WHATEVER THE INPUT: true; the input reads as it did. -/
def fnPeakBestSpec : ChangeSpec := { name := "fnPeakBest", fn := fun _ => fun
  | [d] => { results := [.lit (.bool true)], args := [d] }
  | _ => none }
def fnPeakBestRow : OpenClaim := { program := "ythogcokapppidaa", sum := "a4a0cc41bed51343726936a3826c7bd828664b16705bfbaacaf43dbdafbdbed5", func := "loop.example/atomicspectra/laws.FnPeakBest", spec := "fnPeakBest", apart := false }
def FnPeakBestSaid : Prop := fnPeakBestRow.holds Try.pinned (OpenSpec.ofChange fnPeakBestSpec)

/-- ITS FALSE NEIGHBOUR: 'it returns false'. Refute it at one input. -/
def fnPeakBestWrong : ChangeSpec := { name := "fnPeakBest", fn := fun _ => fun
  | [d] => { results := [.lit (.bool false)], args := [d] }
  | _ => none }
def FnPeakBestWrongFalsely : Prop := fnPeakBestRow.holds Try.pinned (OpenSpec.ofChange fnPeakBestWrong)

/-- 'laws.FnPeaks': WHATEVER THE INPUT: true; the input reads as it did. -/
def fnPeaksSpec : ChangeSpec := { name := "fnPeaks", fn := fun _ => fun
  | [d] => { results := [.lit (.bool true)], args := [d] }
  | _ => none }
def fnPeaksRow : OpenClaim := { program := "ythogcokapppidaa", sum := "a4a0cc41bed51343726936a3826c7bd828664b16705bfbaacaf43dbdafbdbed5", func := "loop.example/atomicspectra/laws.FnPeaks", spec := "fnPeaks", apart := false }
def FnPeaksSaid : Prop := fnPeaksRow.holds Try.pinned (OpenSpec.ofChange fnPeaksSpec)

/-- ITS FALSE NEIGHBOUR: 'it returns false'. Refute it at one input. -/
def fnPeaksWrong : ChangeSpec := { name := "fnPeaks", fn := fun _ => fun
  | [d] => { results := [.lit (.bool false)], args := [d] }
  | _ => none }
def FnPeaksWrongFalsely : Prop := fnPeaksRow.holds Try.pinned (OpenSpec.ofChange fnPeaksWrong)

/-- 'laws.FnPeaksAhead': WHATEVER THE INPUT: true; the input reads as it did. -/
def fnPeaksAheadSpec : ChangeSpec := { name := "fnPeaksAhead", fn := fun _ => fun
  | [d] => { results := [.lit (.bool true)], args := [d] }
  | _ => none }
def fnPeaksAheadRow : OpenClaim := { program := "ythogcokapppidaa", sum := "a4a0cc41bed51343726936a3826c7bd828664b16705bfbaacaf43dbdafbdbed5", func := "loop.example/atomicspectra/laws.FnPeaksAhead", spec := "fnPeaksAhead", apart := false }
def FnPeaksAheadSaid : Prop := fnPeaksAheadRow.holds Try.pinned (OpenSpec.ofChange fnPeaksAheadSpec)

/-- ITS FALSE NEIGHBOUR: 'it returns false'. Refute it at one input. -/
def fnPeaksAheadWrong : ChangeSpec := { name := "fnPeaksAhead", fn := fun _ => fun
  | [d] => { results := [.lit (.bool false)], args := [d] }
  | _ => none }
def FnPeaksAheadWrongFalsely : Prop := fnPeaksAheadRow.holds Try.pinned (OpenSpec.ofChange fnPeaksAheadWrong)

/-- 'laws.FnPeaksMany': WHATEVER THE INPUT: true; the input reads as it did. -/
def fnPeaksManySpec : ChangeSpec := { name := "fnPeaksMany", fn := fun _ => fun
  | [d] => { results := [.lit (.bool true)], args := [d] }
  | _ => none }
def fnPeaksManyRow : OpenClaim := { program := "ythogcokapppidaa", sum := "a4a0cc41bed51343726936a3826c7bd828664b16705bfbaacaf43dbdafbdbed5", func := "loop.example/atomicspectra/laws.FnPeaksMany", spec := "fnPeaksMany", apart := false }
def FnPeaksManySaid : Prop := fnPeaksManyRow.holds Try.pinned (OpenSpec.ofChange fnPeaksManySpec)

/-- ITS FALSE NEIGHBOUR: 'it returns false'. Refute it at one input. -/
def fnPeaksManyWrong : ChangeSpec := { name := "fnPeaksMany", fn := fun _ => fun
  | [d] => { results := [.lit (.bool false)], args := [d] }
  | _ => none }
def FnPeaksManyWrongFalsely : Prop := fnPeaksManyRow.holds Try.pinned (OpenSpec.ofChange fnPeaksManyWrong)

/- THE SECOND FORM. 'bulk': how many values and letters a reading holds, each counted each time it is reached (what is shared counts as often as it is met; a slice's spare places count too). A statement '..UptoSaid' is the law's where the arguments, and the package variables that the reading takes, are together of bulk at most 1048576: NARROWER than '..Said'. Prove '..Said' where nothing that the law and all that it calls make is longer than what came in: it says more and counts as full. Else prove '..UptoSaid'. A law counts once. -/
mutual
def uptoBulk {H : Type} : DataW H → Nat
  | .lit (.string bytes) => bytes.length + 1
  | .lit _ => 1
  | .nil => 1
  | .ptr d => uptoBulk d + 1
  | .slice elems spare => uptoBulkAll elems + uptoBulkAll spare + 1
  | .agg parts => uptoBulkAll parts + 1
  | .iface _ d => uptoBulk d + 1
  | .map entries => uptoBulkEntries entries + 1
  | .held _ => 1
def uptoBulkAll {H : Type} : List (DataW H) → Nat
  | [] => 0
  | d :: r => uptoBulk d + uptoBulkAll r
def uptoBulkEntries {H : Type} : List (Lit × DataW H) → Nat
  | [] => 0
  | x :: r => uptoBulkEntry x + uptoBulkEntries r
def uptoBulkEntry {H : Type} : Lit × DataW H → Nat
  | (.string bytes, d) => bytes.length + uptoBulk d + 1
  | (_, d) => uptoBulk d + 1
 end
def uptoSmall : (H : Type) → List (DataW H) → Bool := fun _ ds => decide (uptoBulkAll ds ≤ 1048576)
def OpenSpec.upto (s : _root_.Go.ChangeSpec) : _root_.Go.OpenSpec := { _root_.Go.OpenSpec.ofChange s with cond := some uptoSmall }

/-- 'laws.FnExactPeakBest', WHERE WHAT IT READS IS OF BULK AT MOST 1048576: true; the input reads as it did. -/
def fnExactPeakBestUptoRow : OpenClaim := { program := "ythogcokapppidaa", sum := "a4a0cc41bed51343726936a3826c7bd828664b16705bfbaacaf43dbdafbdbed5", func := "loop.example/atomicspectra/laws.FnExactPeakBest", spec := "fnExactPeakBest", apart := false, narrowed := true }
def FnExactPeakBestUptoSaid : Prop := fnExactPeakBestUptoRow.holds Try.pinned (OpenSpec.upto fnExactPeakBestSpec)

/-- 'laws.FnExactPeakWidth', WHERE WHAT IT READS IS OF BULK AT MOST 1048576: true; the input reads as it did. -/
def fnExactPeakWidthUptoRow : OpenClaim := { program := "ythogcokapppidaa", sum := "a4a0cc41bed51343726936a3826c7bd828664b16705bfbaacaf43dbdafbdbed5", func := "loop.example/atomicspectra/laws.FnExactPeakWidth", spec := "fnExactPeakWidth", apart := false, narrowed := true }
def FnExactPeakWidthUptoSaid : Prop := fnExactPeakWidthUptoRow.holds Try.pinned (OpenSpec.upto fnExactPeakWidthSpec)

/-- 'laws.FnPeakWidthEdge', WHERE WHAT IT READS IS OF BULK AT MOST 1048576: true; the input reads as it did. -/
def fnPeakWidthEdgeUptoRow : OpenClaim := { program := "ythogcokapppidaa", sum := "a4a0cc41bed51343726936a3826c7bd828664b16705bfbaacaf43dbdafbdbed5", func := "loop.example/atomicspectra/laws.FnPeakWidthEdge", spec := "fnPeakWidthEdge", apart := false, narrowed := true }
def FnPeakWidthEdgeUptoSaid : Prop := fnPeakWidthEdgeUptoRow.holds Try.pinned (OpenSpec.upto fnPeakWidthEdgeSpec)

/-- 'laws.FnExactPeaksOf', WHERE WHAT IT READS IS OF BULK AT MOST 1048576: true; the input reads as it did. -/
def fnExactPeaksOfUptoRow : OpenClaim := { program := "ythogcokapppidaa", sum := "a4a0cc41bed51343726936a3826c7bd828664b16705bfbaacaf43dbdafbdbed5", func := "loop.example/atomicspectra/laws.FnExactPeaksOf", spec := "fnExactPeaksOf", apart := false, narrowed := true }
def FnExactPeaksOfUptoSaid : Prop := fnExactPeaksOfUptoRow.holds Try.pinned (OpenSpec.upto fnExactPeaksOfSpec)

/-- 'laws.FnPeakWidth', WHERE WHAT IT READS IS OF BULK AT MOST 1048576: true; the input reads as it did. -/
def fnPeakWidthUptoRow : OpenClaim := { program := "ythogcokapppidaa", sum := "a4a0cc41bed51343726936a3826c7bd828664b16705bfbaacaf43dbdafbdbed5", func := "loop.example/atomicspectra/laws.FnPeakWidth", spec := "fnPeakWidth", apart := false, narrowed := true }
def FnPeakWidthUptoSaid : Prop := fnPeakWidthUptoRow.holds Try.pinned (OpenSpec.upto fnPeakWidthSpec)

/-- 'laws.FnPeakBest', WHERE WHAT IT READS IS OF BULK AT MOST 1048576: true; the input reads as it did. -/
def fnPeakBestUptoRow : OpenClaim := { program := "ythogcokapppidaa", sum := "a4a0cc41bed51343726936a3826c7bd828664b16705bfbaacaf43dbdafbdbed5", func := "loop.example/atomicspectra/laws.FnPeakBest", spec := "fnPeakBest", apart := false, narrowed := true }
def FnPeakBestUptoSaid : Prop := fnPeakBestUptoRow.holds Try.pinned (OpenSpec.upto fnPeakBestSpec)

/-- 'laws.FnPeaks', WHERE WHAT IT READS IS OF BULK AT MOST 1048576: true; the input reads as it did. -/
def fnPeaksUptoRow : OpenClaim := { program := "ythogcokapppidaa", sum := "a4a0cc41bed51343726936a3826c7bd828664b16705bfbaacaf43dbdafbdbed5", func := "loop.example/atomicspectra/laws.FnPeaks", spec := "fnPeaks", apart := false, narrowed := true }
def FnPeaksUptoSaid : Prop := fnPeaksUptoRow.holds Try.pinned (OpenSpec.upto fnPeaksSpec)

/-- 'laws.FnPeaksAhead', WHERE WHAT IT READS IS OF BULK AT MOST 1048576: true; the input reads as it did. -/
def fnPeaksAheadUptoRow : OpenClaim := { program := "ythogcokapppidaa", sum := "a4a0cc41bed51343726936a3826c7bd828664b16705bfbaacaf43dbdafbdbed5", func := "loop.example/atomicspectra/laws.FnPeaksAhead", spec := "fnPeaksAhead", apart := false, narrowed := true }
def FnPeaksAheadUptoSaid : Prop := fnPeaksAheadUptoRow.holds Try.pinned (OpenSpec.upto fnPeaksAheadSpec)

/-- 'laws.FnPeaksMany', WHERE WHAT IT READS IS OF BULK AT MOST 1048576: true; the input reads as it did. -/
def fnPeaksManyUptoRow : OpenClaim := { program := "ythogcokapppidaa", sum := "a4a0cc41bed51343726936a3826c7bd828664b16705bfbaacaf43dbdafbdbed5", func := "loop.example/atomicspectra/laws.FnPeaksMany", spec := "fnPeaksMany", apart := false, narrowed := true }
def FnPeaksManyUptoSaid : Prop := fnPeaksManyUptoRow.holds Try.pinned (OpenSpec.upto fnPeaksManySpec)

end Rows
end Go.Proofs.Ythogcokapppidaa
