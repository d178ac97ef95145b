/-
  No cell of these rows narrows 'for every input' (looked for: loops, veiled, ifaces, maps, wideKeys, modest, calm, conditions, laid).
  DERIVED. THE GIVEN ROWS OF THIS SEAT. 3 by the template 'for every input the law returns true; each argument reads behind the call as it read before'; 0 by the template 'total and deterministic' (their statements: YtddchlfhjiimcaaTotals.lean).
  GIVEN WITH THE SEED: the statements are not yours to turn. If you find one false, say at which input.
  Laid BY PROGRAM, IN A SANDBOX (cutbox-rows.mjs): the forced cells as the released guide's own fill.sh prints them over the translation 2b0e77a2ed6ba43e… (all of the seat's roots in one cut). By AI agents, Wed Nov 11 2026. No macro, syntax, notation, axiom, sorry.
-/
import Derived.Test.YtddchlfhjiimcaaChecked
import GoSem.Claim
import GoSem.ClaimJoined
import GoSem.ClaimMapViews
import Derived.JoinedTies
import Derived.KernelRfl
namespace Go.Proofs.Ytddchlfhjiimcaa
/- THE CELL 'sum', in the pinned program and in every row, IS THE sha256 OF THE DUMP (.gsa) THAT YtddchlfhjiimcaaProg.lean LOADS. Nothing in Lean hashes anything: it is a label: what it is worth is what the hold of that sum in a sandbox is worth. -/
noncomputable def Try.pinned : Pinned := { name := "ytddchlfhjiimcaa", sum := "2b0e77a2ed6ba43e874bcb48a37fe65624a6da9ee375a5c9a1ebf096ecf4951e", checked := Try.checked }
namespace Rows
def none {H : Type} : Left H := { results := [], args := [] }

/-- 'laws.FnPeaksShift': WHATEVER THE INPUT: true; the input reads as it did. -/
def fnPeaksShiftSpec : ChangeSpec := { name := "fnPeaksShift", fn := fun _ => fun
  | [d] => { results := [.lit (.bool true)], args := [d] }
  | _ => none }
def fnPeaksShiftRow : OpenClaim := { program := "ytddchlfhjiimcaa", sum := "2b0e77a2ed6ba43e874bcb48a37fe65624a6da9ee375a5c9a1ebf096ecf4951e", func := "loop.example/atomicspectra/laws.FnPeaksShift", spec := "fnPeaksShift", apart := false }
def FnPeaksShiftSaid : Prop := fnPeaksShiftRow.holds Try.pinned (OpenSpec.ofChange fnPeaksShiftSpec)

/-- ITS FALSE NEIGHBOUR: 'it returns false'. Refute it at one input. -/
def fnPeaksShiftWrong : ChangeSpec := { name := "fnPeaksShift", fn := fun _ => fun
  | [d] => { results := [.lit (.bool false)], args := [d] }
  | _ => none }
def FnPeaksShiftWrongFalsely : Prop := fnPeaksShiftRow.holds Try.pinned (OpenSpec.ofChange fnPeaksShiftWrong)

/-- 'laws.FnCenterMirror': WHATEVER THE INPUT: true; the input reads as it did. -/
def fnCenterMirrorSpec : ChangeSpec := { name := "fnCenterMirror", fn := fun _ => fun
  | [d] => { results := [.lit (.bool true)], args := [d] }
  | _ => none }
def fnCenterMirrorRow : OpenClaim := { program := "ytddchlfhjiimcaa", sum := "2b0e77a2ed6ba43e874bcb48a37fe65624a6da9ee375a5c9a1ebf096ecf4951e", func := "loop.example/atomicspectra/laws.FnCenterMirror", spec := "fnCenterMirror", apart := false }
def FnCenterMirrorSaid : Prop := fnCenterMirrorRow.holds Try.pinned (OpenSpec.ofChange fnCenterMirrorSpec)

/-- ITS FALSE NEIGHBOUR: 'it returns false'. Refute it at one input. -/
def fnCenterMirrorWrong : ChangeSpec := { name := "fnCenterMirror", fn := fun _ => fun
  | [d] => { results := [.lit (.bool false)], args := [d] }
  | _ => none }
def FnCenterMirrorWrongFalsely : Prop := fnCenterMirrorRow.holds Try.pinned (OpenSpec.ofChange fnCenterMirrorWrong)

/-- 'laws.FnCenter': WHATEVER THE INPUT: true; the input reads as it did. -/
def fnCenterSpec : ChangeSpec := { name := "fnCenter", fn := fun _ => fun
  | [d] => { results := [.lit (.bool true)], args := [d] }
  | _ => none }
def fnCenterRow : OpenClaim := { program := "ytddchlfhjiimcaa", sum := "2b0e77a2ed6ba43e874bcb48a37fe65624a6da9ee375a5c9a1ebf096ecf4951e", func := "loop.example/atomicspectra/laws.FnCenter", spec := "fnCenter", apart := false }
def FnCenterSaid : Prop := fnCenterRow.holds Try.pinned (OpenSpec.ofChange fnCenterSpec)

/-- ITS FALSE NEIGHBOUR: 'it returns false'. Refute it at one input. -/
def fnCenterWrong : ChangeSpec := { name := "fnCenter", fn := fun _ => fun
  | [d] => { results := [.lit (.bool false)], args := [d] }
  | _ => none }
def FnCenterWrongFalsely : Prop := fnCenterRow.holds Try.pinned (OpenSpec.ofChange fnCenterWrong)

/- THE SECOND FORM. 'bulk': how many values and letters a reading holds, each counted each time it is reached (what is shared counts as often as it is met; a slice's spare places count too). A statement '..UptoSaid' is the law's where the arguments, and the package variables that the reading takes, are together of bulk at most 1048576: NARROWER than '..Said'. Prove '..Said' where nothing that the law and all that it calls make is longer than what came in: it says more and counts as full. Else prove '..UptoSaid'. A law counts once. -/
mutual
def uptoBulk {H : Type} : DataW H → Nat
  | .lit (.string bytes) => bytes.length + 1
  | .lit _ => 1
  | .nil => 1
  | .ptr d => uptoBulk d + 1
  | .slice elems spare => uptoBulkAll elems + uptoBulkAll spare + 1
  | .agg parts => uptoBulkAll parts + 1
  | .iface _ d => uptoBulk d + 1
  | .map entries => uptoBulkEntries entries + 1
  | .held _ => 1
def uptoBulkAll {H : Type} : List (DataW H) → Nat
  | [] => 0
  | d :: r => uptoBulk d + uptoBulkAll r
def uptoBulkEntries {H : Type} : List (Lit × DataW H) → Nat
  | [] => 0
  | x :: r => uptoBulkEntry x + uptoBulkEntries r
def uptoBulkEntry {H : Type} : Lit × DataW H → Nat
  | (.string bytes, d) => bytes.length + uptoBulk d + 1
  | (_, d) => uptoBulk d + 1
 end
def uptoSmall : (H : Type) → List (DataW H) → Bool := fun _ ds => decide (uptoBulkAll ds ≤ 1048576)
def OpenSpec.upto (s : _root_.Go.ChangeSpec) : _root_.Go.OpenSpec := { _root_.Go.OpenSpec.ofChange s with cond := some uptoSmall }

/-- 'laws.FnPeaksShift', WHERE WHAT IT READS IS OF BULK AT MOST 1048576: true; the input reads as it did. -/
def fnPeaksShiftUptoRow : OpenClaim := { program := "ytddchlfhjiimcaa", sum := "2b0e77a2ed6ba43e874bcb48a37fe65624a6da9ee375a5c9a1ebf096ecf4951e", func := "loop.example/atomicspectra/laws.FnPeaksShift", spec := "fnPeaksShift", apart := false, narrowed := true }
def FnPeaksShiftUptoSaid : Prop := fnPeaksShiftUptoRow.holds Try.pinned (OpenSpec.upto fnPeaksShiftSpec)

/-- 'laws.FnCenterMirror', WHERE WHAT IT READS IS OF BULK AT MOST 1048576: true; the input reads as it did. -/
def fnCenterMirrorUptoRow : OpenClaim := { program := "ytddchlfhjiimcaa", sum := "2b0e77a2ed6ba43e874bcb48a37fe65624a6da9ee375a5c9a1ebf096ecf4951e", func := "loop.example/atomicspectra/laws.FnCenterMirror", spec := "fnCenterMirror", apart := false, narrowed := true }
def FnCenterMirrorUptoSaid : Prop := fnCenterMirrorUptoRow.holds Try.pinned (OpenSpec.upto fnCenterMirrorSpec)

/-- 'laws.FnCenter', WHERE WHAT IT READS IS OF BULK AT MOST 1048576: true; the input reads as it did. -/
def fnCenterUptoRow : OpenClaim := { program := "ytddchlfhjiimcaa", sum := "2b0e77a2ed6ba43e874bcb48a37fe65624a6da9ee375a5c9a1ebf096ecf4951e", func := "loop.example/atomicspectra/laws.FnCenter", spec := "fnCenter", apart := false, narrowed := true }
def FnCenterUptoSaid : Prop := fnCenterUptoRow.holds Try.pinned (OpenSpec.upto fnCenterSpec)

end Rows
end Go.Proofs.Ytddchlfhjiimcaa
