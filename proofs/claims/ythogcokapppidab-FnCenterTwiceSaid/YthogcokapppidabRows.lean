/-
  No cell of these rows narrows 'for every input' (looked for: loops, veiled, ifaces, maps, wideKeys, modest, calm, conditions, laid).
  DERIVED. THE GIVEN ROWS OF THIS SEAT. 9 by the template 'for every input the law returns true; each argument reads behind the call as it read before'; 0 by the template 'total and deterministic' (their statements: YthogcokapppidabTotals.lean).
  GIVEN WITH THE SEED: the statements are not yours to turn. If you find one false, say at which input.
  Laid BY PROGRAM, IN A SANDBOX (cutbox-rows.mjs): the forced cells as the released guide's own fill.sh prints them over the translation 54feec20ed982cf8… (all of the seat's roots in one cut). By AI agents, Wed Nov 11 2026. No macro, syntax, notation, axiom, sorry.
-/
import Derived.Test.YthogcokapppidabChecked
import GoSem.Claim
import GoSem.ClaimJoined
import GoSem.ClaimMapViews
import Derived.JoinedTies
import Derived.KernelRfl
namespace Go.Proofs.Ythogcokapppidab
/- THE CELL 'sum', in the pinned program and in every row, IS THE sha256 OF THE DUMP (.gsa) THAT YthogcokapppidabProg.lean LOADS. Nothing in Lean hashes anything: it is a label: what it is worth is what the hold of that sum in a sandbox is worth. -/
noncomputable def Try.pinned : Pinned := { name := "ythogcokapppidab", sum := "54feec20ed982cf877887623841fc1434094107726a1cf95fcd97b6b3c4c4fde", checked := Try.checked }
namespace Rows
def none {H : Type} : Left H := { results := [], args := [] }

/-- 'laws.FnPeaksMore': WHATEVER THE INPUT: true; the input reads as it did. -/
def fnPeaksMoreSpec : ChangeSpec := { name := "fnPeaksMore", fn := fun _ => fun
  | [d] => { results := [.lit (.bool true)], args := [d] }
  | _ => none }
def fnPeaksMoreRow : OpenClaim := { program := "ythogcokapppidab", sum := "54feec20ed982cf877887623841fc1434094107726a1cf95fcd97b6b3c4c4fde", func := "loop.example/atomicspectra/laws.FnPeaksMore", spec := "fnPeaksMore", apart := false }
def FnPeaksMoreSaid : Prop := fnPeaksMoreRow.holds Try.pinned (OpenSpec.ofChange fnPeaksMoreSpec)

/-- ITS FALSE NEIGHBOUR: 'it returns false'. Refute it at one input. -/
def fnPeaksMoreWrong : ChangeSpec := { name := "fnPeaksMore", fn := fun _ => fun
  | [d] => { results := [.lit (.bool false)], args := [d] }
  | _ => none }
def FnPeaksMoreWrongFalsely : Prop := fnPeaksMoreRow.holds Try.pinned (OpenSpec.ofChange fnPeaksMoreWrong)

/-- 'laws.FnPeaksShift': WHATEVER THE INPUT: true; the input reads as it did. -/
def fnPeaksShiftSpec : ChangeSpec := { name := "fnPeaksShift", fn := fun _ => fun
  | [d] => { results := [.lit (.bool true)], args := [d] }
  | _ => none }
def fnPeaksShiftRow : OpenClaim := { program := "ythogcokapppidab", sum := "54feec20ed982cf877887623841fc1434094107726a1cf95fcd97b6b3c4c4fde", func := "loop.example/atomicspectra/laws.FnPeaksShift", spec := "fnPeaksShift", apart := false }
def FnPeaksShiftSaid : Prop := fnPeaksShiftRow.holds Try.pinned (OpenSpec.ofChange fnPeaksShiftSpec)

/-- ITS FALSE NEIGHBOUR: 'it returns false'. Refute it at one input. -/
def fnPeaksShiftWrong : ChangeSpec := { name := "fnPeaksShift", fn := fun _ => fun
  | [d] => { results := [.lit (.bool false)], args := [d] }
  | _ => none }
def FnPeaksShiftWrongFalsely : Prop := fnPeaksShiftRow.holds Try.pinned (OpenSpec.ofChange fnPeaksShiftWrong)

/-- 'laws.FnPeaksMirror': WHATEVER THE INPUT: true; the input reads as it did. -/
def fnPeaksMirrorSpec : ChangeSpec := { name := "fnPeaksMirror", fn := fun _ => fun
  | [d] => { results := [.lit (.bool true)], args := [d] }
  | _ => none }
def fnPeaksMirrorRow : OpenClaim := { program := "ythogcokapppidab", sum := "54feec20ed982cf877887623841fc1434094107726a1cf95fcd97b6b3c4c4fde", func := "loop.example/atomicspectra/laws.FnPeaksMirror", spec := "fnPeaksMirror", apart := false }
def FnPeaksMirrorSaid : Prop := fnPeaksMirrorRow.holds Try.pinned (OpenSpec.ofChange fnPeaksMirrorSpec)

/-- ITS FALSE NEIGHBOUR: 'it returns false'. Refute it at one input. -/
def fnPeaksMirrorWrong : ChangeSpec := { name := "fnPeaksMirror", fn := fun _ => fun
  | [d] => { results := [.lit (.bool false)], args := [d] }
  | _ => none }
def FnPeaksMirrorWrongFalsely : Prop := fnPeaksMirrorRow.holds Try.pinned (OpenSpec.ofChange fnPeaksMirrorWrong)

/-- 'laws.FnPeaksTwice': WHATEVER THE INPUT: true; the input reads as it did. -/
def fnPeaksTwiceSpec : ChangeSpec := { name := "fnPeaksTwice", fn := fun _ => fun
  | [d] => { results := [.lit (.bool true)], args := [d] }
  | _ => none }
def fnPeaksTwiceRow : OpenClaim := { program := "ythogcokapppidab", sum := "54feec20ed982cf877887623841fc1434094107726a1cf95fcd97b6b3c4c4fde", func := "loop.example/atomicspectra/laws.FnPeaksTwice", spec := "fnPeaksTwice", apart := false }
def FnPeaksTwiceSaid : Prop := fnPeaksTwiceRow.holds Try.pinned (OpenSpec.ofChange fnPeaksTwiceSpec)

/-- ITS FALSE NEIGHBOUR: 'it returns false'. Refute it at one input. -/
def fnPeaksTwiceWrong : ChangeSpec := { name := "fnPeaksTwice", fn := fun _ => fun
  | [d] => { results := [.lit (.bool false)], args := [d] }
  | _ => none }
def FnPeaksTwiceWrongFalsely : Prop := fnPeaksTwiceRow.holds Try.pinned (OpenSpec.ofChange fnPeaksTwiceWrong)

/-- 'laws.FnExactPeakCenter': WHATEVER THE INPUT: true; the input reads as it did. -/
def fnExactPeakCenterSpec : ChangeSpec := { name := "fnExactPeakCenter", fn := fun _ => fun
  | [d1, d2, d3] => { results := [.lit (.bool true)], args := [d1, d2, d3] }
  | _ => none }
def fnExactPeakCenterRow : OpenClaim := { program := "ythogcokapppidab", sum := "54feec20ed982cf877887623841fc1434094107726a1cf95fcd97b6b3c4c4fde", func := "loop.example/atomicspectra/laws.FnExactPeakCenter", spec := "fnExactPeakCenter", apart := false }
def FnExactPeakCenterSaid : Prop := fnExactPeakCenterRow.holds Try.pinned (OpenSpec.ofChange fnExactPeakCenterSpec)

/-- ITS FALSE NEIGHBOUR: 'it returns false'. Refute it at one input. -/
def fnExactPeakCenterWrong : ChangeSpec := { name := "fnExactPeakCenter", fn := fun _ => fun
  | [d1, d2, d3] => { results := [.lit (.bool false)], args := [d1, d2, d3] }
  | _ => none }
def FnExactPeakCenterWrongFalsely : Prop := fnExactPeakCenterRow.holds Try.pinned (OpenSpec.ofChange fnExactPeakCenterWrong)

/-- 'laws.FnCenterAlone': WHATEVER THE INPUT: true; the input reads as it did. -/
def fnCenterAloneSpec : ChangeSpec := { name := "fnCenterAlone", fn := fun _ => fun
  | [d] => { results := [.lit (.bool true)], args := [d] }
  | _ => none }
def fnCenterAloneRow : OpenClaim := { program := "ythogcokapppidab", sum := "54feec20ed982cf877887623841fc1434094107726a1cf95fcd97b6b3c4c4fde", func := "loop.example/atomicspectra/laws.FnCenterAlone", spec := "fnCenterAlone", apart := false }
def FnCenterAloneSaid : Prop := fnCenterAloneRow.holds Try.pinned (OpenSpec.ofChange fnCenterAloneSpec)

/-- ITS FALSE NEIGHBOUR: 'it returns false'. Refute it at one input. -/
def fnCenterAloneWrong : ChangeSpec := { name := "fnCenterAlone", fn := fun _ => fun
  | [d] => { results := [.lit (.bool false)], args := [d] }
  | _ => none }
def FnCenterAloneWrongFalsely : Prop := fnCenterAloneRow.holds Try.pinned (OpenSpec.ofChange fnCenterAloneWrong)

/-- 'laws.FnCenterMirror': WHATEVER THE INPUT: true; the input reads as it did. -/
def fnCenterMirrorSpec : ChangeSpec := { name := "fnCenterMirror", fn := fun _ => fun
  | [d] => { results := [.lit (.bool true)], args := [d] }
  | _ => none }
def fnCenterMirrorRow : OpenClaim := { program := "ythogcokapppidab", sum := "54feec20ed982cf877887623841fc1434094107726a1cf95fcd97b6b3c4c4fde", func := "loop.example/atomicspectra/laws.FnCenterMirror", spec := "fnCenterMirror", apart := false }
def FnCenterMirrorSaid : Prop := fnCenterMirrorRow.holds Try.pinned (OpenSpec.ofChange fnCenterMirrorSpec)

/-- ITS FALSE NEIGHBOUR: 'it returns false'. Refute it at one input. -/
def fnCenterMirrorWrong : ChangeSpec := { name := "fnCenterMirror", fn := fun _ => fun
  | [d] => { results := [.lit (.bool false)], args := [d] }
  | _ => none }
def FnCenterMirrorWrongFalsely : Prop := fnCenterMirrorRow.holds Try.pinned (OpenSpec.ofChange fnCenterMirrorWrong)

/-- 'laws.FnCenterTwice': WHATEVER THE INPUT: true; the input reads as it did. -/
def fnCenterTwiceSpec : ChangeSpec := { name := "fnCenterTwice", fn := fun _ => fun
  | [d] => { results := [.lit (.bool true)], args := [d] }
  | _ => none }
def fnCenterTwiceRow : OpenClaim := { program := "ythogcokapppidab", sum := "54feec20ed982cf877887623841fc1434094107726a1cf95fcd97b6b3c4c4fde", func := "loop.example/atomicspectra/laws.FnCenterTwice", spec := "fnCenterTwice", apart := false }
def FnCenterTwiceSaid : Prop := fnCenterTwiceRow.holds Try.pinned (OpenSpec.ofChange fnCenterTwiceSpec)

/-- ITS FALSE NEIGHBOUR: 'it returns false'. Refute it at one input. -/
def fnCenterTwiceWrong : ChangeSpec := { name := "fnCenterTwice", fn := fun _ => fun
  | [d] => { results := [.lit (.bool false)], args := [d] }
  | _ => none }
def FnCenterTwiceWrongFalsely : Prop := fnCenterTwiceRow.holds Try.pinned (OpenSpec.ofChange fnCenterTwiceWrong)

/-- 'laws.FnCenter': WHATEVER THE INPUT: true; the input reads as it did. -/
def fnCenterSpec : ChangeSpec := { name := "fnCenter", fn := fun _ => fun
  | [d] => { results := [.lit (.bool true)], args := [d] }
  | _ => none }
def fnCenterRow : OpenClaim := { program := "ythogcokapppidab", sum := "54feec20ed982cf877887623841fc1434094107726a1cf95fcd97b6b3c4c4fde", func := "loop.example/atomicspectra/laws.FnCenter", spec := "fnCenter", apart := false }
def FnCenterSaid : Prop := fnCenterRow.holds Try.pinned (OpenSpec.ofChange fnCenterSpec)

/-- ITS FALSE NEIGHBOUR: 'it returns false'. Refute it at one input. -/
def fnCenterWrong : ChangeSpec := { name := "fnCenter", fn := fun _ => fun
  | [d] => { results := [.lit (.bool false)], args := [d] }
  | _ => none }
def FnCenterWrongFalsely : Prop := fnCenterRow.holds Try.pinned (OpenSpec.ofChange fnCenterWrong)

/- THE SECOND FORM. 'bulk': how many values and letters a reading holds, each counted each time it is reached (what is shared counts as often as it is met; a slice's spare places count too). A statement '..UptoSaid' is the law's where the arguments, and the package variables that the reading takes, are together of bulk at most 1048576: NARROWER than '..Said'. Prove '..Said' where nothing that the law and all that it calls make is longer than what came in: it says more and counts as full. Else prove '..UptoSaid'. A law counts once. -/
mutual
def uptoBulk {H : Type} : DataW H → Nat
  | .lit (.string bytes) => bytes.length + 1
  | .lit _ => 1
  | .nil => 1
  | .ptr d => uptoBulk d + 1
  | .slice elems spare => uptoBulkAll elems + uptoBulkAll spare + 1
  | .agg parts => uptoBulkAll parts + 1
  | .iface _ d => uptoBulk d + 1
  | .map entries => uptoBulkEntries entries + 1
  | .held _ => 1
def uptoBulkAll {H : Type} : List (DataW H) → Nat
  | [] => 0
  | d :: r => uptoBulk d + uptoBulkAll r
def uptoBulkEntries {H : Type} : List (Lit × DataW H) → Nat
  | [] => 0
  | x :: r => uptoBulkEntry x + uptoBulkEntries r
def uptoBulkEntry {H : Type} : Lit × DataW H → Nat
  | (.string bytes, d) => bytes.length + uptoBulk d + 1
  | (_, d) => uptoBulk d + 1
 end
def uptoSmall : (H : Type) → List (DataW H) → Bool := fun _ ds => decide (uptoBulkAll ds ≤ 1048576)
def OpenSpec.upto (s : _root_.Go.ChangeSpec) : _root_.Go.OpenSpec := { _root_.Go.OpenSpec.ofChange s with cond := some uptoSmall }

/-- 'laws.FnPeaksMore', WHERE WHAT IT READS IS OF BULK AT MOST 1048576: true; the input reads as it did. -/
def fnPeaksMoreUptoRow : OpenClaim := { program := "ythogcokapppidab", sum := "54feec20ed982cf877887623841fc1434094107726a1cf95fcd97b6b3c4c4fde", func := "loop.example/atomicspectra/laws.FnPeaksMore", spec := "fnPeaksMore", apart := false, narrowed := true }
def FnPeaksMoreUptoSaid : Prop := fnPeaksMoreUptoRow.holds Try.pinned (OpenSpec.upto fnPeaksMoreSpec)

/-- 'laws.FnPeaksShift', WHERE WHAT IT READS IS OF BULK AT MOST 1048576: true; the input reads as it did. -/
def fnPeaksShiftUptoRow : OpenClaim := { program := "ythogcokapppidab", sum := "54feec20ed982cf877887623841fc1434094107726a1cf95fcd97b6b3c4c4fde", func := "loop.example/atomicspectra/laws.FnPeaksShift", spec := "fnPeaksShift", apart := false, narrowed := true }
def FnPeaksShiftUptoSaid : Prop := fnPeaksShiftUptoRow.holds Try.pinned (OpenSpec.upto fnPeaksShiftSpec)

/-- 'laws.FnPeaksMirror', WHERE WHAT IT READS IS OF BULK AT MOST 1048576: true; the input reads as it did. -/
def fnPeaksMirrorUptoRow : OpenClaim := { program := "ythogcokapppidab", sum := "54feec20ed982cf877887623841fc1434094107726a1cf95fcd97b6b3c4c4fde", func := "loop.example/atomicspectra/laws.FnPeaksMirror", spec := "fnPeaksMirror", apart := false, narrowed := true }
def FnPeaksMirrorUptoSaid : Prop := fnPeaksMirrorUptoRow.holds Try.pinned (OpenSpec.upto fnPeaksMirrorSpec)

/-- 'laws.FnPeaksTwice', WHERE WHAT IT READS IS OF BULK AT MOST 1048576: true; the input reads as it did. -/
def fnPeaksTwiceUptoRow : OpenClaim := { program := "ythogcokapppidab", sum := "54feec20ed982cf877887623841fc1434094107726a1cf95fcd97b6b3c4c4fde", func := "loop.example/atomicspectra/laws.FnPeaksTwice", spec := "fnPeaksTwice", apart := false, narrowed := true }
def FnPeaksTwiceUptoSaid : Prop := fnPeaksTwiceUptoRow.holds Try.pinned (OpenSpec.upto fnPeaksTwiceSpec)

/-- 'laws.FnExactPeakCenter', WHERE WHAT IT READS IS OF BULK AT MOST 1048576: true; the input reads as it did. -/
def fnExactPeakCenterUptoRow : OpenClaim := { program := "ythogcokapppidab", sum := "54feec20ed982cf877887623841fc1434094107726a1cf95fcd97b6b3c4c4fde", func := "loop.example/atomicspectra/laws.FnExactPeakCenter", spec := "fnExactPeakCenter", apart := false, narrowed := true }
def FnExactPeakCenterUptoSaid : Prop := fnExactPeakCenterUptoRow.holds Try.pinned (OpenSpec.upto fnExactPeakCenterSpec)

/-- 'laws.FnCenterAlone', WHERE WHAT IT READS IS OF BULK AT MOST 1048576: true; the input reads as it did. -/
def fnCenterAloneUptoRow : OpenClaim := { program := "ythogcokapppidab", sum := "54feec20ed982cf877887623841fc1434094107726a1cf95fcd97b6b3c4c4fde", func := "loop.example/atomicspectra/laws.FnCenterAlone", spec := "fnCenterAlone", apart := false, narrowed := true }
def FnCenterAloneUptoSaid : Prop := fnCenterAloneUptoRow.holds Try.pinned (OpenSpec.upto fnCenterAloneSpec)

/-- 'laws.FnCenterMirror', WHERE WHAT IT READS IS OF BULK AT MOST 1048576: true; the input reads as it did. -/
def fnCenterMirrorUptoRow : OpenClaim := { program := "ythogcokapppidab", sum := "54feec20ed982cf877887623841fc1434094107726a1cf95fcd97b6b3c4c4fde", func := "loop.example/atomicspectra/laws.FnCenterMirror", spec := "fnCenterMirror", apart := false, narrowed := true }
def FnCenterMirrorUptoSaid : Prop := fnCenterMirrorUptoRow.holds Try.pinned (OpenSpec.upto fnCenterMirrorSpec)

/-- 'laws.FnCenterTwice', WHERE WHAT IT READS IS OF BULK AT MOST 1048576: true; the input reads as it did. -/
def fnCenterTwiceUptoRow : OpenClaim := { program := "ythogcokapppidab", sum := "54feec20ed982cf877887623841fc1434094107726a1cf95fcd97b6b3c4c4fde", func := "loop.example/atomicspectra/laws.FnCenterTwice", spec := "fnCenterTwice", apart := false, narrowed := true }
def FnCenterTwiceUptoSaid : Prop := fnCenterTwiceUptoRow.holds Try.pinned (OpenSpec.upto fnCenterTwiceSpec)

/-- 'laws.FnCenter', WHERE WHAT IT READS IS OF BULK AT MOST 1048576: true; the input reads as it did. -/
def fnCenterUptoRow : OpenClaim := { program := "ythogcokapppidab", sum := "54feec20ed982cf877887623841fc1434094107726a1cf95fcd97b6b3c4c4fde", func := "loop.example/atomicspectra/laws.FnCenter", spec := "fnCenter", apart := false, narrowed := true }
def FnCenterUptoSaid : Prop := fnCenterUptoRow.holds Try.pinned (OpenSpec.upto fnCenterSpec)

end Rows
end Go.Proofs.Ythogcokapppidab
