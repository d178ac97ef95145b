/-
  No cell of these rows narrows 'for every input' (looked for: loops, veiled, ifaces, maps, wideKeys, modest, calm, conditions, laid).
  DERIVED. THE GIVEN ROWS OF THIS SEAT. 4 by the template 'for every input the law returns true; each argument reads behind the call as it read before'; 0 by the template 'total and deterministic' (their statements: YtdhpnjmnjckihaaTotals.lean).
  GIVEN WITH THE SEED: the statements are not yours to turn. If you find one false, say at which input.
  Laid BY PROGRAM, IN A SANDBOX (cutbox-rows.mjs): the forced cells as the released guide's own fill.sh prints them over the translation 19e417d643c7dbca… (all of the seat's roots in one cut). By AI agents, Wed Nov 11 2026. No macro, syntax, notation, axiom, sorry.
-/
import Derived.Test.YtdhpnjmnjckihaaChecked
import GoSem.Claim
import GoSem.ClaimJoined
import GoSem.ClaimMapViews
import Derived.JoinedTies
import Derived.KernelRfl
namespace Go.Proofs.Ytdhpnjmnjckihaa
/- THE CELL 'sum', in the pinned program and in every row, IS THE sha256 OF THE DUMP (.gsa) THAT YtdhpnjmnjckihaaProg.lean LOADS. Nothing in Lean hashes anything: it is a label: what it is worth is what the hold of that sum in a sandbox is worth. -/
noncomputable def Try.pinned : Pinned := { name := "ytdhpnjmnjckihaa", sum := "19e417d643c7dbca74ed10c4a0ace3211dbfbf972b283451b365d22d1fd76b6f", checked := Try.checked }
namespace Rows
def none {H : Type} : Left H := { results := [], args := [] }

/-- 'laws.FnExactMarksValid': WHATEVER THE INPUT: true; the input reads as it did. -/
def fnExactMarksValidSpec : ChangeSpec := { name := "fnExactMarksValid", fn := fun _ => fun
  | [d] => { results := [.lit (.bool true)], args := [d] }
  | _ => none }
def fnExactMarksValidRow : OpenClaim := { program := "ytdhpnjmnjckihaa", sum := "19e417d643c7dbca74ed10c4a0ace3211dbfbf972b283451b365d22d1fd76b6f", func := "loop.example/atomicspectra/laws.FnExactMarksValid", spec := "fnExactMarksValid", apart := false }
def FnExactMarksValidSaid : Prop := fnExactMarksValidRow.holds Try.pinned (OpenSpec.ofChange fnExactMarksValidSpec)

/-- ITS FALSE NEIGHBOUR: 'it returns false'. Refute it at one input. -/
def fnExactMarksValidWrong : ChangeSpec := { name := "fnExactMarksValid", fn := fun _ => fun
  | [d] => { results := [.lit (.bool false)], args := [d] }
  | _ => none }
def FnExactMarksValidWrongFalsely : Prop := fnExactMarksValidRow.holds Try.pinned (OpenSpec.ofChange fnExactMarksValidWrong)

/-- 'laws.FnMarks': WHATEVER THE INPUT: true; the input reads as it did. -/
def fnMarksSpec : ChangeSpec := { name := "fnMarks", fn := fun _ => fun
  | [d] => { results := [.lit (.bool true)], args := [d] }
  | _ => none }
def fnMarksRow : OpenClaim := { program := "ytdhpnjmnjckihaa", sum := "19e417d643c7dbca74ed10c4a0ace3211dbfbf972b283451b365d22d1fd76b6f", func := "loop.example/atomicspectra/laws.FnMarks", spec := "fnMarks", apart := false }
def FnMarksSaid : Prop := fnMarksRow.holds Try.pinned (OpenSpec.ofChange fnMarksSpec)

/-- ITS FALSE NEIGHBOUR: 'it returns false'. Refute it at one input. -/
def fnMarksWrong : ChangeSpec := { name := "fnMarks", fn := fun _ => fun
  | [d] => { results := [.lit (.bool false)], args := [d] }
  | _ => none }
def FnMarksWrongFalsely : Prop := fnMarksRow.holds Try.pinned (OpenSpec.ofChange fnMarksWrong)

/-- 'laws.FnMarkShiftBack': WHATEVER THE INPUT: true; the input reads as it did. -/
def fnMarkShiftBackSpec : ChangeSpec := { name := "fnMarkShiftBack", fn := fun _ => fun
  | [d] => { results := [.lit (.bool true)], args := [d] }
  | _ => none }
def fnMarkShiftBackRow : OpenClaim := { program := "ytdhpnjmnjckihaa", sum := "19e417d643c7dbca74ed10c4a0ace3211dbfbf972b283451b365d22d1fd76b6f", func := "loop.example/atomicspectra/laws.FnMarkShiftBack", spec := "fnMarkShiftBack", apart := false }
def FnMarkShiftBackSaid : Prop := fnMarkShiftBackRow.holds Try.pinned (OpenSpec.ofChange fnMarkShiftBackSpec)

/-- ITS FALSE NEIGHBOUR: 'it returns false'. Refute it at one input. -/
def fnMarkShiftBackWrong : ChangeSpec := { name := "fnMarkShiftBack", fn := fun _ => fun
  | [d] => { results := [.lit (.bool false)], args := [d] }
  | _ => none }
def FnMarkShiftBackWrongFalsely : Prop := fnMarkShiftBackRow.holds Try.pinned (OpenSpec.ofChange fnMarkShiftBackWrong)

/-- 'laws.FnExactMarkShift': WHATEVER THE INPUT: true; the input reads as it did. -/
def fnExactMarkShiftSpec : ChangeSpec := { name := "fnExactMarkShift", fn := fun _ => fun
  | [d1, d2] => { results := [.lit (.bool true)], args := [d1, d2] }
  | _ => none }
def fnExactMarkShiftRow : OpenClaim := { program := "ytdhpnjmnjckihaa", sum := "19e417d643c7dbca74ed10c4a0ace3211dbfbf972b283451b365d22d1fd76b6f", func := "loop.example/atomicspectra/laws.FnExactMarkShift", spec := "fnExactMarkShift", apart := false }
def FnExactMarkShiftSaid : Prop := fnExactMarkShiftRow.holds Try.pinned (OpenSpec.ofChange fnExactMarkShiftSpec)

/-- ITS FALSE NEIGHBOUR: 'it returns false'. Refute it at one input. -/
def fnExactMarkShiftWrong : ChangeSpec := { name := "fnExactMarkShift", fn := fun _ => fun
  | [d1, d2] => { results := [.lit (.bool false)], args := [d1, d2] }
  | _ => none }
def FnExactMarkShiftWrongFalsely : Prop := fnExactMarkShiftRow.holds Try.pinned (OpenSpec.ofChange fnExactMarkShiftWrong)

/- THE SECOND FORM. 'bulk': how many values and letters a reading holds, each counted each time it is reached (what is shared counts as often as it is met; a slice's spare places count too). A statement '..UptoSaid' is the law's where the arguments, and the package variables that the reading takes, are together of bulk at most 1048576: NARROWER than '..Said'. Prove '..Said' where nothing that the law and all that it calls make is longer than what came in: it says more and counts as full. Else prove '..UptoSaid'. A law counts once. -/
mutual
def uptoBulk {H : Type} : DataW H → Nat
  | .lit (.string bytes) => bytes.length + 1
  | .lit _ => 1
  | .nil => 1
  | .ptr d => uptoBulk d + 1
  | .slice elems spare => uptoBulkAll elems + uptoBulkAll spare + 1
  | .agg parts => uptoBulkAll parts + 1
  | .iface _ d => uptoBulk d + 1
  | .map entries => uptoBulkEntries entries + 1
  | .held _ => 1
def uptoBulkAll {H : Type} : List (DataW H) → Nat
  | [] => 0
  | d :: r => uptoBulk d + uptoBulkAll r
def uptoBulkEntries {H : Type} : List (Lit × DataW H) → Nat
  | [] => 0
  | x :: r => uptoBulkEntry x + uptoBulkEntries r
def uptoBulkEntry {H : Type} : Lit × DataW H → Nat
  | (.string bytes, d) => bytes.length + uptoBulk d + 1
  | (_, d) => uptoBulk d + 1
 end
def uptoSmall : (H : Type) → List (DataW H) → Bool := fun _ ds => decide (uptoBulkAll ds ≤ 1048576)
def OpenSpec.upto (s : _root_.Go.ChangeSpec) : _root_.Go.OpenSpec := { _root_.Go.OpenSpec.ofChange s with cond := some uptoSmall }

/-- 'laws.FnExactMarksValid', WHERE WHAT IT READS IS OF BULK AT MOST 1048576: true; the input reads as it did. -/
def fnExactMarksValidUptoRow : OpenClaim := { program := "ytdhpnjmnjckihaa", sum := "19e417d643c7dbca74ed10c4a0ace3211dbfbf972b283451b365d22d1fd76b6f", func := "loop.example/atomicspectra/laws.FnExactMarksValid", spec := "fnExactMarksValid", apart := false, narrowed := true }
def FnExactMarksValidUptoSaid : Prop := fnExactMarksValidUptoRow.holds Try.pinned (OpenSpec.upto fnExactMarksValidSpec)

/-- 'laws.FnMarks', WHERE WHAT IT READS IS OF BULK AT MOST 1048576: true; the input reads as it did. -/
def fnMarksUptoRow : OpenClaim := { program := "ytdhpnjmnjckihaa", sum := "19e417d643c7dbca74ed10c4a0ace3211dbfbf972b283451b365d22d1fd76b6f", func := "loop.example/atomicspectra/laws.FnMarks", spec := "fnMarks", apart := false, narrowed := true }
def FnMarksUptoSaid : Prop := fnMarksUptoRow.holds Try.pinned (OpenSpec.upto fnMarksSpec)

/-- 'laws.FnMarkShiftBack', WHERE WHAT IT READS IS OF BULK AT MOST 1048576: true; the input reads as it did. -/
def fnMarkShiftBackUptoRow : OpenClaim := { program := "ytdhpnjmnjckihaa", sum := "19e417d643c7dbca74ed10c4a0ace3211dbfbf972b283451b365d22d1fd76b6f", func := "loop.example/atomicspectra/laws.FnMarkShiftBack", spec := "fnMarkShiftBack", apart := false, narrowed := true }
def FnMarkShiftBackUptoSaid : Prop := fnMarkShiftBackUptoRow.holds Try.pinned (OpenSpec.upto fnMarkShiftBackSpec)

/-- 'laws.FnExactMarkShift', WHERE WHAT IT READS IS OF BULK AT MOST 1048576: true; the input reads as it did. -/
def fnExactMarkShiftUptoRow : OpenClaim := { program := "ytdhpnjmnjckihaa", sum := "19e417d643c7dbca74ed10c4a0ace3211dbfbf972b283451b365d22d1fd76b6f", func := "loop.example/atomicspectra/laws.FnExactMarkShift", spec := "fnExactMarkShift", apart := false, narrowed := true }
def FnExactMarkShiftUptoSaid : Prop := fnExactMarkShiftUptoRow.holds Try.pinned (OpenSpec.upto fnExactMarkShiftSpec)

end Rows
end Go.Proofs.Ytdhpnjmnjckihaa
