/-
  No cell of these rows narrows 'for every input' (looked for: loops, veiled, ifaces, maps, wideKeys, modest, calm, conditions, laid).
  DERIVED. THE GIVEN ROWS OF THIS SEAT. 6 by the template 'for every input the law returns true; each argument reads behind the call as it read before'; 0 by the template 'total and deterministic' (their statements: YtpkfpegilhadfabTotals.lean).
  GIVEN WITH THE SEED: the statements are not yours to turn. If you find one false, say at which input.
  Laid BY PROGRAM, IN A SANDBOX (cutbox-rows.mjs): the forced cells as the released guide's own fill.sh prints them over the translation 4691d0605f4077a0… (all of the seat's roots in one cut). By AI agents, Wed Nov 11 2026. No macro, syntax, notation, axiom, sorry.
-/
import Derived.Test.YtpkfpegilhadfabChecked
import GoSem.Claim
import GoSem.ClaimJoined
import GoSem.ClaimMapViews
import Derived.JoinedTies
import Derived.KernelRfl
namespace Go.Proofs.Ytpkfpegilhadfab
/- THE CELL 'sum', in the pinned program and in every row, IS THE sha256 OF THE DUMP (.gsa) THAT YtpkfpegilhadfabProg.lean LOADS. Nothing in Lean hashes anything: it is a label: what it is worth is what the hold of that sum in a sandbox is worth. -/
noncomputable def Try.pinned : Pinned := { name := "ytpkfpegilhadfab", sum := "4691d0605f4077a05a960298e87bd35ebc2ed38b86d7da67bcf6bc240819bd75", checked := Try.checked }
namespace Rows
def none {H : Type} : Left H := { results := [], args := [] }

/-- 'laws.FnFitScheme': WHATEVER THE INPUT: true; the input reads as it did. -/
def fnFitSchemeSpec : ChangeSpec := { name := "fnFitScheme", fn := fun _ => fun
  | [d] => { results := [.lit (.bool true)], args := [d] }
  | _ => none }
def fnFitSchemeRow : OpenClaim := { program := "ytpkfpegilhadfab", sum := "4691d0605f4077a05a960298e87bd35ebc2ed38b86d7da67bcf6bc240819bd75", func := "loop.example/atomicspectra/laws.FnFitScheme", spec := "fnFitScheme", unfollowed := true, recurses := true, apart := false }
def FnFitSchemeSaid : Prop := fnFitSchemeRow.holds Try.pinned (OpenSpec.ofChange fnFitSchemeSpec)

/-- ITS FALSE NEIGHBOUR: 'it returns false'. Refute it at one input. -/
def fnFitSchemeWrong : ChangeSpec := { name := "fnFitScheme", fn := fun _ => fun
  | [d] => { results := [.lit (.bool false)], args := [d] }
  | _ => none }
def FnFitSchemeWrongFalsely : Prop := fnFitSchemeRow.holds Try.pinned (OpenSpec.ofChange fnFitSchemeWrong)

/-- 'laws.FnMatchBestLines': WHATEVER THE INPUT: true; the input reads as it did. -/
def fnMatchBestLinesSpec : ChangeSpec := { name := "fnMatchBestLines", fn := fun _ => fun
  | [d1, d2] => { results := [.lit (.bool true)], args := [d1, d2] }
  | _ => none }
def fnMatchBestLinesRow : OpenClaim := { program := "ytpkfpegilhadfab", sum := "4691d0605f4077a05a960298e87bd35ebc2ed38b86d7da67bcf6bc240819bd75", func := "loop.example/atomicspectra/laws.FnMatchBestLines", spec := "fnMatchBestLines", unfollowed := true, recurses := true, apart := false }
def FnMatchBestLinesSaid : Prop := fnMatchBestLinesRow.holds Try.pinned (OpenSpec.ofChange fnMatchBestLinesSpec)

/-- ITS FALSE NEIGHBOUR: 'it returns false'. Refute it at one input. -/
def fnMatchBestLinesWrong : ChangeSpec := { name := "fnMatchBestLines", fn := fun _ => fun
  | [d1, d2] => { results := [.lit (.bool false)], args := [d1, d2] }
  | _ => none }
def FnMatchBestLinesWrongFalsely : Prop := fnMatchBestLinesRow.holds Try.pinned (OpenSpec.ofChange fnMatchBestLinesWrong)

/-- 'laws.FnExactMatchLines': WHATEVER THE INPUT: true; the input reads as it did. -/
def fnExactMatchLinesSpec : ChangeSpec := { name := "fnExactMatchLines", fn := fun _ => fun
  | [d1, d2, d3] => { results := [.lit (.bool true)], args := [d1, d2, d3] }
  | _ => none }
def fnExactMatchLinesRow : OpenClaim := { program := "ytpkfpegilhadfab", sum := "4691d0605f4077a05a960298e87bd35ebc2ed38b86d7da67bcf6bc240819bd75", func := "loop.example/atomicspectra/laws.FnExactMatchLines", spec := "fnExactMatchLines", unfollowed := true, recurses := true, apart := false }
def FnExactMatchLinesSaid : Prop := fnExactMatchLinesRow.holds Try.pinned (OpenSpec.ofChange fnExactMatchLinesSpec)

/-- ITS FALSE NEIGHBOUR: 'it returns false'. Refute it at one input. -/
def fnExactMatchLinesWrong : ChangeSpec := { name := "fnExactMatchLines", fn := fun _ => fun
  | [d1, d2, d3] => { results := [.lit (.bool false)], args := [d1, d2, d3] }
  | _ => none }
def FnExactMatchLinesWrongFalsely : Prop := fnExactMatchLinesRow.holds Try.pinned (OpenSpec.ofChange fnExactMatchLinesWrong)

/-- 'laws.FnMatchAllMore': WHATEVER THE INPUT: true; the input reads as it did. -/
def fnMatchAllMoreSpec : ChangeSpec := { name := "fnMatchAllMore", fn := fun _ => fun
  | [d1, d2] => { results := [.lit (.bool true)], args := [d1, d2] }
  | _ => none }
def fnMatchAllMoreRow : OpenClaim := { program := "ytpkfpegilhadfab", sum := "4691d0605f4077a05a960298e87bd35ebc2ed38b86d7da67bcf6bc240819bd75", func := "loop.example/atomicspectra/laws.FnMatchAllMore", spec := "fnMatchAllMore", unfollowed := true, recurses := true, apart := false }
def FnMatchAllMoreSaid : Prop := fnMatchAllMoreRow.holds Try.pinned (OpenSpec.ofChange fnMatchAllMoreSpec)

/-- ITS FALSE NEIGHBOUR: 'it returns false'. Refute it at one input. -/
def fnMatchAllMoreWrong : ChangeSpec := { name := "fnMatchAllMore", fn := fun _ => fun
  | [d1, d2] => { results := [.lit (.bool false)], args := [d1, d2] }
  | _ => none }
def FnMatchAllMoreWrongFalsely : Prop := fnMatchAllMoreRow.holds Try.pinned (OpenSpec.ofChange fnMatchAllMoreWrong)

/-- 'laws.FnMatchAll': WHATEVER THE INPUT: true; the input reads as it did. -/
def fnMatchAllSpec : ChangeSpec := { name := "fnMatchAll", fn := fun _ => fun
  | [d] => { results := [.lit (.bool true)], args := [d] }
  | _ => none }
def fnMatchAllRow : OpenClaim := { program := "ytpkfpegilhadfab", sum := "4691d0605f4077a05a960298e87bd35ebc2ed38b86d7da67bcf6bc240819bd75", func := "loop.example/atomicspectra/laws.FnMatchAll", spec := "fnMatchAll", unfollowed := true, recurses := true, apart := false }
def FnMatchAllSaid : Prop := fnMatchAllRow.holds Try.pinned (OpenSpec.ofChange fnMatchAllSpec)

/-- ITS FALSE NEIGHBOUR: 'it returns false'. Refute it at one input. -/
def fnMatchAllWrong : ChangeSpec := { name := "fnMatchAll", fn := fun _ => fun
  | [d] => { results := [.lit (.bool false)], args := [d] }
  | _ => none }
def FnMatchAllWrongFalsely : Prop := fnMatchAllRow.holds Try.pinned (OpenSpec.ofChange fnMatchAllWrong)

/-- 'laws.FnExactMatchAll': WHATEVER THE INPUT: true; the input reads as it did. -/
def fnExactMatchAllSpec : ChangeSpec := { name := "fnExactMatchAll", fn := fun _ => fun
  | [d1, d2, d3] => { results := [.lit (.bool true)], args := [d1, d2, d3] }
  | _ => none }
def fnExactMatchAllRow : OpenClaim := { program := "ytpkfpegilhadfab", sum := "4691d0605f4077a05a960298e87bd35ebc2ed38b86d7da67bcf6bc240819bd75", func := "loop.example/atomicspectra/laws.FnExactMatchAll", spec := "fnExactMatchAll", unfollowed := true, recurses := true, apart := false }
def FnExactMatchAllSaid : Prop := fnExactMatchAllRow.holds Try.pinned (OpenSpec.ofChange fnExactMatchAllSpec)

/-- ITS FALSE NEIGHBOUR: 'it returns false'. Refute it at one input. -/
def fnExactMatchAllWrong : ChangeSpec := { name := "fnExactMatchAll", fn := fun _ => fun
  | [d1, d2, d3] => { results := [.lit (.bool false)], args := [d1, d2, d3] }
  | _ => none }
def FnExactMatchAllWrongFalsely : Prop := fnExactMatchAllRow.holds Try.pinned (OpenSpec.ofChange fnExactMatchAllWrong)

/- THE SECOND FORM. 'bulk': how many values and letters a reading holds, each counted each time it is reached (what is shared counts as often as it is met; a slice's spare places count too). A statement '..UptoSaid' is the law's where the arguments, and the package variables that the reading takes, are together of bulk at most 1048576: NARROWER than '..Said'. Prove '..Said' where nothing that the law and all that it calls make is longer than what came in: it says more and counts as full. Else prove '..UptoSaid'. A law counts once. -/
mutual
def uptoBulk {H : Type} : DataW H → Nat
  | .lit (.string bytes) => bytes.length + 1
  | .lit _ => 1
  | .nil => 1
  | .ptr d => uptoBulk d + 1
  | .slice elems spare => uptoBulkAll elems + uptoBulkAll spare + 1
  | .agg parts => uptoBulkAll parts + 1
  | .iface _ d => uptoBulk d + 1
  | .map entries => uptoBulkEntries entries + 1
  | .held _ => 1
def uptoBulkAll {H : Type} : List (DataW H) → Nat
  | [] => 0
  | d :: r => uptoBulk d + uptoBulkAll r
def uptoBulkEntries {H : Type} : List (Lit × DataW H) → Nat
  | [] => 0
  | x :: r => uptoBulkEntry x + uptoBulkEntries r
def uptoBulkEntry {H : Type} : Lit × DataW H → Nat
  | (.string bytes, d) => bytes.length + uptoBulk d + 1
  | (_, d) => uptoBulk d + 1
 end
def uptoSmall : (H : Type) → List (DataW H) → Bool := fun _ ds => decide (uptoBulkAll ds ≤ 1048576)
def OpenSpec.upto (s : _root_.Go.ChangeSpec) : _root_.Go.OpenSpec := { _root_.Go.OpenSpec.ofChange s with cond := some uptoSmall }

/-- 'laws.FnFitScheme', WHERE WHAT IT READS IS OF BULK AT MOST 1048576: true; the input reads as it did. -/
def fnFitSchemeUptoRow : OpenClaim := { program := "ytpkfpegilhadfab", sum := "4691d0605f4077a05a960298e87bd35ebc2ed38b86d7da67bcf6bc240819bd75", func := "loop.example/atomicspectra/laws.FnFitScheme", spec := "fnFitScheme", unfollowed := true, recurses := true, apart := false, narrowed := true }
def FnFitSchemeUptoSaid : Prop := fnFitSchemeUptoRow.holds Try.pinned (OpenSpec.upto fnFitSchemeSpec)

/-- 'laws.FnMatchBestLines', WHERE WHAT IT READS IS OF BULK AT MOST 1048576: true; the input reads as it did. -/
def fnMatchBestLinesUptoRow : OpenClaim := { program := "ytpkfpegilhadfab", sum := "4691d0605f4077a05a960298e87bd35ebc2ed38b86d7da67bcf6bc240819bd75", func := "loop.example/atomicspectra/laws.FnMatchBestLines", spec := "fnMatchBestLines", unfollowed := true, recurses := true, apart := false, narrowed := true }
def FnMatchBestLinesUptoSaid : Prop := fnMatchBestLinesUptoRow.holds Try.pinned (OpenSpec.upto fnMatchBestLinesSpec)

/-- 'laws.FnExactMatchLines', WHERE WHAT IT READS IS OF BULK AT MOST 1048576: true; the input reads as it did. -/
def fnExactMatchLinesUptoRow : OpenClaim := { program := "ytpkfpegilhadfab", sum := "4691d0605f4077a05a960298e87bd35ebc2ed38b86d7da67bcf6bc240819bd75", func := "loop.example/atomicspectra/laws.FnExactMatchLines", spec := "fnExactMatchLines", unfollowed := true, recurses := true, apart := false, narrowed := true }
def FnExactMatchLinesUptoSaid : Prop := fnExactMatchLinesUptoRow.holds Try.pinned (OpenSpec.upto fnExactMatchLinesSpec)

/-- 'laws.FnMatchAllMore', WHERE WHAT IT READS IS OF BULK AT MOST 1048576: true; the input reads as it did. -/
def fnMatchAllMoreUptoRow : OpenClaim := { program := "ytpkfpegilhadfab", sum := "4691d0605f4077a05a960298e87bd35ebc2ed38b86d7da67bcf6bc240819bd75", func := "loop.example/atomicspectra/laws.FnMatchAllMore", spec := "fnMatchAllMore", unfollowed := true, recurses := true, apart := false, narrowed := true }
def FnMatchAllMoreUptoSaid : Prop := fnMatchAllMoreUptoRow.holds Try.pinned (OpenSpec.upto fnMatchAllMoreSpec)

/-- 'laws.FnMatchAll', WHERE WHAT IT READS IS OF BULK AT MOST 1048576: true; the input reads as it did. -/
def fnMatchAllUptoRow : OpenClaim := { program := "ytpkfpegilhadfab", sum := "4691d0605f4077a05a960298e87bd35ebc2ed38b86d7da67bcf6bc240819bd75", func := "loop.example/atomicspectra/laws.FnMatchAll", spec := "fnMatchAll", unfollowed := true, recurses := true, apart := false, narrowed := true }
def FnMatchAllUptoSaid : Prop := fnMatchAllUptoRow.holds Try.pinned (OpenSpec.upto fnMatchAllSpec)

/-- 'laws.FnExactMatchAll', WHERE WHAT IT READS IS OF BULK AT MOST 1048576: true; the input reads as it did. -/
def fnExactMatchAllUptoRow : OpenClaim := { program := "ytpkfpegilhadfab", sum := "4691d0605f4077a05a960298e87bd35ebc2ed38b86d7da67bcf6bc240819bd75", func := "loop.example/atomicspectra/laws.FnExactMatchAll", spec := "fnExactMatchAll", unfollowed := true, recurses := true, apart := false, narrowed := true }
def FnExactMatchAllUptoSaid : Prop := fnExactMatchAllUptoRow.holds Try.pinned (OpenSpec.upto fnExactMatchAllSpec)

end Rows
end Go.Proofs.Ytpkfpegilhadfab
