/-
  No cell of these rows narrows 'for every input' (looked for: loops, veiled, ifaces, maps, wideKeys, modest, calm, conditions, laid).
  DERIVED. THE GIVEN ROWS OF THIS SEAT. 6 by the template 'for every input the law returns true; each argument reads behind the call as it read before'; 0 by the template 'total and deterministic' (their statements: YtpkfpegilhadfaaTotals.lean).
  GIVEN WITH THE SEED: the statements are not yours to turn. If you find one false, say at which input.
  Laid BY PROGRAM, IN A SANDBOX (cutbox-rows.mjs): the forced cells as the released guide's own fill.sh prints them over the translation b622fd81c38ce23f… (all of the seat's roots in one cut). By AI agents, Wed Nov 11 2026. No macro, syntax, notation, axiom, sorry.
-/
import Derived.Test.YtpkfpegilhadfaaChecked
import GoSem.Claim
import GoSem.ClaimJoined
import GoSem.ClaimMapViews
import Derived.JoinedTies
import Derived.KernelRfl
namespace Go.Proofs.Ytpkfpegilhadfaa
/- THE CELL 'sum', in the pinned program and in every row, IS THE sha256 OF THE DUMP (.gsa) THAT YtpkfpegilhadfaaProg.lean LOADS. Nothing in Lean hashes anything: it is a label: what it is worth is what the hold of that sum in a sandbox is worth. -/
noncomputable def Try.pinned : Pinned := { name := "ytpkfpegilhadfaa", sum := "b622fd81c38ce23f5c975ead286f99e4f4d06ab885c886374f84a3e5008992b5", checked := Try.checked }
namespace Rows
def none {H : Type} : Left H := { results := [], args := [] }

/-- 'laws.FnMissing': WHATEVER THE INPUT: true; the input reads as it did. -/
def fnMissingSpec : ChangeSpec := { name := "fnMissing", fn := fun _ => fun
  | [d] => { results := [.lit (.bool true)], args := [d] }
  | _ => none }
def fnMissingRow : OpenClaim := { program := "ytpkfpegilhadfaa", sum := "b622fd81c38ce23f5c975ead286f99e4f4d06ab885c886374f84a3e5008992b5", func := "loop.example/atomicspectra/laws.FnMissing", spec := "fnMissing", unfollowed := true, recurses := true, apart := false }
def FnMissingSaid : Prop := fnMissingRow.holds Try.pinned (OpenSpec.ofChange fnMissingSpec)

/-- ITS FALSE NEIGHBOUR: 'it returns false'. Refute it at one input. -/
def fnMissingWrong : ChangeSpec := { name := "fnMissing", fn := fun _ => fun
  | [d] => { results := [.lit (.bool false)], args := [d] }
  | _ => none }
def FnMissingWrongFalsely : Prop := fnMissingRow.holds Try.pinned (OpenSpec.ofChange fnMissingWrong)

/-- 'laws.FnMissingMore': WHATEVER THE INPUT: true; the input reads as it did. -/
def fnMissingMoreSpec : ChangeSpec := { name := "fnMissingMore", fn := fun _ => fun
  | [d1, d2] => { results := [.lit (.bool true)], args := [d1, d2] }
  | _ => none }
def fnMissingMoreRow : OpenClaim := { program := "ytpkfpegilhadfaa", sum := "b622fd81c38ce23f5c975ead286f99e4f4d06ab885c886374f84a3e5008992b5", func := "loop.example/atomicspectra/laws.FnMissingMore", spec := "fnMissingMore", unfollowed := true, recurses := true, apart := false }
def FnMissingMoreSaid : Prop := fnMissingMoreRow.holds Try.pinned (OpenSpec.ofChange fnMissingMoreSpec)

/-- ITS FALSE NEIGHBOUR: 'it returns false'. Refute it at one input. -/
def fnMissingMoreWrong : ChangeSpec := { name := "fnMissingMore", fn := fun _ => fun
  | [d1, d2] => { results := [.lit (.bool false)], args := [d1, d2] }
  | _ => none }
def FnMissingMoreWrongFalsely : Prop := fnMissingMoreRow.holds Try.pinned (OpenSpec.ofChange fnMissingMoreWrong)

/-- 'laws.FnExactMatchMissing': WHATEVER THE INPUT: true; the input reads as it did. -/
def fnExactMatchMissingSpec : ChangeSpec := { name := "fnExactMatchMissing", fn := fun _ => fun
  | [d1, d2, d3] => { results := [.lit (.bool true)], args := [d1, d2, d3] }
  | _ => none }
def fnExactMatchMissingRow : OpenClaim := { program := "ytpkfpegilhadfaa", sum := "b622fd81c38ce23f5c975ead286f99e4f4d06ab885c886374f84a3e5008992b5", func := "loop.example/atomicspectra/laws.FnExactMatchMissing", spec := "fnExactMatchMissing", unfollowed := true, recurses := true, apart := false }
def FnExactMatchMissingSaid : Prop := fnExactMatchMissingRow.holds Try.pinned (OpenSpec.ofChange fnExactMatchMissingSpec)

/-- ITS FALSE NEIGHBOUR: 'it returns false'. Refute it at one input. -/
def fnExactMatchMissingWrong : ChangeSpec := { name := "fnExactMatchMissing", fn := fun _ => fun
  | [d1, d2, d3] => { results := [.lit (.bool false)], args := [d1, d2, d3] }
  | _ => none }
def FnExactMatchMissingWrongFalsely : Prop := fnExactMatchMissingRow.holds Try.pinned (OpenSpec.ofChange fnExactMatchMissingWrong)

/-- 'laws.FnJoinedScheme': WHATEVER THE INPUT: true; the input reads as it did. -/
def fnJoinedSchemeSpec : ChangeSpec := { name := "fnJoinedScheme", fn := fun _ => fun
  | [d] => { results := [.lit (.bool true)], args := [d] }
  | _ => none }
def fnJoinedSchemeRow : OpenClaim := { program := "ytpkfpegilhadfaa", sum := "b622fd81c38ce23f5c975ead286f99e4f4d06ab885c886374f84a3e5008992b5", func := "loop.example/atomicspectra/laws.FnJoinedScheme", spec := "fnJoinedScheme", unfollowed := true, recurses := true, apart := false }
def FnJoinedSchemeSaid : Prop := fnJoinedSchemeRow.holds Try.pinned (OpenSpec.ofChange fnJoinedSchemeSpec)

/-- ITS FALSE NEIGHBOUR: 'it returns false'. Refute it at one input. -/
def fnJoinedSchemeWrong : ChangeSpec := { name := "fnJoinedScheme", fn := fun _ => fun
  | [d] => { results := [.lit (.bool false)], args := [d] }
  | _ => none }
def FnJoinedSchemeWrongFalsely : Prop := fnJoinedSchemeRow.holds Try.pinned (OpenSpec.ofChange fnJoinedSchemeWrong)

/-- 'laws.FnLeastNoise': WHATEVER THE INPUT: true; the input reads as it did. -/
def fnLeastNoiseSpec : ChangeSpec := { name := "fnLeastNoise", fn := fun _ => fun
  | [d1, d2] => { results := [.lit (.bool true)], args := [d1, d2] }
  | _ => none }
def fnLeastNoiseRow : OpenClaim := { program := "ytpkfpegilhadfaa", sum := "b622fd81c38ce23f5c975ead286f99e4f4d06ab885c886374f84a3e5008992b5", func := "loop.example/atomicspectra/laws.FnLeastNoise", spec := "fnLeastNoise", unfollowed := true, recurses := true, apart := false }
def FnLeastNoiseSaid : Prop := fnLeastNoiseRow.holds Try.pinned (OpenSpec.ofChange fnLeastNoiseSpec)

/-- ITS FALSE NEIGHBOUR: 'it returns false'. Refute it at one input. -/
def fnLeastNoiseWrong : ChangeSpec := { name := "fnLeastNoise", fn := fun _ => fun
  | [d1, d2] => { results := [.lit (.bool false)], args := [d1, d2] }
  | _ => none }
def FnLeastNoiseWrongFalsely : Prop := fnLeastNoiseRow.holds Try.pinned (OpenSpec.ofChange fnLeastNoiseWrong)

/-- 'laws.FnMatchExact': WHATEVER THE INPUT: true; the input reads as it did. -/
def fnMatchExactSpec : ChangeSpec := { name := "fnMatchExact", fn := fun _ => fun
  | [d] => { results := [.lit (.bool true)], args := [d] }
  | _ => none }
def fnMatchExactRow : OpenClaim := { program := "ytpkfpegilhadfaa", sum := "b622fd81c38ce23f5c975ead286f99e4f4d06ab885c886374f84a3e5008992b5", func := "loop.example/atomicspectra/laws.FnMatchExact", spec := "fnMatchExact", unfollowed := true, recurses := true, apart := false }
def FnMatchExactSaid : Prop := fnMatchExactRow.holds Try.pinned (OpenSpec.ofChange fnMatchExactSpec)

/-- ITS FALSE NEIGHBOUR: 'it returns false'. Refute it at one input. -/
def fnMatchExactWrong : ChangeSpec := { name := "fnMatchExact", fn := fun _ => fun
  | [d] => { results := [.lit (.bool false)], args := [d] }
  | _ => none }
def FnMatchExactWrongFalsely : Prop := fnMatchExactRow.holds Try.pinned (OpenSpec.ofChange fnMatchExactWrong)

/- THE SECOND FORM. 'bulk': how many values and letters a reading holds, each counted each time it is reached (what is shared counts as often as it is met; a slice's spare places count too). A statement '..UptoSaid' is the law's where the arguments, and the package variables that the reading takes, are together of bulk at most 1048576: NARROWER than '..Said'. Prove '..Said' where nothing that the law and all that it calls make is longer than what came in: it says more and counts as full. Else prove '..UptoSaid'. A law counts once. -/
mutual
def uptoBulk {H : Type} : DataW H → Nat
  | .lit (.string bytes) => bytes.length + 1
  | .lit _ => 1
  | .nil => 1
  | .ptr d => uptoBulk d + 1
  | .slice elems spare => uptoBulkAll elems + uptoBulkAll spare + 1
  | .agg parts => uptoBulkAll parts + 1
  | .iface _ d => uptoBulk d + 1
  | .map entries => uptoBulkEntries entries + 1
  | .held _ => 1
def uptoBulkAll {H : Type} : List (DataW H) → Nat
  | [] => 0
  | d :: r => uptoBulk d + uptoBulkAll r
def uptoBulkEntries {H : Type} : List (Lit × DataW H) → Nat
  | [] => 0
  | x :: r => uptoBulkEntry x + uptoBulkEntries r
def uptoBulkEntry {H : Type} : Lit × DataW H → Nat
  | (.string bytes, d) => bytes.length + uptoBulk d + 1
  | (_, d) => uptoBulk d + 1
 end
def uptoSmall : (H : Type) → List (DataW H) → Bool := fun _ ds => decide (uptoBulkAll ds ≤ 1048576)
def OpenSpec.upto (s : _root_.Go.ChangeSpec) : _root_.Go.OpenSpec := { _root_.Go.OpenSpec.ofChange s with cond := some uptoSmall }

/-- 'laws.FnMissing', WHERE WHAT IT READS IS OF BULK AT MOST 1048576: true; the input reads as it did. -/
def fnMissingUptoRow : OpenClaim := { program := "ytpkfpegilhadfaa", sum := "b622fd81c38ce23f5c975ead286f99e4f4d06ab885c886374f84a3e5008992b5", func := "loop.example/atomicspectra/laws.FnMissing", spec := "fnMissing", unfollowed := true, recurses := true, apart := false, narrowed := true }
def FnMissingUptoSaid : Prop := fnMissingUptoRow.holds Try.pinned (OpenSpec.upto fnMissingSpec)

/-- 'laws.FnMissingMore', WHERE WHAT IT READS IS OF BULK AT MOST 1048576: true; the input reads as it did. -/
def fnMissingMoreUptoRow : OpenClaim := { program := "ytpkfpegilhadfaa", sum := "b622fd81c38ce23f5c975ead286f99e4f4d06ab885c886374f84a3e5008992b5", func := "loop.example/atomicspectra/laws.FnMissingMore", spec := "fnMissingMore", unfollowed := true, recurses := true, apart := false, narrowed := true }
def FnMissingMoreUptoSaid : Prop := fnMissingMoreUptoRow.holds Try.pinned (OpenSpec.upto fnMissingMoreSpec)

/-- 'laws.FnExactMatchMissing', WHERE WHAT IT READS IS OF BULK AT MOST 1048576: true; the input reads as it did. -/
def fnExactMatchMissingUptoRow : OpenClaim := { program := "ytpkfpegilhadfaa", sum := "b622fd81c38ce23f5c975ead286f99e4f4d06ab885c886374f84a3e5008992b5", func := "loop.example/atomicspectra/laws.FnExactMatchMissing", spec := "fnExactMatchMissing", unfollowed := true, recurses := true, apart := false, narrowed := true }
def FnExactMatchMissingUptoSaid : Prop := fnExactMatchMissingUptoRow.holds Try.pinned (OpenSpec.upto fnExactMatchMissingSpec)

/-- 'laws.FnJoinedScheme', WHERE WHAT IT READS IS OF BULK AT MOST 1048576: true; the input reads as it did. -/
def fnJoinedSchemeUptoRow : OpenClaim := { program := "ytpkfpegilhadfaa", sum := "b622fd81c38ce23f5c975ead286f99e4f4d06ab885c886374f84a3e5008992b5", func := "loop.example/atomicspectra/laws.FnJoinedScheme", spec := "fnJoinedScheme", unfollowed := true, recurses := true, apart := false, narrowed := true }
def FnJoinedSchemeUptoSaid : Prop := fnJoinedSchemeUptoRow.holds Try.pinned (OpenSpec.upto fnJoinedSchemeSpec)

/-- 'laws.FnLeastNoise', WHERE WHAT IT READS IS OF BULK AT MOST 1048576: true; the input reads as it did. -/
def fnLeastNoiseUptoRow : OpenClaim := { program := "ytpkfpegilhadfaa", sum := "b622fd81c38ce23f5c975ead286f99e4f4d06ab885c886374f84a3e5008992b5", func := "loop.example/atomicspectra/laws.FnLeastNoise", spec := "fnLeastNoise", unfollowed := true, recurses := true, apart := false, narrowed := true }
def FnLeastNoiseUptoSaid : Prop := fnLeastNoiseUptoRow.holds Try.pinned (OpenSpec.upto fnLeastNoiseSpec)

/-- 'laws.FnMatchExact', WHERE WHAT IT READS IS OF BULK AT MOST 1048576: true; the input reads as it did. -/
def fnMatchExactUptoRow : OpenClaim := { program := "ytpkfpegilhadfaa", sum := "b622fd81c38ce23f5c975ead286f99e4f4d06ab885c886374f84a3e5008992b5", func := "loop.example/atomicspectra/laws.FnMatchExact", spec := "fnMatchExact", unfollowed := true, recurses := true, apart := false, narrowed := true }
def FnMatchExactUptoSaid : Prop := fnMatchExactUptoRow.holds Try.pinned (OpenSpec.upto fnMatchExactSpec)

end Rows
end Go.Proofs.Ytpkfpegilhadfaa
