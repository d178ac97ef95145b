/-
  No cell of these rows narrows 'for every input' (looked for: loops, veiled, ifaces, maps, wideKeys, modest, calm, conditions, laid).
  DERIVED. THE GIVEN ROWS OF THIS SEAT. 8 by the template 'for every input the law returns true; each argument reads behind the call as it read before'; 0 by the template 'total and deterministic' (their statements: YtpfbjpognmjmmaaTotals.lean).
  GIVEN WITH THE SEED: the statements are not yours to turn. If you find one false, say at which input.
  Laid BY PROGRAM, IN A SANDBOX (cutbox-rows.mjs): the forced cells as the released guide's own fill.sh prints them over the translation a2b182b551cd958e… (all of the seat's roots in one cut). By AI agents, Wed Nov 11 2026. No macro, syntax, notation, axiom, sorry.
-/
import Derived.Test.YtpfbjpognmjmmaaChecked
import GoSem.Claim
import GoSem.ClaimJoined
import GoSem.ClaimMapViews
import Derived.JoinedTies
import Derived.KernelRfl
namespace Go.Proofs.Ytpfbjpognmjmmaa
/- THE CELL 'sum', in the pinned program and in every row, IS THE sha256 OF THE DUMP (.gsa) THAT YtpfbjpognmjmmaaProg.lean LOADS. Nothing in Lean hashes anything: it is a label: what it is worth is what the hold of that sum in a sandbox is worth. -/
noncomputable def Try.pinned : Pinned := { name := "ytpfbjpognmjmmaa", sum := "a2b182b551cd958e557fd52436041404f95f01af5dc5817314fe15efec6ae8fe", checked := Try.checked }
namespace Rows
def none {H : Type} : Left H := { results := [], args := [] }

/-- 'laws.FnExactBlendWidth': WHATEVER THE INPUT: true; the input reads as it did. -/
def fnExactBlendWidthSpec : ChangeSpec := { name := "fnExactBlendWidth", fn := fun _ => fun
  | [d] => { results := [.lit (.bool true)], args := [d] }
  | _ => none }
def fnExactBlendWidthRow : OpenClaim := { program := "ytpfbjpognmjmmaa", sum := "a2b182b551cd958e557fd52436041404f95f01af5dc5817314fe15efec6ae8fe", func := "loop.example/atomicspectra/laws.FnExactBlendWidth", spec := "fnExactBlendWidth", apart := false }
def FnExactBlendWidthSaid : Prop := fnExactBlendWidthRow.holds Try.pinned (OpenSpec.ofChange fnExactBlendWidthSpec)

/-- ITS FALSE NEIGHBOUR: 'it returns false'. Refute it at one input. -/
def fnExactBlendWidthWrong : ChangeSpec := { name := "fnExactBlendWidth", fn := fun _ => fun
  | [d] => { results := [.lit (.bool false)], args := [d] }
  | _ => none }
def FnExactBlendWidthWrongFalsely : Prop := fnExactBlendWidthRow.holds Try.pinned (OpenSpec.ofChange fnExactBlendWidthWrong)

/-- 'laws.FnExactBlendsMany': WHATEVER THE INPUT: true; the input reads as it did. -/
def fnExactBlendsManySpec : ChangeSpec := { name := "fnExactBlendsMany", fn := fun _ => fun
  | [d1, d2] => { results := [.lit (.bool true)], args := [d1, d2] }
  | _ => none }
def fnExactBlendsManyRow : OpenClaim := { program := "ytpfbjpognmjmmaa", sum := "a2b182b551cd958e557fd52436041404f95f01af5dc5817314fe15efec6ae8fe", func := "loop.example/atomicspectra/laws.FnExactBlendsMany", spec := "fnExactBlendsMany", unfollowed := true, recurses := true, apart := false }
def FnExactBlendsManySaid : Prop := fnExactBlendsManyRow.holds Try.pinned (OpenSpec.ofChange fnExactBlendsManySpec)

/-- ITS FALSE NEIGHBOUR: 'it returns false'. Refute it at one input. -/
def fnExactBlendsManyWrong : ChangeSpec := { name := "fnExactBlendsMany", fn := fun _ => fun
  | [d1, d2] => { results := [.lit (.bool false)], args := [d1, d2] }
  | _ => none }
def FnExactBlendsManyWrongFalsely : Prop := fnExactBlendsManyRow.holds Try.pinned (OpenSpec.ofChange fnExactBlendsManyWrong)

/-- 'laws.FnBlendWidth': WHATEVER THE INPUT: true; the input reads as it did. -/
def fnBlendWidthSpec : ChangeSpec := { name := "fnBlendWidth", fn := fun _ => fun
  | [d] => { results := [.lit (.bool true)], args := [d] }
  | _ => none }
def fnBlendWidthRow : OpenClaim := { program := "ytpfbjpognmjmmaa", sum := "a2b182b551cd958e557fd52436041404f95f01af5dc5817314fe15efec6ae8fe", func := "loop.example/atomicspectra/laws.FnBlendWidth", spec := "fnBlendWidth", unfollowed := true, recurses := true, apart := false }
def FnBlendWidthSaid : Prop := fnBlendWidthRow.holds Try.pinned (OpenSpec.ofChange fnBlendWidthSpec)

/-- ITS FALSE NEIGHBOUR: 'it returns false'. Refute it at one input. -/
def fnBlendWidthWrong : ChangeSpec := { name := "fnBlendWidth", fn := fun _ => fun
  | [d] => { results := [.lit (.bool false)], args := [d] }
  | _ => none }
def FnBlendWidthWrongFalsely : Prop := fnBlendWidthRow.holds Try.pinned (OpenSpec.ofChange fnBlendWidthWrong)

/-- 'laws.FnExactBlendMean': WHATEVER THE INPUT: true; the input reads as it did. -/
def fnExactBlendMeanSpec : ChangeSpec := { name := "fnExactBlendMean", fn := fun _ => fun
  | [d] => { results := [.lit (.bool true)], args := [d] }
  | _ => none }
def fnExactBlendMeanRow : OpenClaim := { program := "ytpfbjpognmjmmaa", sum := "a2b182b551cd958e557fd52436041404f95f01af5dc5817314fe15efec6ae8fe", func := "loop.example/atomicspectra/laws.FnExactBlendMean", spec := "fnExactBlendMean", apart := false }
def FnExactBlendMeanSaid : Prop := fnExactBlendMeanRow.holds Try.pinned (OpenSpec.ofChange fnExactBlendMeanSpec)

/-- ITS FALSE NEIGHBOUR: 'it returns false'. Refute it at one input. -/
def fnExactBlendMeanWrong : ChangeSpec := { name := "fnExactBlendMean", fn := fun _ => fun
  | [d] => { results := [.lit (.bool false)], args := [d] }
  | _ => none }
def FnExactBlendMeanWrongFalsely : Prop := fnExactBlendMeanRow.holds Try.pinned (OpenSpec.ofChange fnExactBlendMeanWrong)

/-- 'laws.FnBlendMeanTwice': WHATEVER THE INPUT: true; the input reads as it did. -/
def fnBlendMeanTwiceSpec : ChangeSpec := { name := "fnBlendMeanTwice", fn := fun _ => fun
  | [d] => { results := [.lit (.bool true)], args := [d] }
  | _ => none }
def fnBlendMeanTwiceRow : OpenClaim := { program := "ytpfbjpognmjmmaa", sum := "a2b182b551cd958e557fd52436041404f95f01af5dc5817314fe15efec6ae8fe", func := "loop.example/atomicspectra/laws.FnBlendMeanTwice", spec := "fnBlendMeanTwice", apart := false }
def FnBlendMeanTwiceSaid : Prop := fnBlendMeanTwiceRow.holds Try.pinned (OpenSpec.ofChange fnBlendMeanTwiceSpec)

/-- ITS FALSE NEIGHBOUR: 'it returns false'. Refute it at one input. -/
def fnBlendMeanTwiceWrong : ChangeSpec := { name := "fnBlendMeanTwice", fn := fun _ => fun
  | [d] => { results := [.lit (.bool false)], args := [d] }
  | _ => none }
def FnBlendMeanTwiceWrongFalsely : Prop := fnBlendMeanTwiceRow.holds Try.pinned (OpenSpec.ofChange fnBlendMeanTwiceWrong)

/-- 'laws.FnExactBlendsOf': WHATEVER THE INPUT: true; the input reads as it did. -/
def fnExactBlendsOfSpec : ChangeSpec := { name := "fnExactBlendsOf", fn := fun _ => fun
  | [d1, d2] => { results := [.lit (.bool true)], args := [d1, d2] }
  | _ => none }
def fnExactBlendsOfRow : OpenClaim := { program := "ytpfbjpognmjmmaa", sum := "a2b182b551cd958e557fd52436041404f95f01af5dc5817314fe15efec6ae8fe", func := "loop.example/atomicspectra/laws.FnExactBlendsOf", spec := "fnExactBlendsOf", unfollowed := true, recurses := true, apart := false }
def FnExactBlendsOfSaid : Prop := fnExactBlendsOfRow.holds Try.pinned (OpenSpec.ofChange fnExactBlendsOfSpec)

/-- ITS FALSE NEIGHBOUR: 'it returns false'. Refute it at one input. -/
def fnExactBlendsOfWrong : ChangeSpec := { name := "fnExactBlendsOf", fn := fun _ => fun
  | [d1, d2] => { results := [.lit (.bool false)], args := [d1, d2] }
  | _ => none }
def FnExactBlendsOfWrongFalsely : Prop := fnExactBlendsOfRow.holds Try.pinned (OpenSpec.ofChange fnExactBlendsOfWrong)

/-- 'laws.FnBlendsAgain': WHATEVER THE INPUT: true; the input reads as it did. -/
def fnBlendsAgainSpec : ChangeSpec := { name := "fnBlendsAgain", fn := fun _ => fun
  | [d] => { results := [.lit (.bool true)], args := [d] }
  | _ => none }
def fnBlendsAgainRow : OpenClaim := { program := "ytpfbjpognmjmmaa", sum := "a2b182b551cd958e557fd52436041404f95f01af5dc5817314fe15efec6ae8fe", func := "loop.example/atomicspectra/laws.FnBlendsAgain", spec := "fnBlendsAgain", unfollowed := true, recurses := true, apart := false }
def FnBlendsAgainSaid : Prop := fnBlendsAgainRow.holds Try.pinned (OpenSpec.ofChange fnBlendsAgainSpec)

/-- ITS FALSE NEIGHBOUR: 'it returns false'. Refute it at one input. -/
def fnBlendsAgainWrong : ChangeSpec := { name := "fnBlendsAgain", fn := fun _ => fun
  | [d] => { results := [.lit (.bool false)], args := [d] }
  | _ => none }
def FnBlendsAgainWrongFalsely : Prop := fnBlendsAgainRow.holds Try.pinned (OpenSpec.ofChange fnBlendsAgainWrong)

/-- 'laws.FnBlendsGap': WHATEVER THE INPUT: true; the input reads as it did. -/
def fnBlendsGapSpec : ChangeSpec := { name := "fnBlendsGap", fn := fun _ => fun
  | [d] => { results := [.lit (.bool true)], args := [d] }
  | _ => none }
def fnBlendsGapRow : OpenClaim := { program := "ytpfbjpognmjmmaa", sum := "a2b182b551cd958e557fd52436041404f95f01af5dc5817314fe15efec6ae8fe", func := "loop.example/atomicspectra/laws.FnBlendsGap", spec := "fnBlendsGap", unfollowed := true, recurses := true, apart := false }
def FnBlendsGapSaid : Prop := fnBlendsGapRow.holds Try.pinned (OpenSpec.ofChange fnBlendsGapSpec)

/-- ITS FALSE NEIGHBOUR: 'it returns false'. Refute it at one input. -/
def fnBlendsGapWrong : ChangeSpec := { name := "fnBlendsGap", fn := fun _ => fun
  | [d] => { results := [.lit (.bool false)], args := [d] }
  | _ => none }
def FnBlendsGapWrongFalsely : Prop := fnBlendsGapRow.holds Try.pinned (OpenSpec.ofChange fnBlendsGapWrong)

/- THE SECOND FORM. 'bulk': how many values and letters a reading holds, each counted each time it is reached (what is shared counts as often as it is met; a slice's spare places count too). A statement '..UptoSaid' is the law's where the arguments, and the package variables that the reading takes, are together of bulk at most 1048576: NARROWER than '..Said'. Prove '..Said' where nothing that the law and all that it calls make is longer than what came in: it says more and counts as full. Else prove '..UptoSaid'. A law counts once. -/
mutual
def uptoBulk {H : Type} : DataW H → Nat
  | .lit (.string bytes) => bytes.length + 1
  | .lit _ => 1
  | .nil => 1
  | .ptr d => uptoBulk d + 1
  | .slice elems spare => uptoBulkAll elems + uptoBulkAll spare + 1
  | .agg parts => uptoBulkAll parts + 1
  | .iface _ d => uptoBulk d + 1
  | .map entries => uptoBulkEntries entries + 1
  | .held _ => 1
def uptoBulkAll {H : Type} : List (DataW H) → Nat
  | [] => 0
  | d :: r => uptoBulk d + uptoBulkAll r
def uptoBulkEntries {H : Type} : List (Lit × DataW H) → Nat
  | [] => 0
  | x :: r => uptoBulkEntry x + uptoBulkEntries r
def uptoBulkEntry {H : Type} : Lit × DataW H → Nat
  | (.string bytes, d) => bytes.length + uptoBulk d + 1
  | (_, d) => uptoBulk d + 1
 end
def uptoSmall : (H : Type) → List (DataW H) → Bool := fun _ ds => decide (uptoBulkAll ds ≤ 1048576)
def OpenSpec.upto (s : _root_.Go.ChangeSpec) : _root_.Go.OpenSpec := { _root_.Go.OpenSpec.ofChange s with cond := some uptoSmall }

/-- 'laws.FnExactBlendWidth', WHERE WHAT IT READS IS OF BULK AT MOST 1048576: true; the input reads as it did. -/
def fnExactBlendWidthUptoRow : OpenClaim := { program := "ytpfbjpognmjmmaa", sum := "a2b182b551cd958e557fd52436041404f95f01af5dc5817314fe15efec6ae8fe", func := "loop.example/atomicspectra/laws.FnExactBlendWidth", spec := "fnExactBlendWidth", apart := false, narrowed := true }
def FnExactBlendWidthUptoSaid : Prop := fnExactBlendWidthUptoRow.holds Try.pinned (OpenSpec.upto fnExactBlendWidthSpec)

/-- 'laws.FnExactBlendsMany', WHERE WHAT IT READS IS OF BULK AT MOST 1048576: true; the input reads as it did. -/
def fnExactBlendsManyUptoRow : OpenClaim := { program := "ytpfbjpognmjmmaa", sum := "a2b182b551cd958e557fd52436041404f95f01af5dc5817314fe15efec6ae8fe", func := "loop.example/atomicspectra/laws.FnExactBlendsMany", spec := "fnExactBlendsMany", unfollowed := true, recurses := true, apart := false, narrowed := true }
def FnExactBlendsManyUptoSaid : Prop := fnExactBlendsManyUptoRow.holds Try.pinned (OpenSpec.upto fnExactBlendsManySpec)

/-- 'laws.FnBlendWidth', WHERE WHAT IT READS IS OF BULK AT MOST 1048576: true; the input reads as it did. -/
def fnBlendWidthUptoRow : OpenClaim := { program := "ytpfbjpognmjmmaa", sum := "a2b182b551cd958e557fd52436041404f95f01af5dc5817314fe15efec6ae8fe", func := "loop.example/atomicspectra/laws.FnBlendWidth", spec := "fnBlendWidth", unfollowed := true, recurses := true, apart := false, narrowed := true }
def FnBlendWidthUptoSaid : Prop := fnBlendWidthUptoRow.holds Try.pinned (OpenSpec.upto fnBlendWidthSpec)

/-- 'laws.FnExactBlendMean', WHERE WHAT IT READS IS OF BULK AT MOST 1048576: true; the input reads as it did. -/
def fnExactBlendMeanUptoRow : OpenClaim := { program := "ytpfbjpognmjmmaa", sum := "a2b182b551cd958e557fd52436041404f95f01af5dc5817314fe15efec6ae8fe", func := "loop.example/atomicspectra/laws.FnExactBlendMean", spec := "fnExactBlendMean", apart := false, narrowed := true }
def FnExactBlendMeanUptoSaid : Prop := fnExactBlendMeanUptoRow.holds Try.pinned (OpenSpec.upto fnExactBlendMeanSpec)

/-- 'laws.FnBlendMeanTwice', WHERE WHAT IT READS IS OF BULK AT MOST 1048576: true; the input reads as it did. -/
def fnBlendMeanTwiceUptoRow : OpenClaim := { program := "ytpfbjpognmjmmaa", sum := "a2b182b551cd958e557fd52436041404f95f01af5dc5817314fe15efec6ae8fe", func := "loop.example/atomicspectra/laws.FnBlendMeanTwice", spec := "fnBlendMeanTwice", apart := false, narrowed := true }
def FnBlendMeanTwiceUptoSaid : Prop := fnBlendMeanTwiceUptoRow.holds Try.pinned (OpenSpec.upto fnBlendMeanTwiceSpec)

/-- 'laws.FnExactBlendsOf', WHERE WHAT IT READS IS OF BULK AT MOST 1048576: true; the input reads as it did. -/
def fnExactBlendsOfUptoRow : OpenClaim := { program := "ytpfbjpognmjmmaa", sum := "a2b182b551cd958e557fd52436041404f95f01af5dc5817314fe15efec6ae8fe", func := "loop.example/atomicspectra/laws.FnExactBlendsOf", spec := "fnExactBlendsOf", unfollowed := true, recurses := true, apart := false, narrowed := true }
def FnExactBlendsOfUptoSaid : Prop := fnExactBlendsOfUptoRow.holds Try.pinned (OpenSpec.upto fnExactBlendsOfSpec)

/-- 'laws.FnBlendsAgain', WHERE WHAT IT READS IS OF BULK AT MOST 1048576: true; the input reads as it did. -/
def fnBlendsAgainUptoRow : OpenClaim := { program := "ytpfbjpognmjmmaa", sum := "a2b182b551cd958e557fd52436041404f95f01af5dc5817314fe15efec6ae8fe", func := "loop.example/atomicspectra/laws.FnBlendsAgain", spec := "fnBlendsAgain", unfollowed := true, recurses := true, apart := false, narrowed := true }
def FnBlendsAgainUptoSaid : Prop := fnBlendsAgainUptoRow.holds Try.pinned (OpenSpec.upto fnBlendsAgainSpec)

/-- 'laws.FnBlendsGap', WHERE WHAT IT READS IS OF BULK AT MOST 1048576: true; the input reads as it did. -/
def fnBlendsGapUptoRow : OpenClaim := { program := "ytpfbjpognmjmmaa", sum := "a2b182b551cd958e557fd52436041404f95f01af5dc5817314fe15efec6ae8fe", func := "loop.example/atomicspectra/laws.FnBlendsGap", spec := "fnBlendsGap", unfollowed := true, recurses := true, apart := false, narrowed := true }
def FnBlendsGapUptoSaid : Prop := fnBlendsGapUptoRow.holds Try.pinned (OpenSpec.upto fnBlendsGapSpec)

end Rows
end Go.Proofs.Ytpfbjpognmjmmaa
