/-
  No cell of these rows narrows 'for every input' (looked for: loops, veiled, ifaces, maps, wideKeys, modest, calm, conditions, laid).
  DERIVED. THE GIVEN ROWS OF THIS SEAT. 9 by the template 'for every input the law returns true; each argument reads behind the call as it read before'; 0 by the template 'total and deterministic' (their statements: YtaefojbgialiaabTotals.lean).
  GIVEN WITH THE SEED: the statements are not yours to turn. If you find one false, say at which input.
  Laid BY PROGRAM, IN A SANDBOX (cutbox-rows.mjs): the forced cells as the released guide's own fill.sh prints them over the translation 3d8fc8546db44a76… (all of the seat's roots in one cut). By AI agents, Wed Nov 11 2026. No macro, syntax, notation, axiom, sorry.
-/
import Derived.Test.YtaefojbgialiaabChecked
import GoSem.Claim
import GoSem.ClaimJoined
import GoSem.ClaimMapViews
import Derived.JoinedTies
import Derived.KernelRfl
namespace Go.Proofs.Ytaefojbgialiaab
/- THE CELL 'sum', in the pinned program and in every row, IS THE sha256 OF THE DUMP (.gsa) THAT YtaefojbgialiaabProg.lean LOADS. Nothing in Lean hashes anything: it is a label: what it is worth is what the hold of that sum in a sandbox is worth. -/
noncomputable def Try.pinned : Pinned := { name := "ytaefojbgialiaab", sum := "3d8fc8546db44a769a1efc04033bb153b1a3ac99bd10c39d8dc2a9e094c6006a", checked := Try.checked }
namespace Rows
def none {H : Type} : Left H := { results := [], args := [] }

/-- 'laws.FnLeastMore': WHATEVER THE INPUT: true; the input reads as it did. -/
def fnLeastMoreSpec : ChangeSpec := { name := "fnLeastMore", fn := fun _ => fun
  | [d1, d2] => { results := [.lit (.bool true)], args := [d1, d2] }
  | _ => none }
def fnLeastMoreRow : OpenClaim := { program := "ytaefojbgialiaab", sum := "3d8fc8546db44a769a1efc04033bb153b1a3ac99bd10c39d8dc2a9e094c6006a", func := "loop.example/atomicspectra/laws.FnLeastMore", spec := "fnLeastMore", unfollowed := true, recurses := true, apart := false }
def FnLeastMoreSaid : Prop := fnLeastMoreRow.holds Try.pinned (OpenSpec.ofChange fnLeastMoreSpec)

/-- ITS FALSE NEIGHBOUR: 'it returns false'. Refute it at one input. -/
def fnLeastMoreWrong : ChangeSpec := { name := "fnLeastMore", fn := fun _ => fun
  | [d1, d2] => { results := [.lit (.bool false)], args := [d1, d2] }
  | _ => none }
def FnLeastMoreWrongFalsely : Prop := fnLeastMoreRow.holds Try.pinned (OpenSpec.ofChange fnLeastMoreWrong)

/-- 'laws.FnLeast': WHATEVER THE INPUT: true; the input reads as it did. -/
def fnLeastSpec : ChangeSpec := { name := "fnLeast", fn := fun _ => fun
  | [d] => { results := [.lit (.bool true)], args := [d] }
  | _ => none }
def fnLeastRow : OpenClaim := { program := "ytaefojbgialiaab", sum := "3d8fc8546db44a769a1efc04033bb153b1a3ac99bd10c39d8dc2a9e094c6006a", func := "loop.example/atomicspectra/laws.FnLeast", spec := "fnLeast", unfollowed := true, recurses := true, apart := false }
def FnLeastSaid : Prop := fnLeastRow.holds Try.pinned (OpenSpec.ofChange fnLeastSpec)

/-- ITS FALSE NEIGHBOUR: 'it returns false'. Refute it at one input. -/
def fnLeastWrong : ChangeSpec := { name := "fnLeast", fn := fun _ => fun
  | [d] => { results := [.lit (.bool false)], args := [d] }
  | _ => none }
def FnLeastWrongFalsely : Prop := fnLeastRow.holds Try.pinned (OpenSpec.ofChange fnLeastWrong)

/-- 'laws.FnFitMore': WHATEVER THE INPUT: true; the input reads as it did. -/
def fnFitMoreSpec : ChangeSpec := { name := "fnFitMore", fn := fun _ => fun
  | [d1, d2] => { results := [.lit (.bool true)], args := [d1, d2] }
  | _ => none }
def fnFitMoreRow : OpenClaim := { program := "ytaefojbgialiaab", sum := "3d8fc8546db44a769a1efc04033bb153b1a3ac99bd10c39d8dc2a9e094c6006a", func := "loop.example/atomicspectra/laws.FnFitMore", spec := "fnFitMore", apart := false }
def FnFitMoreSaid : Prop := fnFitMoreRow.holds Try.pinned (OpenSpec.ofChange fnFitMoreSpec)

/-- ITS FALSE NEIGHBOUR: 'it returns false'. Refute it at one input. -/
def fnFitMoreWrong : ChangeSpec := { name := "fnFitMore", fn := fun _ => fun
  | [d1, d2] => { results := [.lit (.bool false)], args := [d1, d2] }
  | _ => none }
def FnFitMoreWrongFalsely : Prop := fnFitMoreRow.holds Try.pinned (OpenSpec.ofChange fnFitMoreWrong)

/-- 'laws.FnFitOrder': WHATEVER THE INPUT: true; the input reads as it did. -/
def fnFitOrderSpec : ChangeSpec := { name := "fnFitOrder", fn := fun _ => fun
  | [d1, d2] => { results := [.lit (.bool true)], args := [d1, d2] }
  | _ => none }
def fnFitOrderRow : OpenClaim := { program := "ytaefojbgialiaab", sum := "3d8fc8546db44a769a1efc04033bb153b1a3ac99bd10c39d8dc2a9e094c6006a", func := "loop.example/atomicspectra/laws.FnFitOrder", spec := "fnFitOrder", apart := false }
def FnFitOrderSaid : Prop := fnFitOrderRow.holds Try.pinned (OpenSpec.ofChange fnFitOrderSpec)

/-- ITS FALSE NEIGHBOUR: 'it returns false'. Refute it at one input. -/
def fnFitOrderWrong : ChangeSpec := { name := "fnFitOrder", fn := fun _ => fun
  | [d1, d2] => { results := [.lit (.bool false)], args := [d1, d2] }
  | _ => none }
def FnFitOrderWrongFalsely : Prop := fnFitOrderRow.holds Try.pinned (OpenSpec.ofChange fnFitOrderWrong)

/-- 'laws.FnFitTurn': WHATEVER THE INPUT: true; the input reads as it did. -/
def fnFitTurnSpec : ChangeSpec := { name := "fnFitTurn", fn := fun _ => fun
  | [d] => { results := [.lit (.bool true)], args := [d] }
  | _ => none }
def fnFitTurnRow : OpenClaim := { program := "ytaefojbgialiaab", sum := "3d8fc8546db44a769a1efc04033bb153b1a3ac99bd10c39d8dc2a9e094c6006a", func := "loop.example/atomicspectra/laws.FnFitTurn", spec := "fnFitTurn", apart := false }
def FnFitTurnSaid : Prop := fnFitTurnRow.holds Try.pinned (OpenSpec.ofChange fnFitTurnSpec)

/-- ITS FALSE NEIGHBOUR: 'it returns false'. Refute it at one input. -/
def fnFitTurnWrong : ChangeSpec := { name := "fnFitTurn", fn := fun _ => fun
  | [d] => { results := [.lit (.bool false)], args := [d] }
  | _ => none }
def FnFitTurnWrongFalsely : Prop := fnFitTurnRow.holds Try.pinned (OpenSpec.ofChange fnFitTurnWrong)

/-- 'laws.FnNearFit': WHATEVER THE INPUT: true; the input reads as it did. -/
def fnNearFitSpec : ChangeSpec := { name := "fnNearFit", fn := fun _ => fun
  | [d1, d2] => { results := [.lit (.bool true)], args := [d1, d2] }
  | _ => none }
def fnNearFitRow : OpenClaim := { program := "ytaefojbgialiaab", sum := "3d8fc8546db44a769a1efc04033bb153b1a3ac99bd10c39d8dc2a9e094c6006a", func := "loop.example/atomicspectra/laws.FnNearFit", spec := "fnNearFit", apart := false }
def FnNearFitSaid : Prop := fnNearFitRow.holds Try.pinned (OpenSpec.ofChange fnNearFitSpec)

/-- ITS FALSE NEIGHBOUR: 'it returns false'. Refute it at one input. -/
def fnNearFitWrong : ChangeSpec := { name := "fnNearFit", fn := fun _ => fun
  | [d1, d2] => { results := [.lit (.bool false)], args := [d1, d2] }
  | _ => none }
def FnNearFitWrongFalsely : Prop := fnNearFitRow.holds Try.pinned (OpenSpec.ofChange fnNearFitWrong)

/-- 'laws.FnFit': WHATEVER THE INPUT: true; the input reads as it did. -/
def fnFitSpec : ChangeSpec := { name := "fnFit", fn := fun _ => fun
  | [d] => { results := [.lit (.bool true)], args := [d] }
  | _ => none }
def fnFitRow : OpenClaim := { program := "ytaefojbgialiaab", sum := "3d8fc8546db44a769a1efc04033bb153b1a3ac99bd10c39d8dc2a9e094c6006a", func := "loop.example/atomicspectra/laws.FnFit", spec := "fnFit", apart := false }
def FnFitSaid : Prop := fnFitRow.holds Try.pinned (OpenSpec.ofChange fnFitSpec)

/-- ITS FALSE NEIGHBOUR: 'it returns false'. Refute it at one input. -/
def fnFitWrong : ChangeSpec := { name := "fnFit", fn := fun _ => fun
  | [d] => { results := [.lit (.bool false)], args := [d] }
  | _ => none }
def FnFitWrongFalsely : Prop := fnFitRow.holds Try.pinned (OpenSpec.ofChange fnFitWrong)

/-- 'laws.FnExactLinksFit': WHATEVER THE INPUT: true; the input reads as it did. -/
def fnExactLinksFitSpec : ChangeSpec := { name := "fnExactLinksFit", fn := fun _ => fun
  | [d1, d2] => { results := [.lit (.bool true)], args := [d1, d2] }
  | _ => none }
def fnExactLinksFitRow : OpenClaim := { program := "ytaefojbgialiaab", sum := "3d8fc8546db44a769a1efc04033bb153b1a3ac99bd10c39d8dc2a9e094c6006a", func := "loop.example/atomicspectra/laws.FnExactLinksFit", spec := "fnExactLinksFit", apart := false }
def FnExactLinksFitSaid : Prop := fnExactLinksFitRow.holds Try.pinned (OpenSpec.ofChange fnExactLinksFitSpec)

/-- ITS FALSE NEIGHBOUR: 'it returns false'. Refute it at one input. -/
def fnExactLinksFitWrong : ChangeSpec := { name := "fnExactLinksFit", fn := fun _ => fun
  | [d1, d2] => { results := [.lit (.bool false)], args := [d1, d2] }
  | _ => none }
def FnExactLinksFitWrongFalsely : Prop := fnExactLinksFitRow.holds Try.pinned (OpenSpec.ofChange fnExactLinksFitWrong)

/-- 'laws.FnLeastFit': WHATEVER THE INPUT: true; the input reads as it did. -/
def fnLeastFitSpec : ChangeSpec := { name := "fnLeastFit", fn := fun _ => fun
  | [d1, d2] => { results := [.lit (.bool true)], args := [d1, d2] }
  | _ => none }
def fnLeastFitRow : OpenClaim := { program := "ytaefojbgialiaab", sum := "3d8fc8546db44a769a1efc04033bb153b1a3ac99bd10c39d8dc2a9e094c6006a", func := "loop.example/atomicspectra/laws.FnLeastFit", spec := "fnLeastFit", unfollowed := true, recurses := true, apart := false }
def FnLeastFitSaid : Prop := fnLeastFitRow.holds Try.pinned (OpenSpec.ofChange fnLeastFitSpec)

/-- ITS FALSE NEIGHBOUR: 'it returns false'. Refute it at one input. -/
def fnLeastFitWrong : ChangeSpec := { name := "fnLeastFit", fn := fun _ => fun
  | [d1, d2] => { results := [.lit (.bool false)], args := [d1, d2] }
  | _ => none }
def FnLeastFitWrongFalsely : Prop := fnLeastFitRow.holds Try.pinned (OpenSpec.ofChange fnLeastFitWrong)

/- THE SECOND FORM. 'bulk': how many values and letters a reading holds, each counted each time it is reached (what is shared counts as often as it is met; a slice's spare places count too). A statement '..UptoSaid' is the law's where the arguments, and the package variables that the reading takes, are together of bulk at most 1048576: NARROWER than '..Said'. Prove '..Said' where nothing that the law and all that it calls make is longer than what came in: it says more and counts as full. Else prove '..UptoSaid'. A law counts once. -/
mutual
def uptoBulk {H : Type} : DataW H → Nat
  | .lit (.string bytes) => bytes.length + 1
  | .lit _ => 1
  | .nil => 1
  | .ptr d => uptoBulk d + 1
  | .slice elems spare => uptoBulkAll elems + uptoBulkAll spare + 1
  | .agg parts => uptoBulkAll parts + 1
  | .iface _ d => uptoBulk d + 1
  | .map entries => uptoBulkEntries entries + 1
  | .held _ => 1
def uptoBulkAll {H : Type} : List (DataW H) → Nat
  | [] => 0
  | d :: r => uptoBulk d + uptoBulkAll r
def uptoBulkEntries {H : Type} : List (Lit × DataW H) → Nat
  | [] => 0
  | x :: r => uptoBulkEntry x + uptoBulkEntries r
def uptoBulkEntry {H : Type} : Lit × DataW H → Nat
  | (.string bytes, d) => bytes.length + uptoBulk d + 1
  | (_, d) => uptoBulk d + 1
 end
def uptoSmall : (H : Type) → List (DataW H) → Bool := fun _ ds => decide (uptoBulkAll ds ≤ 1048576)
def OpenSpec.upto (s : _root_.Go.ChangeSpec) : _root_.Go.OpenSpec := { _root_.Go.OpenSpec.ofChange s with cond := some uptoSmall }

/-- 'laws.FnLeastMore', WHERE WHAT IT READS IS OF BULK AT MOST 1048576: true; the input reads as it did. -/
def fnLeastMoreUptoRow : OpenClaim := { program := "ytaefojbgialiaab", sum := "3d8fc8546db44a769a1efc04033bb153b1a3ac99bd10c39d8dc2a9e094c6006a", func := "loop.example/atomicspectra/laws.FnLeastMore", spec := "fnLeastMore", unfollowed := true, recurses := true, apart := false, narrowed := true }
def FnLeastMoreUptoSaid : Prop := fnLeastMoreUptoRow.holds Try.pinned (OpenSpec.upto fnLeastMoreSpec)

/-- 'laws.FnLeast', WHERE WHAT IT READS IS OF BULK AT MOST 1048576: true; the input reads as it did. -/
def fnLeastUptoRow : OpenClaim := { program := "ytaefojbgialiaab", sum := "3d8fc8546db44a769a1efc04033bb153b1a3ac99bd10c39d8dc2a9e094c6006a", func := "loop.example/atomicspectra/laws.FnLeast", spec := "fnLeast", unfollowed := true, recurses := true, apart := false, narrowed := true }
def FnLeastUptoSaid : Prop := fnLeastUptoRow.holds Try.pinned (OpenSpec.upto fnLeastSpec)

/-- 'laws.FnFitMore', WHERE WHAT IT READS IS OF BULK AT MOST 1048576: true; the input reads as it did. -/
def fnFitMoreUptoRow : OpenClaim := { program := "ytaefojbgialiaab", sum := "3d8fc8546db44a769a1efc04033bb153b1a3ac99bd10c39d8dc2a9e094c6006a", func := "loop.example/atomicspectra/laws.FnFitMore", spec := "fnFitMore", apart := false, narrowed := true }
def FnFitMoreUptoSaid : Prop := fnFitMoreUptoRow.holds Try.pinned (OpenSpec.upto fnFitMoreSpec)

/-- 'laws.FnFitOrder', WHERE WHAT IT READS IS OF BULK AT MOST 1048576: true; the input reads as it did. -/
def fnFitOrderUptoRow : OpenClaim := { program := "ytaefojbgialiaab", sum := "3d8fc8546db44a769a1efc04033bb153b1a3ac99bd10c39d8dc2a9e094c6006a", func := "loop.example/atomicspectra/laws.FnFitOrder", spec := "fnFitOrder", apart := false, narrowed := true }
def FnFitOrderUptoSaid : Prop := fnFitOrderUptoRow.holds Try.pinned (OpenSpec.upto fnFitOrderSpec)

/-- 'laws.FnFitTurn', WHERE WHAT IT READS IS OF BULK AT MOST 1048576: true; the input reads as it did. -/
def fnFitTurnUptoRow : OpenClaim := { program := "ytaefojbgialiaab", sum := "3d8fc8546db44a769a1efc04033bb153b1a3ac99bd10c39d8dc2a9e094c6006a", func := "loop.example/atomicspectra/laws.FnFitTurn", spec := "fnFitTurn", apart := false, narrowed := true }
def FnFitTurnUptoSaid : Prop := fnFitTurnUptoRow.holds Try.pinned (OpenSpec.upto fnFitTurnSpec)

/-- 'laws.FnNearFit', WHERE WHAT IT READS IS OF BULK AT MOST 1048576: true; the input reads as it did. -/
def fnNearFitUptoRow : OpenClaim := { program := "ytaefojbgialiaab", sum := "3d8fc8546db44a769a1efc04033bb153b1a3ac99bd10c39d8dc2a9e094c6006a", func := "loop.example/atomicspectra/laws.FnNearFit", spec := "fnNearFit", apart := false, narrowed := true }
def FnNearFitUptoSaid : Prop := fnNearFitUptoRow.holds Try.pinned (OpenSpec.upto fnNearFitSpec)

/-- 'laws.FnFit', WHERE WHAT IT READS IS OF BULK AT MOST 1048576: true; the input reads as it did. -/
def fnFitUptoRow : OpenClaim := { program := "ytaefojbgialiaab", sum := "3d8fc8546db44a769a1efc04033bb153b1a3ac99bd10c39d8dc2a9e094c6006a", func := "loop.example/atomicspectra/laws.FnFit", spec := "fnFit", apart := false, narrowed := true }
def FnFitUptoSaid : Prop := fnFitUptoRow.holds Try.pinned (OpenSpec.upto fnFitSpec)

/-- 'laws.FnExactLinksFit', WHERE WHAT IT READS IS OF BULK AT MOST 1048576: true; the input reads as it did. -/
def fnExactLinksFitUptoRow : OpenClaim := { program := "ytaefojbgialiaab", sum := "3d8fc8546db44a769a1efc04033bb153b1a3ac99bd10c39d8dc2a9e094c6006a", func := "loop.example/atomicspectra/laws.FnExactLinksFit", spec := "fnExactLinksFit", apart := false, narrowed := true }
def FnExactLinksFitUptoSaid : Prop := fnExactLinksFitUptoRow.holds Try.pinned (OpenSpec.upto fnExactLinksFitSpec)

/-- 'laws.FnLeastFit', WHERE WHAT IT READS IS OF BULK AT MOST 1048576: true; the input reads as it did. -/
def fnLeastFitUptoRow : OpenClaim := { program := "ytaefojbgialiaab", sum := "3d8fc8546db44a769a1efc04033bb153b1a3ac99bd10c39d8dc2a9e094c6006a", func := "loop.example/atomicspectra/laws.FnLeastFit", spec := "fnLeastFit", unfollowed := true, recurses := true, apart := false, narrowed := true }
def FnLeastFitUptoSaid : Prop := fnLeastFitUptoRow.holds Try.pinned (OpenSpec.upto fnLeastFitSpec)

end Rows
end Go.Proofs.Ytaefojbgialiaab
