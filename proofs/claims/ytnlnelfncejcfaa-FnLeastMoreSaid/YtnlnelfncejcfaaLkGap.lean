/- Contracts of the functions that tell how far energies are from links. -/
import Derived.Test.YtnlnelfncejcfaaLkValid
import Derived.Test.YtnlnelfncejcfaaLkLawP
namespace Go.Proofs.Ytnlnelfncejcfaa
open Go.RowKit Lk

/-- energies and links among which the gap is reckoned -/
structure GapOk (n : Nat) (ls : List Link) (e : List Int) : Prop where
  inn : ∀ i, i < ls.length → (0 ≤ (gL ls i).f ∧ (gL ls i).f < n) ∧ (0 ≤ (gL ls i).t ∧ (gL ls i).t < n) ∧ (-200000 ≤ (gL ls i).d ∧ (gL ls i).d ≤ 200000)
  small : ∀ i, -10000000 ≤ gI e i ∧ gI e i ≤ 10000000
theorem gapOk_of {many : Int} {n : Nat} {ls : List Link} {e : List Int} (h : lsOk many ls = true) (hn : many = n) (he : ∀ i, i < e.length → -10000000 ≤ gI e i ∧ gI e i ≤ 10000000) : GapOk n ls e := by
  refine ⟨fun i hi => ?_, fun i => ?_⟩
  · have := lsOk_at h hi
    unfold lOk at this; omega
  · by_cases hi : i < e.length
    · exact he i hi
    · rw [gI_ge (by omega)]; omega



theorem linksGap_no {many : Int} {ls : List Link} {e : List Int} (h : ¬ (lsOk many ls = true ∧ (e.length : Int) = many ∧ eOk e)) : linksGap many ls e = -1 := if_neg h
theorem linksGap_yes {many : Int} {ls : List Link} {e : List Int} (h1 : lsOk many ls = true) (h2 : (e.length : Int) = many) (h3 : eOk e) : linksGap many ls e = gapF ls e := if_pos ⟨h1, h2, h3⟩


end Go.Proofs.Ytnlnelfncejcfaa
