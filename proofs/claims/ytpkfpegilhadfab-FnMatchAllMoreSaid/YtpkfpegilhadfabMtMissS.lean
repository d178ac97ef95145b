/- The walks of the reference's l33Has and MatchMissing. -/
import Derived.Test.YtpkfpegilhadfabMtAllI
set_option linter.unusedVariables false
namespace Go.Proofs.Ytpkfpegilhadfab
open Go.RowKit Lk Mt

theorem has_yes {zs : List Int} {x : Int} {k : Nat} (hk : k < zs.length) (h : gI zs k = x) : zs.contains x = true := by
  rw [List.contains_iff_mem, ← h]; exact gI_mem hk
theorem has_no {zs : List Int} {x : Int} (h : ∀ j, j < zs.length → gI zs j ≠ x) : zs.contains x = false := by
  rcases hc : zs.contains x with _ | _
  · rfl
  · rw [List.contains_iff_mem] at hc
    obtain ⟨i, hi, e⟩ := List.getElem_of_mem hc
    exact absurd (by rw [gI_lt hi]; exact e) (h i hi)
/-- what MatchMissing leaves -/
def MissRes (s : List Nd) (zs : List Int) (tol : Int) (w : World) (e : Ending) (w' : World) : Prop :=
  ∃ (A : Option Addr) (m c : Nat), e = .returned (.tuple #[.slice A m c, .bool (allOk s zs tol)]) ∧ w'.ownsRow w.heap.size 3 1 (.slice A m c) m ((matchMissing s zs tol).map (Value.int .i64)) ∧ Below w.heap.size w w'
theorem missRes_no {s : List Nd} {zs : List Int} {tol : Int} {w w' : World} {e : Ending} {A : Option Addr} {m c : Nat} (h : allOk s zs tol = false) (he : e = .returned (.tuple #[.slice A m c, .bool false])) (ho : w'.ownsRow w.heap.size 3 1 (.slice A m c) m []) (hb : Below w.heap.size w w') : MissRes s zs tol w e w' :=
  ⟨A, m, c, by rw [h]; exact he, by unfold matchMissing; rw [h]; exact ho, hb⟩
theorem missRes_yes {s : List Nd} {zs : List Int} {tol : Int} {w w' : World} {e : Ending} {A : Option Addr} {m c : Nat} (h : allOk s zs tol = true) (he : e = .returned (.tuple #[.slice A m c, .bool true])) (ho : w'.ownsRow w.heap.size 3 1 (.slice A m c) m ((miss (allL (lines s) zs tol) (lines s).length).map (Value.int .i64))) (hb : Below w.heap.size w w') : MissRes s zs tol w e w' :=
  ⟨A, m, c, by rw [h]; exact he, by unfold matchMissing; rw [h]; exact ho, hb⟩
theorem allL_inI (L : List Line) (zs : List Int) (tol : Int) (h : L.length ≤ 144) : ∀ z ∈ allL L zs tol, InI z := by
  intro z hz
  obtain ⟨x, _, rfl⟩ := List.mem_map.1 hz
  have := bestL_bd L x tol
  unfold InI; omega
def MRel (best : List Int) (N : Nat) (B : Nat) (W : World) (o i : Value) (wr : World) : Prop :=
  ∃ (k : Nat) (A : Option Addr) (c : Nat), k ≤ N ∧ i = .int .i64 k ∧ o = .slice A (miss best k).length c ∧ wr.ownsRow B 3 1 (.slice A (miss best k).length c) (miss best k).length ((miss best k).map (Value.int .i64)) ∧ Below W.heap.size W wr
end Go.Proofs.Ytpkfpegilhadfab
