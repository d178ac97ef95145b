/- The contract of the reference's round of bounds. -/
import Derived.Test.YtpkfpegilhadfaaLkGap
import Derived.Test.YtpkfpegilhadfaaLkRelP
import Derived.Deep.DeepCutAuto
set_option linter.unusedVariables false
namespace Go.Proofs.Ytpkfpegilhadfaa
open Go.RowKit Lk

theorem grown_cells {w w' : World} {g b off : Nat} (hG : w.grownBy w' (some g)) (hb : b < g) (hg : g < w.heap.size) : w'.cell? ⟨b, off, none⟩ = w.cell? ⟨b, off, none⟩ :=
  World.cell?_of_block (hG.block b (by omega) (fun e => by injection e; omega))
/-- x is a struct in block gx -/
def Box3 (w : World) (gx : Nat) (l : Link) : Prop := w.cell? ⟨gx, 0, none⟩ = some (.int .i64 l.f) ∧ w.cell? ⟨gx, 1, none⟩ = some (.int .i64 l.t) ∧ w.cell? ⟨gx, 2, none⟩ = some (.int .i64 l.d)

theorem grown_drewN {w a : World} {row : Option Nat} (h : w.grownBy a row) (n : Nat) : w.grownBy (a.drewN n) row := ⟨h.os, h.tape, h.output, h.size, h.block⟩
theorem box3_new (w : World) (l : Link) (t : TypeId) (k : Nat) : Box3 ((w.alloc (.cells #[.int .i64 l.f, .int .i64 l.t, .int .i64 l.d] t)).drewN k) w.heap.size l :=
  ⟨(cell_of_row (w.alloc _) _ 0 _ _ _ (heap_alloc_new w _)).trans rfl, (cell_of_row (w.alloc _) _ 1 _ _ _ (heap_alloc_new w _)).trans rfl, (cell_of_row (w.alloc _) _ 2 _ _ _ (heap_alloc_new w _)).trans rfl⟩
theorem box3_set {w : World} {gx g : Nat} {l : Link} (h : Box3 w gx l) (hne : g ≠ gx) (i : Nat) (u : Value) : Box3 (w.setCell ⟨g, i, none⟩ u) gx l :=
  have k : ∀ j, (w.setCell ⟨g, i, none⟩ u).cell? ⟨gx, j, none⟩ = w.cell? ⟨gx, j, none⟩ := fun j => World.cell?_setCell_other w _ _ _ (by intro e; injection e; omega)
  ⟨(k 0).trans h.1, (k 1).trans h.2.1, (k 2).trans h.2.2⟩
end Go.Proofs.Ytpkfpegilhadfaa
