/- A region that draws its order, whose operations read and whose calls only make memory of their own: one walk, in the text's order (the kit's theorem on quiet regions, at the class of the worlds that agree below a block). -/
import Derived.Test.YtpkfpegilhadfaaMem
import Derived.BigQuiet
import Derived.Deep.QuietTactic
namespace Go.Proofs.Ytpkfpegilhadfaa
open Go.RowKit

/-- a world that agrees with w below block B -/
structure Gw (B : Nat) (w : World) where
  W : World
  low : B ≤ w.heap.size
  bel : Below B w W
section
variable {P : Program} {B : Nat} {w0 w : World}
theorem Gw.cell (g : Gw B w0) {b o : Nat} {v : Option Value} (hb : b < B) (h : w0.cell? ⟨b, o, none⟩ = v) : g.W.cell? ⟨b, o, none⟩ = v := (bcell g.bel _ _ hb).trans h
theorem Gw.ne (hl : B ≤ w0.heap.size) (hb : Below B w0 w) : Nonempty (Gw B w0) := ⟨⟨w, hl, hb⟩⟩
theorem Gw.out {w' : World} (h : ∃ g : Gw B w0, w' = g.W) : Below B w0 w' := by obtain ⟨g, rfl⟩ := h; exact g.bel
theorem wp_region_gw {id : Nat} {Q : Exit → Act → World → Prop} {a : Act} {l : List Oper} (hl : B ≤ w0.heap.size) (hb : Below B w0 w) (hm : P.follows .mixedOrders = true) (hB : Region.lexB .any l.toArray = true)
    (h : wpQuiet P l.toArray (fun w' => ∃ g : Gw B w0, w' = g.W) (fun a' => ∀ w', (∃ g : Gw B w0, w' = g.W) → Q .normal a' w') l a) : (Code.region id l.toArray true).wp P Q a w :=
  wp_region_quiet (C := fun w' => ∃ g : Gw B w0, w' = g.W) hm hB ⟨⟨{ w with drawn := w.drawn + 1 }, hl, ⟨hb.os, hb.tape, hb.output, hb.size, hb.block⟩⟩, rfl⟩ (by simpa using h)
/-- a callee that makes memory of its own -/
theorem Gw.of {f : FuncId} {args : Array Value} {v : Value} {g : Gw B w0} (h : Calls P f args g.W fun e w'' => e = .returned v ∧ Below g.W.heap.size g.W w'') :
    Calls P f args g.W fun e w'' => e = .returned v ∧ ∃ g' : Gw B w0, w'' = g'.W :=
  h.mono fun _ _ ⟨he, hb⟩ => ⟨he, ⟨_, g.low, g.bel.trans (hb.mono (Nat.le_trans g.low g.bel.size))⟩, rfl⟩
/-- a callee that only reads -/
theorem Gw.same {f : FuncId} {args : Array Value} {v : Value} {g : Gw B w0} (h : Calls P f args g.W fun e w'' => e = .returned v ∧ g.W = w'') :
    Calls P f args g.W fun e w'' => e = .returned v ∧ ∃ g' : Gw B w0, w'' = g'.W :=
  h.mono fun _ _ ⟨he, hb⟩ => ⟨he, g, hb.symm⟩
end
theorem three_new (w : World) (a b c : Value) (t : TypeId) : (w.alloc (.cells #[a, b, c] t)).cell? ⟨w.heap.size, 0, none⟩ = some a ∧ (w.alloc (.cells #[a, b, c] t)).cell? ⟨w.heap.size, 1, none⟩ = some b ∧ (w.alloc (.cells #[a, b, c] t)).cell? ⟨w.heap.size, 2, none⟩ = some c := by
  refine ⟨?_, ?_, ?_⟩ <;> (rw [cell_of_row _ _ _ _ _ _ (heap_alloc_new w _)]; rfl)

theorem cell3_new (w : World) (a b c : Value) (t : TypeId) {B : Nat} (hB : w.heap.size = B) : ∀ (j : Nat) (u : Value), [a, b, c][j]? = some u → (w.alloc (.cells #[a, b, c] t)).cell? ((⟨B, 0, none⟩ : Addr).add j) = some u := by
  subst hB
  intro j u hu
  have ea : (⟨w.heap.size, 0, none⟩ : Addr).add j = ⟨w.heap.size, j, none⟩ := by unfold Addr.add; split <;> simp_all
  obtain ⟨h1, h2, h3⟩ := three_new w a b c t
  rw [ea]
  match j, hu with
  | 0, hu => rw [h1]; exact hu
  | 1, hu => rw [h2]; exact hu
  | 2, hu => rw [h3]; exact hu
  | (j + 3), hu => simp at hu
/- 'go_gw HL HB (tac)' in my templates is printed out by fill.py: HL: B ≤ the base world's size, HB: Below B (base world) (the region's world); tac closes a call by 'go_at_call N; exact Gw.of (..)'. Behind it: the world wq, and 'hq : Below B (base world) wq'. -/
end Go.Proofs.Ytpkfpegilhadfaa
