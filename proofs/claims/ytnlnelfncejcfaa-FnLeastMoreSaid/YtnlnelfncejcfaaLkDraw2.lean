/- Contracts of the reference's draws of links, with what goes beside them. -/
import Derived.Test.YtnlnelfncejcfaaLkDraw
set_option linter.unusedVariables false
namespace Go.Proofs.Ytnlnelfncejcfaa
open Go.RowKit Lk

/-- links that a draw hands out -/
structure LinksD (w w' : World) (many : Nat) (A : Option Addr) (m c : Nat) (ls : List Link) : Prop where
  pos : 1 ≤ many
  six : many ≤ 6
  few : m ≤ 9
  own : LOwn w' w.heap.size 28 (.slice A m c) m ls
  small : ∀ l ∈ ls, Sz 300000 l
theorem LinksD.inL {w w' : World} {many : Nat} {A : Option Addr} {m c : Nat} {ls : List Link} (h : LinksD w w' many A m c ls) : ∀ l ∈ ls, InL l := fun l hl => (h.small l hl).inL (by omega)
/-- a draw's result: links -/
def DrawnL (w : World) (e : Ending) (w' : World) : Prop := ∃ (many : Nat) (A : Option Addr) (m c : Nat) (ls : List Link), e = .returned (.tuple #[.int .i64 (many : Int), .slice A m c]) ∧ LinksD w w' many A m c ls ∧ Below w.heap.size w w'
/-- .. and a tolerance -/
def DrawnLT (w : World) (e : Ending) (w' : World) : Prop := ∃ (many : Nat) (A : Option Addr) (m c : Nat) (ls : List Link) (tol : Int), e = .returned (.tuple #[.int .i64 (many : Int), .slice A m c, .int .i64 tol]) ∧ LinksD w w' many A m c ls ∧ (-1 ≤ tol ∧ tol ≤ 200001) ∧ Below w.heap.size w w'
/-- .. and energies -/
def DrawnLE (w : World) (e : Ending) (w' : World) : Prop := ∃ (many : Nat) (A : Option Addr) (m c : Nat) (ls : List Link) (A2 : Option Addr) (m2 c2 : Nat) (es : List Int), e = .returned (.tuple #[.int .i64 (many : Int), .slice A m c, .slice A2 m2 c2]) ∧ LinksD w w' many A m c ls ∧
  w'.ownsRow w.heap.size 3 1 (.slice A2 m2 c2) m2 (es.map (Value.int .i64)) ∧ m2 ≤ 7 ∧ (∀ z ∈ es, -10000001 ≤ z ∧ z ≤ 10000001) ∧ Below w.heap.size w w'

theorem three_cells' {y : Int} (hy : Picked 3 y) (a b c : Int) (t : TypeId) : ∃ x, Hid (x = a ∨ x = b ∨ x = c) ∧ 0 ≤ y ∧ y < 3 ∧
    (∀ W : World, (W.alloc (.cells #[.int .i64 a, .int .i64 b, .int .i64 c] t)).cell? ⟨W.heap.size, y.toNat, none⟩ = some (.int .i64 x)) ∧
    ∀ (W : World) (k : Nat), W.heap[k]? = some (.cells #[.int .i64 a, .int .i64 b, .int .i64 c] t (0, 0)) → W.cell? ⟨k, y.toNat, none⟩ = some (.int .i64 x) := by
  have h := hy.1 (by omega)
  obtain rfl | rfl | rfl : y = 0 ∨ y = 1 ∨ y = 2 := by omega
  · exact ⟨a, .inl rfl, h.1, h.2, fun W => (cell_of_row _ _ _ _ _ _ (heap_alloc_new W _)).trans rfl, fun W k hk => (cell_of_row _ _ _ _ _ _ hk).trans rfl⟩
  · exact ⟨b, .inr (.inl rfl), h.1, h.2, fun W => (cell_of_row _ _ _ _ _ _ (heap_alloc_new W _)).trans rfl, fun W k hk => (cell_of_row _ _ _ _ _ _ hk).trans rfl⟩
  · exact ⟨c, .inr (.inr rfl), h.1, h.2, fun W => (cell_of_row _ _ _ _ _ _ (heap_alloc_new W _)).trans rfl, fun W k hk => (cell_of_row _ _ _ _ _ _ hk).trans rfl⟩
theorem rd_alloc {w : World} {g p : Nat} (h : Rd w g p) (o : Obj) : Rd (w.alloc o) g p := h.below ((Below.refl _ _).alloc (Nat.le_refl _) _) h.lt

theorem two_cells' {y : Int} (hy : Picked 2 y) (a b : Int) (t : TypeId) : ∃ x, Hid (x = a ∨ x = b) ∧ 0 ≤ y ∧ y < 2 ∧
    ∀ (W : World) (k : Nat), W.heap[k]? = some (.cells #[.int .i64 a, .int .i64 b] t (0, 0)) → W.cell? ⟨k, y.toNat, none⟩ = some (.int .i64 x) := by
  have h := hy.1 (by omega)
  obtain rfl | rfl : y = 0 ∨ y = 1 := by omega
  · exact ⟨a, .inl rfl, h.1, h.2, fun W k hk => (cell_of_row _ _ _ _ _ _ hk).trans rfl⟩
  · exact ⟨b, .inr rfl, h.1, h.2, fun W k hk => (cell_of_row _ _ _ _ _ _ hk).trans rfl⟩
theorem grown_below' {w a b : World} {g B : Nat} (h : w.grownBy a (some g)) (hb : Below B a b) (hB : g < B) (hB2 : w.heap.size ≤ B) : w.grownBy b (some g) :=
  ⟨hb.os.trans h.os, hb.tape.trans h.tape, hb.output.trans h.output, Nat.le_trans h.size hb.size, fun k hk hne => (hb.block k (by omega)).trans (h.block k hk hne)⟩


end Go.Proofs.Ytnlnelfncejcfaa
