/- An argument that is a slice of nodes, opened. -/
import Derived.Test.YtpkfpegilhadfabMtBase
import Derived.OpenShut
set_option linter.unusedVariables false
namespace Go.Proofs.Ytpkfpegilhadfab
open Go.RowKit Mt Go.ChangeShapes Go.WideShapes Go.Deep

theorem openNodes {H : Type} {enc : TypeId × Value → H} {W : World} {base : Nat} {spare : Nat → Bool} {held : Bool} {fuel : Nat} {A : Option Addr} {n c : Nat} {x : DataW H × List MemPlace}
    (h : DataW.trod enc Try.prog W base spare held fuel 44 (Value.slice A n c).cells.toList = some x) : ∃ ls, NSl W W.heap.size A n c ls := by
  rcases open_slice_fields Try.underlying44 Try.underlying84 (by kernel_rfl) (by kernel_rfl) h with ⟨hcs, _⟩ | ⟨a, len, cap, hcs, hl, hm, hi⟩
  · simp [Value.cells] at hcs
    obtain ⟨rfl, rfl, rfl⟩ := hcs
    exact ⟨[], NSl.nil _ _ _ _⟩
  · simp [Value.cells] at hcs
    obtain ⟨rfl, rfl, rfl⟩ := hcs
    have key : ∀ i, ∃ l : Nd, i < n → InN l ∧ W.cell? (a.add (i * 3)) = some (.int .i64 l.e) ∧ W.cell? (a.add (i * 3 + 1)) = some (.int .i64 l.j) ∧ W.cell? (a.add (i * 3 + 2)) = some (.bool l.o) := fun i => by
      by_cases hin : i < n
      · obtain ⟨v0, y0, m0, c0, t0⟩ := hi i hin 0 _ rfl
        obtain ⟨v1, y1, m1, c1, t1⟩ := hi i hin 1 _ rfl
        obtain ⟨v2, y2, m2, c2, t2⟩ := hi i hin 2 _ rfl
        obtain ⟨f, hf, _, wf⟩ := DataW.trod_int Try.underlying3 t0
        obtain ⟨t, ht, _, wt⟩ := DataW.trod_int Try.underlying3 t1
        obtain ⟨d, hd, _⟩ := DataW.trod_bool Try.underlying4 t2
        simp only [List.cons.injEq, and_true] at hf ht hd
        subst hf ht hd
        exact ⟨⟨f, t, d⟩, fun _ => ⟨⟨ini_of_wf wf, ini_of_wf wt⟩, c0, c1, c2⟩⟩
      · exact ⟨⟨0, 0, false⟩, fun h => absurd h hin⟩
    obtain ⟨F, hF⟩ : ∃ F : Nat → Nd, ∀ i, i < n → InN (F i) ∧ W.cell? (a.add (i * 3)) = some (.int .i64 (F i).e) ∧ W.cell? (a.add (i * 3 + 1)) = some (.int .i64 (F i).j) ∧ W.cell? (a.add (i * 3 + 2)) = some (.bool (F i).o) :=
      ⟨fun i => Classical.choose (key i), fun i => Classical.choose_spec (key i)⟩
    have hg : ∀ i, i < n → gN ((List.range n).map F) i = F i := fun i hin => by simp [gN, hin]
    refine ⟨(List.range n).map F, by simp, fun l hl' => ?_, ⟨hl, fun hn => ?_⟩, Nat.le_trans hl hm⟩
    · obtain ⟨i, hin, rfl⟩ := List.mem_map.1 hl'
      exact (hF i (by simpa using hin)).1
    · obtain ⟨b, off, spot⟩ := a
      have h0 := (hF 0 hn).2.1
      have hs : spot = none := by simpa [Addr.add] using World.cell?_spot h0
      subst hs
      have ea : ∀ q, (⟨b, off, none⟩ : Addr).add q = ⟨b, off + q, none⟩ := fun q => by unfold Addr.add; split <;> simp_all
      refine ⟨b, off, rfl, by have := cell_lt h0; rw [ea] at this; exact this, fun i j hin hj => ?_⟩
      obtain ⟨_, e0, e1, e2⟩ := hF i hin
      rw [ea] at e0 e1 e2
      unfold nodeV
      rw [hg i hin]
      match j, hj with
      | 0, _ => exact e0
      | 1, _ => rw [Nat.add_assoc]; exact e1
      | 2, _ => rw [Nat.add_assoc]; exact e2
end Go.Proofs.Ytpkfpegilhadfab
