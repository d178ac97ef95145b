/- The walk of the law 'the program's PeakCenter returns what the reference's returns'. -/
import Derived.Test.YthogcokapppidabPkCenterNo
namespace Go.Proofs.Ythogcokapppidab
open Go.RowKit Pk

/-- a rational that lies in a block of its own -/
theorem rat_block {w w' : World} {g : Nat} {x y : Int} {t : TypeId} (h : w.heap[g]? = some (.cells #[.int .i64 x, .int .i64 y] t (0, 0))) (hb : w'.heap[g]? = w.heap[g]?) :
    w'.cell? ⟨g, 0, none⟩ = some (.int .i64 x) ∧ w'.cell? ⟨g, 1, none⟩ = some (.int .i64 y) := by
  have h' := hb.trans h
  exact ⟨(cell_of_row w' g 0 _ _ _ h').trans rfl, (cell_of_row w' g 1 _ _ _ h').trans rfl⟩

set_option maxHeartbeats 4000000 in
theorem fnExactPeakCenter_walk (A : Option Addr) (n c : Nat) (zs : List Int) (a g : Int) (w : World) (h : ISl w w.heap.size A n c zs) (_ : InI a) (_ : InI g) :
    Calls Try.prog 7 #[.slice A n c, .int .i64 a, .int .i64 g] w fun e w' => e = .returned (.bool true) ∧ Below w.heap.size w w' := by
  by_cases hbig : 1048576 < n
  · go_enter Try.func7, Try.ntmps7
    go_wp2
    go_ret
    exact ⟨rfl, Below.refl _ _⟩
  obtain ⟨x, y, b, hm⟩ := cenIs_ex zs a g
  go_enter Try.func7, Try.ntmps7
  go_wp2_with fail
  refine (toIntS_any _ _ _ _ _ h (by omega)).mono ?_
  rintro e w1 ⟨A1, c1, rfl, o1, hb1⟩
  have i1 := ISl.of_own o1 h.inI
  go_wp2_with fail
  refine (sPeakCenter_is _ _ _ _ a g x y b _ hm i1 (by omega)).mono ?_
  rintro e w2 ⟨rfl, hb2⟩
  have hT2 := Below.step hb1 hb2
  obtain ⟨O1, hO1⟩ : ∃ O, Obj.cells #[Value.int .i64 x, Value.int .i64 y] 32 = O := ⟨_, rfl⟩
  have ha2 := (Below.refl w2.heap.size w2).alloc (Nat.le_refl _) O1
  have hT2' := Below.step hT2 ha2
  have hn2 := heap_alloc_new w2 O1
  have hs2 : (w2.alloc O1).heap.size = w2.heap.size + 1 := by simp
  have hsz := hT2.size
  obtain ⟨w3, hw3⟩ : ∃ W, w2.alloc O1 = W := ⟨_, rfl⟩
  rw [hw3] at hT2' hn2 hs2
  rw [← hO1] at hn2 hw3
  have HS2 := Lib.hid hs2
  have hs2' : w2.heap.size < w3.heap.size := by omega
  clear hs2 hO1 ha2
  go_wp2_with fail
  clear hw3
  refine (toIntS_any _ _ _ _ _ ((h.below hT2').more hT2'.size) (by omega)).mono ?_
  rintro e w4 ⟨A4, c4, rfl, o4, hb4⟩
  have hT4 := Below.step hT2' hb4
  have hs4 := hb4.size
  have i4 := ISl.of_own o4 h.inI
  have hn4 := (hb4.block w2.heap.size (by omega)).trans hn2
  go_wp2_with fail
  refine (iPeakCenter_is _ _ _ _ a g x y b _ hm i4 (by omega)).mono ?_
  rintro e w5 ⟨rfl, hb5⟩
  have hT5 := Below.step hT4 hb5
  have hs5 := hb5.size
  have i5 := (i4.below hb5).more hs5
  have hn5 := (hb5.block w2.heap.size (by omega)).trans hn4
  have c51 := (rat_block hn5 rfl).1
  have c52 := (rat_block hn5 rfl).2
  have hlt : w2.heap.size < w5.heap.size := by omega
  have HLT := Lib.hid hlt
  clear i4 hn2 hn4
  go_wp2_with fail
  refine (eqRat_same x y _).mono ?_
  rintro e w6 ⟨rfl, hb6⟩
  have hb56 : Below w5.heap.size w5 w6 := ((Below.refl _ _).alloc (Nat.le_refl _) _).trans (hb6.mono (by simp))
  have hT6 := Below.step hT5 hb56
  have i6 := (i5.below hb56).more hb56.size
  have hbb : (b != b) = false := by simp
  clear hb6
  go_wp2_with fail
  refine (toIntS_any _ _ _ _ _ ((h.below hT6).more hT6.size) (by omega)).mono ?_
  rintro e w7 ⟨A7, c7, rfl, o7, hb7⟩
  have hT7 := Below.step hT6 hb7
  have i7 := ISl.of_own o7 h.inI
  have j7 := (i6.below hb7).more hb7.size
  go_wp2_with fail
  refine (eqIntS_same _ _ _ _ _ _ _ _ j7 i7 (by omega)).mono ?_
  rintro e w8 ⟨rfl, hb8⟩
  go_wp2
  go_ret
  exact ⟨rfl, Below.step hT7 hb8⟩
end Go.Proofs.Ythogcokapppidab
