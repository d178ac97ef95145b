/- The contract of the reference's draw of numbers and a width. -/
import Derived.Test.YtpfbjpognmjmmaaBlImplN
import Derived.Test.YtpfbjpognmjmmaaBlHelp
set_option linter.unusedVariables false
namespace Go.Proofs.Ytpfbjpognmjmmaa
open Go.RowKit Bl

theorem two_cellsB {y : Int} (hy : Picked 2 y) (a b : Int) (t : TypeId) : ∃ x, Hid (x = a ∨ x = b) ∧ 0 ≤ y ∧ y < 2 ∧
    (∀ W : World, (W.alloc (.cells #[.int .i64 a, .int .i64 b] t)).cell? ⟨W.heap.size, y.toNat, none⟩ = some (.int .i64 x)) ∧
    ∀ (W : World) (k : Nat), W.heap[k]? = some (.cells #[.int .i64 a, .int .i64 b] t (0, 0)) → W.cell? ⟨k, y.toNat, none⟩ = some (.int .i64 x) := by
  have h := hy.1 (by omega)
  obtain rfl | rfl : y = 0 ∨ y = 1 := by omega
  · exact ⟨a, .inl rfl, h.1, h.2, fun W => (cell_of_row _ _ _ _ _ _ (heap_alloc_new W _)).trans rfl, fun W k hk => (cell_of_row _ _ _ _ _ _ hk).trans rfl⟩
  · exact ⟨b, .inr rfl, h.1, h.2, fun W => (cell_of_row _ _ _ _ _ _ (heap_alloc_new W _)).trans rfl, fun W k hk => (cell_of_row _ _ _ _ _ _ hk).trans rfl⟩
theorem rd_drewB {w : World} {g p : Nat} (h : Rd w g p) : Rd w.drew g p := (rd_drewN (k := 1) ⟨h, World.grownBy.refl w _⟩).1
theorem rd_allocB {w : World} {g p : Nat} (h : Rd w g p) (o : Obj) : Rd (w.alloc o) g p := h.below ((Below.refl _ _).alloc (Nat.le_refl _) _) h.lt
def DrawnW (w : World) (e : Ending) (w' : World) : Prop := ∃ A m c zs wd, e = .returned (.tuple #[.slice A m c, .int .i64 wd]) ∧ Drawn w w' A m c zs ∧ (-1 ≤ wd ∧ wd ≤ 200000) ∧ Below w.heap.size w w'
set_option maxHeartbeats 2000000 in
theorem DrawBlendsOf_any (A : Option Addr) (n c : Nat) (bs : List Int) (w : World) (h : BSl w w.heap.size A n c bs) (hn : n ≤ 16777216) :
    Calls Try.prog 28 #[.slice A n c] w (DrawnW w) := by
  go_enter Try.func28, Try.ntmps28
  go_wp2_with fail
  refine (l6Open_any _ _ _ _ _ h hn).mono ?_
  rintro e w1 ⟨rfl, hR1, hs1, hb1⟩
  go_wp2_with fail
  refine (l93Numbers_any _ _ _ hR1 (by omega)).mono ?_
  rintro e w2 ⟨A2, m, c2, zs, p2, rfl, hD, hp2, hR2, hG2⟩
  have hglt : w.heap.size < w1.heap.size := by omega
  have hm := hD.few
  go_wp2_with fail
  refine (pick_any _ _ _ _ hR2 (by omega)).mono ?_
  rintro e w3 ⟨y, rfl, hy, hR3, hG3⟩
  have hO3 := own_keep hD.own hG3 hglt
  have hG3' := hG2.trans hG3
  have hs3 := hG3'.size
  by_cases hy0 : y = 0
  · have hy0' : (y == 0) = true := by simpa using hy0
    clear hy0 hy
    go_wp2_with fail
    go_region_with (first | (go_at_call 40; ((with_reducible refine (pick_any _ _ _ _ (rd_drewB hR3) (by omega)).mono ?_); rintro e w4 ⟨q, rfl, hq, hR4, hG4⟩); obtain ⟨x, hx, hq0, hq1, hcA, hcB⟩ := two_cellsB hq (-1) 200000 3; clear hcB) | (go_at_call 40; ((with_reducible refine (pick_any _ _ _ _ (rd_drewB (rd_allocB hR3 _)) (by omega)).mono ?_); rintro e w4 ⟨q, rfl, hq, hR4, hG4⟩); obtain ⟨x, hx, hq0, hq1, hcA, hcB⟩ := two_cellsB hq (-1) 200000 3; have hcD := hcB w4 w3.heap.size ((hG4.block w3.heap.size (by simp) (by intro he; injection he; have := hG3'.size; omega)).trans (heap_alloc_new w3 _)); clear hcA hcB))
    all_goals
      go_wp2
      go_ret2
      first
        | exact ⟨A2, m, c2, zs, x, rfl, ⟨own_base ((own_keep (own_drew hO3) hG4 hglt).alloc _) (by omega), hm, hD.inI⟩, ⟨by rcases hx.out with h | h <;> omega, by rcases hx.out with h | h <;> omega⟩, hb1.trans (below_of_grown (grown_alloc ((grown_drew hG3').trans hG4) _) (Nat.le_refl _) (by omega))⟩
        | exact ⟨A2, m, c2, zs, x, rfl, ⟨own_base (own_keep (own_drew (hO3.alloc _)) hG4 hglt) (by omega), hm, hD.inI⟩, ⟨by rcases hx.out with h | h <;> omega, by rcases hx.out with h | h <;> omega⟩, hb1.trans (below_of_grown ((grown_drew (grown_alloc hG3' _)).trans hG4) (Nat.le_refl _) (by omega))⟩
  · have hy0' : (y == 0) = false := by simpa using hy0
    clear hy0 hy
    go_wp2_with fail
    refine (pick_any _ _ _ _ hR3 (by omega)).mono ?_
    rintro e w4 ⟨q, rfl, hq, hR4, hG4⟩
    have hO4 := own_keep hO3 hG4 hglt
    have hG4' := hG3'.trans hG4
    have hqb := hq.1 (by omega)
    go_wp2
    go_ret2
    exact ⟨A2, m, c2, zs, q, rfl, ⟨own_base hO4 (by omega), hm, hD.inI⟩, ⟨by omega, by omega⟩, hb1.trans (below_of_grown hG4' (Nat.le_refl _) (by omega))⟩
end Go.Proofs.Ytpfbjpognmjmmaa
