/- Contracts of RatLess at fractions of natural numbers, and of cmp.Compare at int. -/
import Derived.Test.YtddchlfhjiimcaaRat
namespace Go.Proofs.Ytddchlfhjiimcaa
open Go.RowKit

/-- what Compare returns -/
def cmpI (a b : Int) : Int := if a < b then -1 else if b < a then 1 else 0
set_option maxHeartbeats 1000000 in
theorem compare_any (a b : Int) (w : World) :
    Calls Try.prog 31 #[.int .i64 a, .int .i64 b] w fun e w' => e = .returned (.int .i64 (cmpI a b)) ∧ w = w' := by
  have h1 : (a != a) = false := by simp
  have h2 : (b != b) = false := by simp
  by_cases h : a < b
  · have HC : Hid (cmpI a b = -1) := by show cmpI a b = -1; unfold cmpI; rw [if_pos h]
    go_enter Try.func31, Try.ntmps31
    go_wp2
    go_ret
    exact ⟨ret_int HC.out.symm, rfl⟩
  · by_cases h' : b < a
    · have HC : Hid (cmpI a b = 1) := by show cmpI a b = 1; unfold cmpI; rw [if_neg h, if_pos h']
      go_enter Try.func31, Try.ntmps31
      go_wp2
      go_ret
      exact ⟨ret_int HC.out.symm, rfl⟩
    · have HC : Hid (cmpI a b = 0) := by show cmpI a b = 0; unfold cmpI; rw [if_neg h, if_neg h']
      go_enter Try.func31, Try.ntmps31
      go_wp2
      go_ret
      exact ⟨ret_int HC.out.symm, rfl⟩

set_option maxHeartbeats 1000000 in
theorem ratCompare_nat (a b c e : Nat) (w : World) (ha : a ≤ 1000000000) (hb : b ≤ 1000000000) (hc : c ≤ 1000000000) (he : e ≤ 1000000000) :
    Calls Try.prog 28 #[.agg #[.int .i64 (a : Int), .int .i64 (b : Int)], .agg #[.int .i64 (c : Int), .int .i64 (e : Int)]] w fun r w' => r = .returned (.int .i64 (cmpI ((a * e : Nat) : Int) ((c * b : Nat) : Int))) ∧ Below w.heap.size w w' := by
  have p1 : a * e ≤ 1000000000 * 1000000000 := Nat.mul_le_mul ha he
  have p2 : c * b ≤ 1000000000 * 1000000000 := Nat.mul_le_mul hc hb
  have e1 : (a : Int) * (e : Int) = ((a * e : Nat) : Int) := by simp
  have e2 : (c : Int) * (b : Int) = ((c * b : Nat) : Int) := by simp
  have m1 : 0 ≤ (a : Int) * (e : Int) ∧ (a : Int) * (e : Int) ≤ 1000000000000000000 := by rw [e1]; omega
  have m2 : 0 ≤ (c : Int) * (b : Int) ∧ (c : Int) * (b : Int) ≤ 1000000000000000000 := by rw [e2]; omega
  obtain ⟨m3, m4⟩ := m1
  obtain ⟨m5, m6⟩ := m2
  have E1 := Lib.hid e1
  have E2 := Lib.hid e2
  clear e1 e2 p1 p2
  go_enter Try.func28, Try.ntmps28
  go_wp2_with fail
  refine (compare_any _ _ _).mono ?_
  rintro r w1 ⟨rfl, rfl⟩
  go_wp2
  go_ret
  exact ⟨ret_int (by rw [← E1.out, ← E2.out]), ((Below.refl _ _).alloc (Nat.le_refl _) _).alloc (by simp) _⟩

set_option maxHeartbeats 2000000 in
theorem ratLess_no (a b c e : Nat) (w : World) (h1 : ratV a b = true) (h2 : ratV c e = true) (hle : c * b ≤ a * e) :
    Calls Try.prog 16 #[.agg #[.int .i64 (a : Int), .int .i64 (b : Int)], .agg #[.int .i64 (c : Int), .int .i64 (e : Int)]] w fun r w' => r = .returned (.bool false) ∧ Below w.heap.size w w' := by
  have q1 := ratV_parts h1
  have q2 := ratV_parts h2
  have hx : Hid (¬ cmpI ((a * e : Nat) : Int) ((c * b : Nat) : Int) < 0) := by
    show ¬ _
    unfold cmpI
    split
    · omega
    · split <;> omega
  obtain ⟨X, hX⟩ : ∃ X, cmpI ((a * e : Nat) : Int) ((c * b : Nat) : Int) = X := ⟨_, rfl⟩
  have hcon : ∀ W : World, Calls Try.prog 28 #[.agg #[.int .i64 (a : Int), .int .i64 (b : Int)], .agg #[.int .i64 (c : Int), .int .i64 (e : Int)]] W fun r w' => r = .returned (.int .i64 X) ∧ Below W.heap.size W w' := by
    intro W; rw [← hX]; exact ratCompare_nat a b c e W (by omega) (by omega) (by omega) (by omega)
  have HC := Lib.hid hcon
  have hx0 : 0 ≤ X := by have := hx.out; rw [hX] at this; omega
  have HV1 := Lib.hid h1
  have HV2 := Lib.hid h2
  clear hX hcon hle h1 h2 hx
  go_enter Try.func16, Try.ntmps16
  go_wp2_with fail
  refine (iRatValid_nat a b _ (by omega) (by omega)).mono ?_
  rintro r w1 ⟨rfl, hb1⟩
  rw [HV1.out]
  have hq1 : w1.heap[w.heap.size]? = some (.cells #[.int .i64 (a : Int), .int .i64 (b : Int)] 32 (0, 0)) := by
    rw [hb1.block w.heap.size (by simp <;> omega)]
    exact two_heap1 w 0 _ _ _
  have hq2 : w1.heap[w.heap.size + 1]? = some (.cells #[.int .i64 (c : Int), .int .i64 (e : Int)] 32 (0, 0)) := by
    rw [hb1.block (w.heap.size + 1) (by simp <;> omega)]
    exact two_heap2 w 0 _ _ _
  have c1 : w1.cell? ⟨w.heap.size, 0, none⟩ = some (.int .i64 (a : Int)) := (cell_of_row w1 _ 0 _ _ _ hq1).trans rfl
  have c2 : w1.cell? ⟨w.heap.size, 1, none⟩ = some (.int .i64 (b : Int)) := (cell_of_row w1 _ 1 _ _ _ hq1).trans rfl
  have c3 : w1.cell? ⟨w.heap.size + 1, 0, none⟩ = some (.int .i64 (c : Int)) := (cell_of_row w1 _ 0 _ _ _ hq2).trans rfl
  have c4 : w1.cell? ⟨w.heap.size + 1, 1, none⟩ = some (.int .i64 (e : Int)) := (cell_of_row w1 _ 1 _ _ _ hq2).trans rfl
  have hB1 : Below w.heap.size w w1 := (two_below w 0 _ _ _ _).trans (hb1.mono (B' := w.heap.size) (by simp <;> omega))
  have hs1 : w.heap.size + 2 ≤ w1.heap.size := by have := hb1.size; simpa using this
  clear hb1
  go_wp2_with fail
  refine (iRatValid_nat c e _ (by omega) (by omega)).mono ?_
  rintro r w2 ⟨rfl, hb2⟩
  rw [HV2.out]
  have hq1' := (hb2.block w.heap.size (by omega)).trans hq1
  have hq2' := (hb2.block (w.heap.size + 1) (by omega)).trans hq2
  have d1 : w2.cell? ⟨w.heap.size, 0, none⟩ = some (.int .i64 (a : Int)) := (cell_of_row w2 _ 0 _ _ _ hq1').trans rfl
  have d2 : w2.cell? ⟨w.heap.size, 1, none⟩ = some (.int .i64 (b : Int)) := (cell_of_row w2 _ 1 _ _ _ hq1').trans rfl
  have d3 : w2.cell? ⟨w.heap.size + 1, 0, none⟩ = some (.int .i64 (c : Int)) := (cell_of_row w2 _ 0 _ _ _ hq2').trans rfl
  have d4 : w2.cell? ⟨w.heap.size + 1, 1, none⟩ = some (.int .i64 (e : Int)) := (cell_of_row w2 _ 1 _ _ _ hq2').trans rfl
  have hB2 := Below.step hB1 hb2
  clear hb2 hq1 hq2 hq1' hq2' c1 c2 c3 c4
  go_wp2_with fail
  refine (HC.out _).mono ?_
  rintro r w3 ⟨rfl, hb3⟩
  have hxx : ¬ X < 0 := by omega
  go_wp2
  go_ret
  exact ⟨ret_bool (by simp; omega), Below.step hB2 hb3⟩
end Go.Proofs.Ytddchlfhjiimcaa
