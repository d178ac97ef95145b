/- The center of a mirror: plain sums; the sum of two fractions. -/
import Derived.Test.YtddchlfhjiimcaaPkHelp
import Derived.Test.YtddchlfhjiimcaaPkCenterNo
namespace Go.Proofs.Ytddchlfhjiimcaa
open Go.RowKit Pk

theorem tS_front (f : Nat → Nat) {a b : Nat} (h : a < b) : tS f a b = f a + tS f (a + 1) b := by
  induction b with
  | zero => omega
  | succ b ih =>
    rw [tS_step f (by omega)]
    by_cases e : a = b
    · subst e
      rw [tS_lo f (Nat.le_refl _), tS_lo f (Nat.le_refl _)]; omega
    · rw [ih (by omega), tS_step f (by omega)]; omega
theorem wS_front (f : Nat → Nat) {a b : Nat} (h : a < b) : wS f a b = a * f a + wS f (a + 1) b := by
  induction b with
  | zero => omega
  | succ b ih =>
    rw [wS_step f (by omega)]
    by_cases e : a = b
    · subst e
      rw [wS_lo f (Nat.le_refl _), wS_lo f (Nat.le_refl _)]; omega
    · rw [ih (by omega), wS_step f (by omega)]; omega
theorem sum_mirror {f f' : Nat → Nat} {m : Nat} (hf : ∀ i, i < m → f' i = f (m - 1 - i)) (lo : Nat) (n : Nat) (h : lo + n ≤ m) :
    tS f' (m - (lo + n)) (m - lo) = tS f lo (lo + n) ∧ wS f' (m - (lo + n)) (m - lo) + wS f lo (lo + n) = (m - 1) * tS f lo (lo + n) := by
  induction n with
  | zero =>
    rw [Nat.add_zero, tS_lo _ (Nat.le_refl _), tS_lo _ (Nat.le_refl _), wS_lo _ (Nat.le_refl _), wS_lo _ (Nat.le_refl _)]
    exact ⟨rfl, by simp⟩
  | succ n ih =>
    obtain ⟨h1, h2⟩ := ih (by omega)
    have e : m - (lo + (n + 1)) + 1 = m - (lo + n) := by omega
    have hv : f' (m - (lo + (n + 1))) = f (lo + n) := by
      rw [hf _ (by omega)]
      congr 1; omega
    have hk : m - (lo + (n + 1)) + (lo + n) = m - 1 := by omega
    rw [tS_front f' (show m - (lo + (n + 1)) < m - lo by omega), wS_front f' (show m - (lo + (n + 1)) < m - lo by omega), e, hv, h1, ← Nat.add_assoc, tS_step f (show lo ≤ lo + n by omega), wS_step f (show lo ≤ lo + n by omega)]
    refine ⟨by omega, ?_⟩
    have hk2 : m - (lo + n + 1) + (lo + n) = m - 1 := by omega
    have e5 : (m - 1) * f (lo + n) = (m - (lo + n + 1)) * f (lo + n) + (lo + n) * f (lo + n) := by rw [← Nat.add_mul, hk2]
    rw [Nat.mul_add, ← h2, e5]
    omega
theorem cen_mirror {zs : List Int} {k q : Nat} (hk : k < zs.length) :
    cT zs.reverse (zs.length - 1 - k) q = cT zs k q ∧ cW zs.reverse (zs.length - 1 - k) q + cW zs k q = (zs.length - 1) * cT zs k q := by
  have hh := cHi_le (k := k) (h := q) (n := zs.length) hk
  have hl := @cLo_le k q
  have hf : ∀ i, i < zs.length → cN zs.reverse i = cN zs (zs.length - 1 - i) := fun i hi => by unfold cN; rw [g_rev hi]
  have key := sum_mirror hf (cLo k q) (cHi k q zs.length - cLo k q) (by omega)
  have e1 : cLo k q + (cHi k q zs.length - cLo k q) = cHi k q zs.length := by omega
  rw [e1] at key
  have e2 : cLo (zs.length - 1 - k) q = zs.length - cHi k q zs.length := by unfold cLo cHi; split <;> omega
  have e3 : cHi (zs.length - 1 - k) q zs.length = zs.length - cLo k q := by unfold cLo cHi; split <;> omega
  unfold cT cW
  rw [List.length_reverse, e2, e3]
  exact key
theorem ratOf_sum {W W' T M p d p' d' : Nat} (h1 : ratOf W T = some (p, d)) (h2 : ratOf W' T = some (p', d')) (hs : W' + W = M * T) (hM : M ≤ 1000) : ratOf (p' * d + p * d') (d' * d) = some (M, 1) := by
  obtain ⟨hT, e1, e2, v1⟩ := ratOf_some h1
  obtain ⟨_, e3, e4, v2⟩ := ratOf_some h2
  obtain ⟨q1, _, _, _⟩ := ratV_parts v1
  obtain ⟨q2, _, _, _⟩ := ratV_parts v2
  have g1 : 0 < Nat.gcd W T := Nat.gcd_pos_of_pos_right _ (by omega)
  have g2 : 0 < Nat.gcd W' T := Nat.gcd_pos_of_pos_right _ (by omega)
  have p1 : p * Nat.gcd W T = W := by rw [e1]; exact Nat.div_mul_cancel (Nat.gcd_dvd_left _ _)
  have p2 : d * Nat.gcd W T = T := by rw [e2]; exact Nat.div_mul_cancel (Nat.gcd_dvd_right _ _)
  have p3 : p' * Nat.gcd W' T = W' := by rw [e3]; exact Nat.div_mul_cancel (Nat.gcd_dvd_left _ _)
  have p4 : d' * Nat.gcd W' T = T := by rw [e4]; exact Nat.div_mul_cancel (Nat.gcd_dvd_right _ _)
  generalize Nat.gcd W T = g at *
  generalize Nat.gcd W' T = g' at *
  have hD : 0 < d' * d := Nat.mul_pos (by omega) (by omega)
  have hsum : p' * d + p * d' = M * (d' * d) := by
    have hgg : 0 < g * g' := Nat.mul_pos g1 g2
    refine Nat.eq_of_mul_eq_mul_right hgg ?_
    have a1 : (p' * d + p * d') * (g * g') = (p' * g') * (d * g) + (p * g) * (d' * g') := by
      rw [Nat.add_mul]
      congr 1
      · ac_rfl
      · ac_rfl
    have a2 : M * (d' * d) * (g * g') = M * ((d' * g') * (d * g)) := by ac_rfl
    rw [a1, a2, p1, p2, p3, p4, ← Nat.add_mul, hs, Nat.mul_assoc]
  rw [hsum]
  have hg : Nat.gcd (M * (d' * d)) (d' * d) = d' * d := Nat.gcd_eq_right ⟨M, by rw [Nat.mul_comm]⟩
  have hr : ratV M 1 = true := by unfold ratV; simp; omega
  unfold ratOf
  rw [if_neg (by omega), hg, Nat.mul_div_cancel _ hD, Nat.div_self hD, if_pos hr]
set_option maxHeartbeats 2000000 in
theorem ratAdd_some (a b c e x y : Nat) (w : World) (h1 : ratV a b = true) (h2 : ratV c e = true) (h : ratOf (a * e + c * b) (b * e) = some (x, y)) :
    Calls Try.prog 14 #[.agg #[.int .i64 (a : Int), .int .i64 (b : Int)], .agg #[.int .i64 (c : Int), .int .i64 (e : Int)]] w fun r w' => r = .returned (.tuple #[.agg #[.int .i64 (x : Int), .int .i64 (y : Int)], .bool true]) ∧ Below w.heap.size w w' := by
  have q1 := ratV_parts h1
  have q2 := ratV_parts h2
  obtain ⟨P1, hP1⟩ : ∃ P, a * e = P := ⟨_, rfl⟩
  obtain ⟨P2, hP2⟩ : ∃ P, c * b = P := ⟨_, rfl⟩
  obtain ⟨P3, hP3⟩ : ∃ P, b * e = P := ⟨_, rfl⟩
  have b1 : P1 ≤ 1000000000000000000 := by rw [← hP1]; exact Nat.mul_le_mul (show a ≤ 1000000000 by omega) (show e ≤ 1000000000 by omega)
  have b2 : P2 ≤ 1000000000000000000 := by rw [← hP2]; exact Nat.mul_le_mul (show c ≤ 1000000000 by omega) (show b ≤ 1000000000 by omega)
  have b3 : P3 ≤ 1000000000000000000 := by rw [← hP3]; exact Nat.mul_le_mul (show b ≤ 1000000000 by omega) (show e ≤ 1000000000 by omega)
  rw [hP1, hP2, hP3] at h
  have HR := Lib.hid h
  have m1 : (a : Int) * (e : Int) = (P1 : Int) := by rw [← hP1]; simp
  have m2 : (c : Int) * (b : Int) = (P2 : Int) := by rw [← hP2]; simp
  have m3 : (b : Int) * (e : Int) = (P3 : Int) := by rw [← hP3]; simp
  have M1 := Lib.hid m1
  have M2 := Lib.hid m2
  have M3 := Lib.hid m3
  have HV1 := Lib.hid h1
  have HV2 := Lib.hid h2
  clear h h1 h2 hP1 hP2 hP3 m1 m2 m3
  go_enter Try.func14, Try.ntmps14
  go_wp2_with fail
  refine (iRatValid_nat a b _ (by omega) (by omega)).mono ?_
  rintro r w1 ⟨rfl, hb1⟩
  rw [HV1.out]
  have hq1 : w1.heap[w.heap.size]? = some (.cells #[.int .i64 (a : Int), .int .i64 (b : Int)] 32 (0, 0)) := by
    rw [hb1.block w.heap.size (by simp <;> omega), Below.heap_alloc _ _ _ (by simp <;> omega)]
    exact two_heap1 w 0 _ _ _
  have hq2 : w1.heap[w.heap.size + 1]? = some (.cells #[.int .i64 (c : Int), .int .i64 (e : Int)] 32 (0, 0)) := by
    rw [hb1.block (w.heap.size + 1) (by simp <;> omega), Below.heap_alloc _ _ _ (by simp <;> omega)]
    exact two_heap2 w 0 _ _ _
  have hq3 : w1.heap[w.heap.size + 1 + 1]? = some (.cells #[.int .i64 0, .int .i64 0] 32 (0, 0)) := by
    rw [hb1.block (w.heap.size + 1 + 1) (by simp <;> omega)]
    have := heap_alloc_new ((w.alloc (.cells #[.int .i64 (a : Int), .int .i64 (b : Int)] 32)).alloc (.cells #[.int .i64 (c : Int), .int .i64 (e : Int)] 32)) (.cells #[.int .i64 0, .int .i64 0] 32)
    simpa using this
  have c3 : w1.cell? ⟨w.heap.size + 1, 0, none⟩ = some (.int .i64 (c : Int)) := (cell_of_row w1 _ 0 _ _ _ hq2).trans rfl
  have c4 : w1.cell? ⟨w.heap.size + 1, 1, none⟩ = some (.int .i64 (e : Int)) := (cell_of_row w1 _ 1 _ _ _ hq2).trans rfl
  have hB1 : Below w.heap.size w w1 := (((two_below w 0 _ _ _ _).alloc (by simp <;> omega) _).trans (hb1.mono (B' := w.heap.size) (by simp <;> omega)))
  have hs1 : w.heap.size + 3 ≤ w1.heap.size := by have := hb1.size; simpa using this
  clear hb1
  go_wp2_with fail
  refine (iRatValid_nat c e _ (by omega) (by omega)).mono ?_
  rintro r w2 ⟨rfl, hb2⟩
  rw [HV2.out]
  have hq1' := (hb2.block w.heap.size (by omega)).trans hq1
  have hq2' := (hb2.block (w.heap.size + 1) (by omega)).trans hq2
  have hq3' := (hb2.block (w.heap.size + 1 + 1) (by omega)).trans hq3
  have d1 : w2.cell? ⟨w.heap.size, 0, none⟩ = some (.int .i64 (a : Int)) := (cell_of_row w2 _ 0 _ _ _ hq1').trans rfl
  have d2 : w2.cell? ⟨w.heap.size, 1, none⟩ = some (.int .i64 (b : Int)) := (cell_of_row w2 _ 1 _ _ _ hq1').trans rfl
  have d3 : w2.cell? ⟨w.heap.size + 1, 0, none⟩ = some (.int .i64 (c : Int)) := (cell_of_row w2 _ 0 _ _ _ hq2').trans rfl
  have d4 : w2.cell? ⟨w.heap.size + 1, 1, none⟩ = some (.int .i64 (e : Int)) := (cell_of_row w2 _ 1 _ _ _ hq2').trans rfl
  have hB2 := Below.step hB1 hb2
  have hs2 : w.heap.size + 3 ≤ w2.heap.size := by have := hb2.size; omega
  have m1 := M1.out
  have m2 := M2.out
  have m3 := M3.out
  have u1 : IntKind.i64.wrap (P1 : Int) = (P1 : Int) := IntWalk.i64_in _ (by omega)
  have u2 : IntKind.i64.wrap (P2 : Int) = (P2 : Int) := IntWalk.i64_in _ (by omega)
  have u3 : IntKind.i64.wrap (P3 : Int) = (P3 : Int) := IntWalk.i64_in _ (by omega)
  obtain ⟨U, hU⟩ : ∃ U, P1 + P2 = U := ⟨_, rfl⟩
  have u4 : (P1 : Int) + (P2 : Int) = (U : Int) := by omega
  have HR2 := HR.out
  rw [hU] at HR2
  have HR3 := Lib.hid HR2
  have hUb : U ≤ 2000000000000000000 := by omega
  clear hb2 hq1 hq2 hq3 hq1' hq2' c3 c4 HR2 hU
  go_wp2_with fail
  refine (iRatOf_some U P3 x y _ (by omega) (by omega) HR3.out).mono ?_
  rintro r w3 ⟨rfl, hb3⟩
  have hq := (hb3.block (w.heap.size + 1 + 1) (by omega)).trans hq3'
  have f1 := frozen_of_row w3 (w.heap.size + 1 + 1) 0 _ _ hq
  have f2 := frozen_of_row w3 (w.heap.size + 1 + 1) 1 _ _ hq
  have z1 : w3.cell? ⟨w.heap.size + 1 + 1, 0, none⟩ = some (.int .i64 0) := (cell_of_row w3 _ 0 _ _ _ hq).trans rfl
  have z2 : w3.cell? ⟨w.heap.size + 1 + 1, 1, none⟩ = some (.int .i64 0) := (cell_of_row w3 _ 1 _ _ _ hq).trans rfl
  have hB3 := Below.step hB2 hb3
  clear hb3 hq hq3' m1 m2 m3 u1 u2 u3 u4
  go_wp2
  exact bodyPost_ret (v := .tuple #[.agg #[.int .i64 (x : Int), .int .i64 (y : Int)], .bool true]) (by simp [results, Try.results14, go_sem, z1, z2]) rfl ⟨rfl, (hB3.setCell (by simp; omega) _).setCell (by simp; omega) _⟩
end Go.Proofs.Ytddchlfhjiimcaa
