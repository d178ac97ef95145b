/- The walk of the law FnCenter. -/
import Derived.Test.YtddchlfhjiimcaaPkHelp
import Derived.Test.YtddchlfhjiimcaaPkCenterNo
import Derived.Deep.RegionHeld3
import Derived.Test.YtddchlfhjiimcaaRatLess
namespace Go.Proofs.Ytddchlfhjiimcaa
open Go.RowKit Pk

theorem cen_in {zs : List Int} {k q p d : Nat} (_hok : cOk zs = true) (hk : k < zs.length) (h : ratOf (cW zs k q) (cT zs k q) = some (p, d)) :
    (k - q) * d ≤ p * 1 ∧ p * 1 ≤ (cHi k q zs.length - 1) * d := by
  obtain ⟨h0, e1, e2, _⟩ := ratOf_some h
  have hg : 0 < Nat.gcd (cW zs k q) (cT zs k q) := Nat.gcd_pos_of_pos_right _ (by omega)
  have d1 : p * Nat.gcd (cW zs k q) (cT zs k q) = cW zs k q := by rw [e1]; exact Nat.div_mul_cancel (Nat.gcd_dvd_left _ _)
  have d2 : d * Nat.gcd (cW zs k q) (cT zs k q) = cT zs k q := by rw [e2]; exact Nat.div_mul_cancel (Nat.gcd_dvd_right _ _)
  have b1 : cLo k q * cT zs k q ≤ cW zs k q := wS_ge _ _ _
  have hh := cHi_le (k := k) (h := q) (n := zs.length) hk
  have b2 : cW zs k q ≤ (cHi k q zs.length - 1) * cT zs k q := wS_le _ _ _ _ (by omega)
  generalize hG : Nat.gcd (cW zs k q) (cT zs k q) = g at *
  constructor
  · refine Nat.le_of_mul_le_mul_right ?_ hg
    rw [Nat.mul_one, d1, Nat.mul_assoc, d2]; exact b1
  · refine Nat.le_of_mul_le_mul_right ?_ hg
    rw [Nat.mul_one, d1, Nat.mul_assoc, d2]; exact b2

theorem heap_four (w : World) (a b c d : Obj) : ((((w.alloc a).alloc b).alloc c).alloc d).heap[w.heap.size + 1]? = some b ∧ ((((w.alloc a).alloc b).alloc c).alloc d).heap[w.heap.size + 3]? = some d := by
  constructor
  · rw [Below.heap_alloc _ d _ (by simp), Below.heap_alloc _ c _ (by simp)]
    have := heap_alloc_new (w.alloc a) b
    simpa using this
  · have := heap_alloc_new (((w.alloc a).alloc b).alloc c) d
    simpa using this
set_option maxHeartbeats 400000 in
theorem whole_is (n : Int) (x : Nat) (w : World) (h : n = (x : Int)) :
    Calls Try.prog 15 #[.int .i64 n] w fun e w' => e = .returned (.agg #[.int .i64 (x : Int), .int .i64 1]) ∧ w' = w.alloc (.cells #[.int .i64 (x : Int), .int .i64 1] 32) := by
  subst h
  go_enter Try.func15, Try.ntmps15
  go_wp2
  exact bodyPost_ret (v := .agg #[.int .i64 (x : Int), .int .i64 1]) (by simp [results, Try.results15, go_sem]) rfl ⟨rfl, rfl⟩

set_option maxRecDepth 100000 in
set_option maxHeartbeats 8000000 in
theorem fnCenter_walk (A : Option Addr) (n c : Nat) (bs : List Int) (w : World) (h : BSl w w.heap.size A n c bs) :
    Calls Try.prog 5 #[.slice A n c] w fun e w' => e = .returned (.bool true) ∧ Below w.heap.size w w' := by
  by_cases hbig : 1048576 < n
  · go_enter Try.func5, Try.ntmps5
    go_wp2
    go_ret
    exact ⟨rfl, Below.refl _ _⟩
  have hn : n ≤ 16777216 := by omega
  go_enter Try.func5, Try.ntmps5
  go_wp2_with fail
  refine (DrawPeakCenter_any _ _ _ _ _ h hn).mono ?_
  rintro e w1 ⟨C, m, cc, zs, at1, half, rfl, hD, hat, hhalf, hb1⟩
  have hm := hD.few
  have i1 := ISl.of_own hD.own hD.inI
  have HZ := Lib.hid i1.len
  have hs1 := hb1.size
  obtain ⟨x, y, b, hme⟩ := cenIs_ex zs at1 half
  go_wp2_with fail
  refine (iPeakCenter_is _ _ _ _ at1 half x y b _ hme i1 (by omega)).mono ?_
  rintro e w2 ⟨rfl, hb2⟩
  have hT2 := Below.step hb1 hb2
  have hsz2 := hb2.size
  obtain ⟨O1, hO1⟩ : ∃ O, Obj.cells #[Value.int .i64 x, Value.int .i64 y] 32 = O := ⟨_, rfl⟩
  have ha2 := (Below.refl w2.heap.size w2).alloc (Nat.le_refl _) O1
  have hT2' := Below.step hT2 ha2
  have i2 := ((i1.below hb2).more hb2.size).below ha2
  have o2 := own_below (own_below hD.own hb2) ha2
  have hn2 := heap_alloc_new w2 O1
  have hs2 : (w2.alloc O1).heap.size = w2.heap.size + 1 := by simp
  obtain ⟨w3, hw3⟩ : ∃ W, w2.alloc O1 = W := ⟨_, rfl⟩
  rw [hw3] at hT2' hn2 hs2 i2 o2
  rw [← hO1] at hn2 hw3
  have hs2' : w2.heap.size < w3.heap.size := by omega
  clear hs2 hO1 ha2
  go_wp2_with fail
  clear hw3
  refine (sPeakCenter_is _ _ _ _ at1 half x y b _ hme (i2.more (by omega)) (by omega)).mono ?_
  rintro e w4 ⟨rfl, hb4⟩
  have hT4 := Below.step hT2' hb4
  have hs4 := hb4.size
  have i4 := (i2.more (show w2.heap.size ≤ w3.heap.size by omega)).below hb4
  have o4 := own_below o2 hb4
  have hn4 := (hb4.block w2.heap.size (by omega)).trans hn2
  have c41 := (cell_of_row w4 w2.heap.size 0 _ _ _ hn4).trans rfl
  have c42 := (cell_of_row w4 w2.heap.size 1 _ _ _ hn4).trans rfl
  have hlt4 : w2.heap.size < w4.heap.size := by omega
  rcases b with _ | _
  · clear i4 o4 hn4 hn2
    go_wp2
    go_ret
    exact ⟨rfl, Below.step hT4 ((Below.refl _ _).alloc (Nat.le_refl _) _)⟩
  obtain ⟨k, q, hok, rfl, hkm, rfl, hq, hcase⟩ : ∃ k q : Nat, cOk zs = true ∧ at1 = (k : Int) ∧ k < m ∧ half = (q : Int) ∧ q ≤ 200 ∧ ∃ p d : Nat, x = p ∧ y = d ∧ ratOf (cW zs k q) (cT zs k q) = some (p, d) := by
    rcases hme with ⟨k, q, h1, h2, h3, h4, h5, h6⟩ | ⟨_, _, _, hb⟩
    · rcases h6 with ⟨p, d, e1, e2, _, e4⟩ | ⟨_, _, _, hb⟩
      · exact ⟨k, q, h1, h2, by rw [← HZ.out]; exact h3, h4, h5, p, d, e1, e2, e4⟩
      · cases hb
    · cases hb
  obtain ⟨p, d, rfl, rfl, hrat⟩ := hcase
  have HRAT := Lib.hid hrat
  have hm0 : 0 < m := by omega
  obtain ⟨O2, hO2⟩ : ∃ O, Obj.cells #[Value.int .i64 (p : Int), Value.int .i64 (d : Int)] 32 = O := ⟨_, rfl⟩
  have ha4 := (Below.refl w4.heap.size w4).alloc (Nat.le_refl _) O2
  have hT5 := Below.step hT4 ha4
  have i5 := ((i4.more (show w3.heap.size ≤ w4.heap.size by omega)).below ha4)
  have hn5 := (ha4.block w2.heap.size (by omega)).trans hn4
  have hs5 : (w4.alloc O2).heap.size = w4.heap.size + 1 := by simp
  obtain ⟨w5, hw5⟩ : ∃ W, w4.alloc O2 = W := ⟨_, rfl⟩
  have hm5 := heap_alloc_new w4 O2
  rw [hw5] at hT5 i5 hn5 hs5 hm5
  rw [← hO2] at hw5 hm5
  have d51 : w5.cell? ⟨w2.heap.size, 0, none⟩ = some (.int .i64 (p : Int)) := (cell_of_row w5 _ 0 _ _ _ hn5).trans rfl
  have d52 : w5.cell? ⟨w2.heap.size, 1, none⟩ = some (.int .i64 (d : Int)) := (cell_of_row w5 _ 1 _ _ _ hn5).trans rfl
  have d53 : w5.cell? ⟨w4.heap.size, 0, none⟩ = some (.int .i64 (p : Int)) := (cell_of_row w5 _ 0 _ _ _ hm5).trans rfl
  have d54 : w5.cell? ⟨w4.heap.size, 1, none⟩ = some (.int .i64 (d : Int)) := (cell_of_row w5 _ 1 _ _ _ hm5).trans rfl
  have hs5' : w4.heap.size < w5.heap.size := by omega
  have hs5'' : w2.heap.size < w5.heap.size := by omega
  clear hs5 hO2 ha4 hrat hme hn4 hn2 i4 i2 o2 o4 hm5
  have hlm := cOk_len hok
  rw [HZ.out] at hlm
  have hcin := cen_in (q := q) hok (show k < zs.length by rw [HZ.out]; exact hkm) HRAT.out
  rw [HZ.out] at hcin
  obtain ⟨lo, hlo⟩ : ∃ lo, k - q = lo := ⟨_, rfl⟩
  obtain ⟨hi, hhi⟩ : ∃ hi, cHi k q m - 1 = hi := ⟨_, rfl⟩
  have hhb := cHi_le (k := k) (h := q) (n := m) hkm
  have hhi2 : (k + q ≤ m - 1 ∧ hi = k + q) ∨ (m ≤ k + q ∧ hi = m - 1) := by rw [← hhi]; unfold cHi; split <;> omega
  rw [hlo, hhi] at hcin
  have HCIN := Lib.hid hcin
  have hV1 : Hid (ratV p d = true) := (ratOf_some HRAT.out).2.2.2
  have hV2 : Hid (ratV lo 1 = true) := by show ratV lo 1 = true; unfold ratV; simp; omega
  have hV3 : Hid (ratV hi 1 = true) := by show ratV hi 1 = true; unfold ratV; simp; omega
  have hcases : (((k : Int) + q < (m : Int) - 1 ∧ hi ≤ k + q ∧ k + q ≤ hi) ∨ ((m : Int) - 1 < (k : Int) + q ∧ hi ≤ m - 1 ∧ m - 1 ≤ hi) ∨ ((k : Int) + q ≤ (m : Int) - 1 ∧ (m : Int) - 1 ≤ (k : Int) + q ∧ hi ≤ m - 1 ∧ m - 1 ≤ hi)) ∧ ((q < k ∧ (0 : Int) < (k : Int) - q) ∨ (k < q ∧ (k : Int) - q < 0) ∨ (k ≤ q ∧ q ≤ k)) := by omega
  have HLO := Lib.hid hlo
  clear hcin hlo hhi hhb hhi2
  obtain ⟨⟨q1, q2, q3⟩ | ⟨q1, q2, q3⟩ | ⟨q0, q1, q2, q3⟩, ⟨q4, q5⟩ | ⟨q4, q5⟩ | ⟨q4, q5⟩⟩ := hcases
  all_goals
    go_wp2_with fail
    clear hw5
    refine (whole_is _ lo _ (by have := HLO.out; omega)).mono ?_
    rintro e wX ⟨rfl, rfl⟩
    go_wp2_with fail
    refine (whole_is _ hi _ (by omega)).mono ?_
    rintro e wX ⟨rfl, rfl⟩
    obtain ⟨OL, hOL⟩ : ∃ O, Obj.cells #[Value.int .i64 (lo : Int), Value.int .i64 1] 32 = O := ⟨_, rfl⟩
    obtain ⟨OH, hOH⟩ : ∃ O, Obj.cells #[Value.int .i64 (hi : Int), Value.int .i64 1] 32 = O := ⟨_, rfl⟩
    have hbW : Below w5.heap.size w5 ((((w5.alloc OL).alloc OL).alloc OH).alloc OH) := ((((Below.refl _ _).alloc (Nat.le_refl _) _).alloc (by simp) _).alloc (by simp; omega) _).alloc (by simp; omega) _
    have hlow := heap_four w5 OL OL OH OH
    have hT8 := Below.step hT5 hbW
    have hs8 : ((((w5.alloc OL).alloc OL).alloc OH).alloc OH).heap.size = w5.heap.size + 4 := by simp
    obtain ⟨w8, hw8⟩ : ∃ W, (((w5.alloc OL).alloc OL).alloc OH).alloc OH = W := ⟨_, rfl⟩
    rw [hw8] at hbW hlow hT8 hs8
    rw [← hOL, ← hOH] at hw8 hlow
    have g1 : w8.cell? ⟨w2.heap.size, 0, none⟩ = some (.int .i64 (p : Int)) := (bcell hbW _ _ hs5'').trans d51
    have g2 : w8.cell? ⟨w2.heap.size, 1, none⟩ = some (.int .i64 (d : Int)) := (bcell hbW _ _ hs5'').trans d52
    have g3 : w8.cell? ⟨w5.heap.size + 1, 0, none⟩ = some (.int .i64 (lo : Int)) := (cell_of_row w8 _ 0 _ _ _ hlow.1).trans rfl
    have g4 : w8.cell? ⟨w5.heap.size + 1, 1, none⟩ = some (.int .i64 1) := (cell_of_row w8 _ 1 _ _ _ hlow.1).trans rfl
    have hq3 := hlow.2
    have hs8' : w5.heap.size + 4 ≤ w8.heap.size := by omega
    clear hs8 hOL hOH hlow
    go_wp2_with fail
    clear hw8
    refine (ratLess_no p d lo 1 _ hV1.out hV2.out HCIN.out.1).mono ?_
    rintro e w9 ⟨rfl, hb9⟩
    have hT9 := Below.step hT8 hb9
    have hs9 := hb9.size
    have k1 : w9.cell? ⟨w2.heap.size, 0, none⟩ = some (.int .i64 (p : Int)) := (bcell hb9 _ _ (by omega)).trans g1
    have k2 : w9.cell? ⟨w2.heap.size, 1, none⟩ = some (.int .i64 (d : Int)) := (bcell hb9 _ _ (by omega)).trans g2
    have hq9 := (hb9.block (w5.heap.size + 3) (by omega)).trans hq3
    have k3 : w9.cell? ⟨w5.heap.size + 1 + 1 + 1, 0, none⟩ = some (.int .i64 (hi : Int)) := (cell_of_row w9 _ 0 _ _ _ hq9).trans rfl
    have k4 : w9.cell? ⟨w5.heap.size + 1 + 1 + 1, 1, none⟩ = some (.int .i64 1) := (cell_of_row w9 _ 1 _ _ _ hq9).trans rfl
    clear hq3 hq9
    go_wp2_with fail
    refine (ratLess_no hi 1 p d _ hV3.out hV1.out HCIN.out.2).mono ?_
    rintro e w10 ⟨rfl, hb10⟩
    go_wp2
    go_ret
    exact ⟨rfl, Below.step hT9 hb10⟩
end Go.Proofs.Ytddchlfhjiimcaa
