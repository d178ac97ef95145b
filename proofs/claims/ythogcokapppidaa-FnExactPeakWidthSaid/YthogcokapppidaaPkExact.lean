/- The walks of the laws 'the program's function returns what the reference's returns' for counts. Printed by gen_exact.py. -/
import Derived.Test.YthogcokapppidaaPkWidthS
import Derived.Test.YthogcokapppidaaPkPeaksS
namespace Go.Proofs.Ythogcokapppidaa
open Go.RowKit Pk



set_option maxHeartbeats 4000000 in
theorem fnExactPeakBest_walk (A : Option Addr) (n c : Nat) (zs : List Int)  (w : World) (h : ISl w w.heap.size A n c zs)  :
    Calls Try.prog 3 #[.slice A n c] w fun e w' => e = .returned (.bool true) ∧ Below w.heap.size w w' := by

  by_cases hbig : 1048576 < n
  · go_enter Try.func3, Try.ntmps3
    go_wp2
    go_ret
    exact ⟨rfl, Below.refl _ _⟩
  · go_enter Try.func3, Try.ntmps3
    have a0 := h
    go_wp2_with fail
    refine (toIntS_any _ _ _ _ _ a0 (by omega)).mono ?_
    rintro e w1 ⟨A1, c1, rfl, s1, hb1⟩
    have hT1 := hb1
    have hs1 := hb1.size
    have a1 := a0.below (hb1.mono (Nat.le_refl _))
    go_wp2_with fail
    refine (sPeakBest_any _ _ _ _ _ (ISl.of_own s1 h.inI) (by omega)).mono ?_
    rintro e w2 ⟨rfl, hb2⟩
    have hT2 := Below.step hT1 hb2
    have hs2 := hb2.size
    have a2 := a1.below (hb2.mono hT1.size)
    have s2 := own_below s1 hb2
    clear a1
    go_wp2_with fail
    refine (toIntS_any _ _ _ _ _ (a2.more hT2.size) (by omega)).mono ?_
    rintro e w3 ⟨A3, c3, rfl, x3, hb3⟩
    have hT3 := Below.step hT2 hb3
    have hs3 := hb3.size
    have a3 := a2.below (hb3.mono hT2.size)
    have s3 := own_below s2 hb3
    clear a2 s2
    go_wp2_with fail
    refine (iPeakBest_any _ _ _ _ _ _ (ISl.of_own x3 h.inI) (by omega)).mono ?_
    rintro e wX ⟨rfl, rfl⟩
    go_wp2_with fail
    refine (toIntS_any _ _ _ _ _ (a3.more hT3.size) (by omega)).mono ?_
    rintro e w4 ⟨A4, c4, rfl, y4, hb4⟩
    have hT4 := Below.step hT3 hb4
    have hs4 := hb4.size
    have a4 := a3.below (hb4.mono hT3.size)
    have s4 := own_below s3 hb4
    have x4 := own_below x3 hb4
    clear a3 s3
    go_wp2_with fail
    refine (eqIntS_same _ _ _ _ _ _ _ _ (ISl.of_own x4 h.inI) (ISl.of_own y4 h.inI) (by omega)).mono ?_
    rintro e w5 ⟨rfl, hb5⟩
    have hT5 := Below.step hT4 hb5
    have hs5 := hb5.size
    have a5 := a4.below (hb5.mono hT4.size)
    have s5 := own_below s4 hb5
    have x5 := own_below x4 hb5
    have y5 := own_below y4 hb5
    clear a4 s4 x4
    go_wp2
    go_ret
    exact ⟨rfl, hT5⟩


set_option maxHeartbeats 4000000 in
theorem fnExactPeakWidth_walk (A : Option Addr) (n c : Nat) (zs : List Int) (at1 : Int) (w : World) (h : ISl w w.heap.size A n c zs) (_ : InI at1) :
    Calls Try.prog 4 #[.slice A n c, .int .i64 at1] w fun e w' => e = .returned (.bool true) ∧ Below w.heap.size w w' := by

  by_cases hbig : 1048576 < n
  · go_enter Try.func4, Try.ntmps4
    go_wp2
    go_ret
    exact ⟨rfl, Below.refl _ _⟩
  · go_enter Try.func4, Try.ntmps4
    have a0 := h
    go_wp2_with fail
    refine (toIntS_any _ _ _ _ _ a0 (by omega)).mono ?_
    rintro e w1 ⟨A1, c1, rfl, s1, hb1⟩
    have hT1 := hb1
    have hs1 := hb1.size
    have a1 := a0.below (hb1.mono (Nat.le_refl _))
    go_wp2_with fail
    refine (sPeakWidth_any _ _ _ _ _ _ (ISl.of_own s1 h.inI) (by omega)).mono ?_
    rintro e w2 ⟨rfl, hb2⟩
    have hT2 := Below.step hT1 hb2
    have hs2 := hb2.size
    have a2 := a1.below (hb2.mono hT1.size)
    have s2 := own_below s1 hb2
    clear a1
    go_wp2_with fail
    refine (toIntS_any _ _ _ _ _ (a2.more hT2.size) (by omega)).mono ?_
    rintro e w3 ⟨A3, c3, rfl, x3, hb3⟩
    have hT3 := Below.step hT2 hb3
    have hs3 := hb3.size
    have a3 := a2.below (hb3.mono hT2.size)
    have s3 := own_below s2 hb3
    clear a2 s2
    go_wp2_with fail
    refine (iPeakWidth_any _ _ _ _ _ _ (ISl.of_own x3 h.inI) (by omega)).mono ?_
    rintro e w4 ⟨rfl, hb4⟩
    have hT4 := Below.step hT3 hb4
    have hs4 := hb4.size
    have a4 := a3.below (hb4.mono hT3.size)
    have s4 := own_below s3 hb4
    have x4 := own_below x3 hb4
    clear a3 s3
    go_wp2_with fail
    refine (toIntS_any _ _ _ _ _ (a4.more hT4.size) (by omega)).mono ?_
    rintro e w5 ⟨A5, c5, rfl, y5, hb5⟩
    have hT5 := Below.step hT4 hb5
    have hs5 := hb5.size
    have a5 := a4.below (hb5.mono hT4.size)
    have s5 := own_below s4 hb5
    have x5 := own_below x4 hb5
    clear a4 s4 x4
    go_wp2_with fail
    refine (eqIntS_same _ _ _ _ _ _ _ _ (ISl.of_own x5 h.inI) (ISl.of_own y5 h.inI) (by omega)).mono ?_
    rintro e w6 ⟨rfl, hb6⟩
    have hT6 := Below.step hT5 hb6
    have hs6 := hb6.size
    have a6 := a5.below (hb6.mono hT5.size)
    have s6 := own_below s5 hb6
    have x6 := own_below x5 hb6
    have y6 := own_below y5 hb6
    clear a5 s5 x5
    go_wp2
    go_ret
    exact ⟨rfl, hT6⟩


set_option maxHeartbeats 4000000 in
theorem fnExactPeaksOf_walk (A : Option Addr) (n c : Nat) (zs : List Int) (least : Int) (w : World) (h : ISl w w.heap.size A n c zs) (_ : InI least) :
    Calls Try.prog 6 #[.slice A n c, .int .i64 least] w fun e w' => e = .returned (.bool true) ∧ Below w.heap.size w w' := by
  have hpl := peaksOf_len (zs := zs) (l := least)
  by_cases hbig : 1048576 < n
  · go_enter Try.func6, Try.ntmps6
    go_wp2
    go_ret
    exact ⟨rfl, Below.refl _ _⟩
  · go_enter Try.func6, Try.ntmps6
    have a0 := h
    go_wp2_with fail
    refine (toIntS_any _ _ _ _ _ a0 (by omega)).mono ?_
    rintro e w1 ⟨A1, c1, rfl, s1, hb1⟩
    have hT1 := hb1
    have hs1 := hb1.size
    have a1 := a0.below (hb1.mono (Nat.le_refl _))
    go_wp2_with fail
    refine (sPeaksOf_any _ _ _ _ _ _ (ISl.of_own s1 h.inI) (by omega)).mono ?_
    rintro e w2 ⟨B2, d2, rfl, r2, hb2⟩
    have hT2 := Below.step hT1 hb2
    have hs2 := hb2.size
    have a2 := a1.below (hb2.mono hT1.size)
    have s2 := own_below s1 hb2
    clear a1
    go_wp2_with fail
    refine (toIntS_any _ _ _ _ _ (a2.more hT2.size) (by omega)).mono ?_
    rintro e w3 ⟨A3, c3, rfl, x3, hb3⟩
    have hT3 := Below.step hT2 hb3
    have hs3 := hb3.size
    have a3 := a2.below (hb3.mono hT2.size)
    have s3 := own_below s2 hb3
    have r3 := own_below r2 hb3
    clear a2 s2
    go_wp2_with fail
    refine (iPeaksOf_any _ _ _ _ _ _ (ISl.of_own x3 h.inI) (by omega)).mono ?_
    rintro e w4 ⟨B4, d4, rfl, g4, hb4⟩
    have hT4 := Below.step hT3 hb4
    have hs4 := hb4.size
    have a4 := a3.below (hb4.mono hT3.size)
    have s4 := own_below s3 hb4
    have r4 := own_below r3 hb4
    have x4 := own_below x3 hb4
    clear a3 s3 r3
    go_wp2_with fail
    refine (eqIntS_same _ _ _ _ _ _ _ _ (ISl.of_own g4 peaksOf_in) (ISl.of_own r4 peaksOf_in) (by omega)).mono ?_
    rintro e w5 ⟨rfl, hb5⟩
    have hT5 := Below.step hT4 hb5
    have hs5 := hb5.size
    have a5 := a4.below (hb5.mono hT4.size)
    have s5 := own_below s4 hb5
    have r5 := own_below r4 hb5
    have x5 := own_below x4 hb5
    have g5 := own_below g4 hb5
    clear a4 s4 r4 x4
    go_wp2_with fail
    refine (toIntS_any _ _ _ _ _ (a5.more hT5.size) (by omega)).mono ?_
    rintro e w6 ⟨A6, c6, rfl, y6, hb6⟩
    have hT6 := Below.step hT5 hb6
    have hs6 := hb6.size
    have a6 := a5.below (hb6.mono hT5.size)
    have s6 := own_below s5 hb6
    have r6 := own_below r5 hb6
    have x6 := own_below x5 hb6
    have g6 := own_below g5 hb6
    clear a5 s5 r5 x5 g5
    go_wp2_with fail
    refine (eqIntS_same _ _ _ _ _ _ _ _ (ISl.of_own x6 h.inI) (ISl.of_own y6 h.inI) (by omega)).mono ?_
    rintro e w7 ⟨rfl, hb7⟩
    have hT7 := Below.step hT6 hb7
    have hs7 := hb7.size
    have a7 := a6.below (hb7.mono hT6.size)
    have s7 := own_below s6 hb7
    have r7 := own_below r6 hb7
    have x7 := own_below x6 hb7
    have g7 := own_below g6 hb7
    have y7 := own_below y6 hb7
    clear a6 s6 r6 x6 g6
    go_wp2_with fail
    refine (markIntS_any _ _ _ _ _ _ _ x7 (by omega) (by omega)).mono ?_
    rintro e w8 ⟨rfl, x8, hg8⟩
    have hm8 := below_mark x7 (by omega) hg8
    have hs8 := hm8.size
    have hT8 := hT7.trans (hm8.mono hT2.size)
    have a8 := a7.below (hm8.mono hT2.size)
    have s8 := own_far1 s7 s1 x7 (by omega) hg8
    have r8 := own_far1 r7 r2 x7 (by omega) hg8
    have g8 := own_far2 g7 x3 (by omega) hg8
    have y8 := own_far2 y7 x3 (by omega) hg8
    clear a7 s7 r7 g7 y7
    go_wp2_with fail
    refine (eqIntS_same _ _ _ _ _ _ _ _ (ISl.of_own g8 peaksOf_in) (ISl.of_own r8 peaksOf_in) (by omega)).mono ?_
    rintro e w9 ⟨rfl, hb9⟩
    have hT9 := Below.step hT8 hb9
    have hs9 := hb9.size
    have a9 := a8.below (hb9.mono hT8.size)
    have s9 := own_below s8 hb9
    have r9 := own_below r8 hb9
    have x9 := own_below x8 hb9
    have g9 := own_below g8 hb9
    have y9 := own_below y8 hb9
    clear a8 s8 r8 x8 g8 y8
    go_wp2_with fail
    refine (markIntS_any _ _ _ _ _ _ _ g9 (by omega) (by omega)).mono ?_
    rintro e w10 ⟨rfl, g10, hg10⟩
    have hm10 := below_mark g9 (by omega) hg10
    have hs10 := hm10.size
    have hT10 := hT9.trans (hm10.mono hT3.size)
    have a10 := a9.below (hm10.mono hT3.size)
    have s10 := own_far1 s9 s1 g9 (by omega) hg10
    have r10 := own_far1 r9 r2 g9 (by omega) hg10
    have x10 := own_far1 x9 x3 g9 (by omega) hg10
    have y10 := own_far2 y9 g4 (by omega) hg10
    clear a9 s9 r9 x9 y9
    go_wp2_with fail
    refine (heldIntS_any _ _ _ _ _ _ (ISl.of_own g10 (iota_in (by omega) (by omega))) (by omega) (by omega)).mono ?_
    rintro e wX ⟨rfl, rfl⟩
    go_wp2_with fail
    refine (toIntS_any _ _ _ _ _ (a10.more hT10.size) (by omega)).mono ?_
    rintro e w11 ⟨A11, c11, rfl, z11, hb11⟩
    have hT11 := Below.step hT10 hb11
    have hs11 := hb11.size
    have a11 := a10.below (hb11.mono hT10.size)
    have s11 := own_below s10 hb11
    have r11 := own_below r10 hb11
    have x11 := own_below x10 hb11
    have g11 := own_below g10 hb11
    have y11 := own_below y10 hb11
    clear a10 s10 r10 x10 g10 y10
    go_wp2_with fail
    refine (iPeaksOf_any _ _ _ _ _ _ (ISl.of_own z11 h.inI) (by omega)).mono ?_
    rintro e w12 ⟨B12, d12, rfl, t12, hb12⟩
    have hT12 := Below.step hT11 hb12
    have hs12 := hb12.size
    have a12 := a11.below (hb12.mono hT11.size)
    have s12 := own_below s11 hb12
    have r12 := own_below r11 hb12
    have x12 := own_below x11 hb12
    have g12 := own_below g11 hb12
    have y12 := own_below y11 hb12
    have z12 := own_below z11 hb12
    clear a11 s11 r11 x11 g11 y11
    go_wp2_with fail
    refine (eqIntS_same _ _ _ _ _ _ _ _ (ISl.of_own t12 peaksOf_in) (ISl.of_own r12 peaksOf_in) (by omega)).mono ?_
    rintro e w13 ⟨rfl, hb13⟩
    have hT13 := Below.step hT12 hb13
    have hs13 := hb13.size
    have a13 := a12.below (hb13.mono hT12.size)
    have s13 := own_below s12 hb13
    have r13 := own_below r12 hb13
    have x13 := own_below x12 hb13
    have g13 := own_below g12 hb13
    have y13 := own_below y12 hb13
    have z13 := own_below z12 hb13
    have t13 := own_below t12 hb13
    clear a12 s12 r12 x12 g12 y12 z12
    go_wp2_with fail
    refine (heldIntS_any _ _ _ _ _ _ (ISl.of_own g13 (iota_in (by omega) (by omega))) (by omega) (by omega)).mono ?_
    rintro e wX ⟨rfl, rfl⟩
    go_wp2
    go_ret
    exact ⟨rfl, hT13⟩

end Go.Proofs.Ythogcokapppidaa
