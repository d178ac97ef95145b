/- The walks of the laws 'the program's function returns what the reference's returns' for marks. Printed by gen_exact.py. -/
import Derived.Test.YtdhpnjmnjckihaaMkOpen
import Derived.Test.YtdhpnjmnjckihaaMkShift
set_option linter.unusedVariables false
namespace Go.Proofs.Ytdhpnjmnjckihaa
open Go.RowKit Mk
section
variable {w w' wb wx : World} {n n' n2 : Nat} {base base' base2 : Nat} {e e' e2 : TypeId} {v v' : Value} {xs ys zs : List Mrk}
theorem MOwn.far1 (h : MOwn w base e v n xs) (hv : MOwn wb base2 e2 v n2 zs) (hx : MOwn w base' e' v' n' ys) (hle : wb.heap.size ≤ base') (hg : w.grownBy w' v'.ownBlock) : MOwn w' base e v n xs :=
  ⟨h.len, OwnR.far1 h.row hv.row hx.row hle hg⟩
theorem MOwn.far2 (h : MOwn w base e v n xs) (hx : MOwn wx base' e' v' n' ys) (hle : wx.heap.size ≤ base) (hg : w.grownBy w' v'.ownBlock) : MOwn w' base e v n xs :=
  ⟨h.len, OwnR.far2 h.row hx.row hle hg⟩
end

set_option maxHeartbeats 1000000 in
theorem fnExactMarksValid_walk (A : Option Addr) (n c : Nat) (ls : List Mrk) (w : World) (h : MSl w w.heap.size A n c ls) :
    Calls Try.prog 3 #[.slice A n c] w fun e w' => e = .returned (.bool true) ∧ Below w.heap.size w w' := by
  have HI := Lib.hid h.inI

  by_cases hbig : 1048576 < n
  · go_enter Try.func3, Try.ntmps3
    go_wp2_with fail
    refine (szMarkS_many _ _ _ _ hbig h.few).mono ?_
    rintro e wX ⟨rfl, rfl⟩
    go_wp2
    go_ret
    exact ⟨rfl, Below.refl _ _⟩
  · go_enter Try.func3, Try.ntmps3
    go_wp2_with fail
    refine (szMarkS_few _ _ _ _ (by omega)).mono ?_
    rintro e wX ⟨rfl, rfl⟩
    have a0 := h
    go_wp2_with fail
    refine (toMarkS_any _ _ _ _ _ a0 (by omega)).mono ?_
    rintro e w1 ⟨A1, c1, rfl, s1, hb1⟩
    have hT1 := hb1
    have hs1 := hb1.size
    have a1 := a0.below (hb1.mono (Nat.le_refl _))
    go_wp2_with fail
    refine (sMarksValid_any _ _ _ _ _ (MSl.of_own s1 HI.out)).mono ?_
    rintro e w2 ⟨rfl, hb2⟩
    have hT2 := Below.step hT1 hb2
    have hs2 := hb2.size
    have a2 := a1.below (hb2.mono hT1.size)
    have s2 := MOwn.below s1 hb2
    clear a1
    go_wp2_with fail
    refine (toMarkS_any _ _ _ _ _ (a2.more hT2.size) (by omega)).mono ?_
    rintro e w3 ⟨A3, c3, rfl, x3, hb3⟩
    have hT3 := Below.step hT2 hb3
    have hs3 := hb3.size
    have a3 := a2.below (hb3.mono hT2.size)
    clear a2
    go_wp2_with fail
    refine (iMarksValid_any _ _ _ _ _ (MSl.of_own x3 HI.out)).mono ?_
    rintro e w4 ⟨rfl, hb4⟩
    have hT4 := Below.step hT3 hb4
    have hs4 := hb4.size
    have a4 := a3.below (hb4.mono hT3.size)
    have x4 := MOwn.below x3 hb4
    clear a3
    go_wp2_with fail
    refine (toMarkS_any _ _ _ _ _ (a4.more hT4.size) (by omega)).mono ?_
    rintro e w5 ⟨A5, c5, rfl, y5, hb5⟩
    have hT5 := Below.step hT4 hb5
    have hs5 := hb5.size
    have a5 := a4.below (hb5.mono hT4.size)
    have x5 := MOwn.below x4 hb5
    clear a4 x4
    go_wp2_with fail
    refine (eqMarkS_same _ _ _ _ _ _ _ _ (MSl.of_own x5 HI.out) (MSl.of_own y5 HI.out) (by omega)).mono ?_
    rintro e w6 ⟨rfl, hb6⟩
    have hT6 := Below.step hT5 hb6
    have hs6 := hb6.size
    have a6 := a5.below (hb6.mono hT5.size)
    have x6 := MOwn.below x5 hb6
    have y6 := MOwn.below y5 hb6
    clear a5 x5
    go_wp2
    go_ret
    exact ⟨rfl, hT6⟩

set_option maxHeartbeats 1000000 in
theorem fnExactMarkShift_walk (A : Option Addr) (n c : Nat) (ls : List Mrk) (by1 : Int) (w : World) (h : MSl w w.heap.size A n c ls) (_ : InI by1) :
    Calls Try.prog 6 #[.slice A n c, .int .i64 by1] w fun e w' => e = .returned (.bool true) ∧ Below w.heap.size w w' := by
  have HI := Lib.hid h.inI
  have hjl := shiftR_len ls by1
  by_cases hbig : 1048576 < n
  · go_enter Try.func6, Try.ntmps6
    go_wp2_with fail
    refine (szMarkS_many _ _ _ _ hbig h.few).mono ?_
    rintro e wX ⟨rfl, rfl⟩
    go_wp2
    go_ret
    exact ⟨rfl, Below.refl _ _⟩
  · go_enter Try.func6, Try.ntmps6
    go_wp2_with fail
    refine (szMarkS_few _ _ _ _ (by omega)).mono ?_
    rintro e wX ⟨rfl, rfl⟩
    have a0 := h
    go_wp2_with fail
    refine (toMarkS_any _ _ _ _ _ a0 (by omega)).mono ?_
    rintro e w1 ⟨A1, c1, rfl, s1, hb1⟩
    have hT1 := hb1
    have hs1 := hb1.size
    have a1 := a0.below (hb1.mono (Nat.le_refl _))
    go_wp2_with fail
    refine (sMarkShift_any _ _ _ _ by1 _ (MSl.of_own s1 HI.out)).mono ?_
    rintro e w2 ⟨B2, m2, d2, rfl, r2, hb2⟩
    have hT2 := Below.step hT1 hb2
    have hs2 := hb2.size
    have a2 := a1.below (hb2.mono hT1.size)
    have s2 := MOwn.below s1 hb2
    clear a1
    have hm2 : m2 ≤ 10 := by have := r2.len; omega
    go_wp2_with fail
    refine (toMarkS_any _ _ _ _ _ (a2.more hT2.size) (by omega)).mono ?_
    rintro e w3 ⟨A3, c3, rfl, x3, hb3⟩
    have hT3 := Below.step hT2 hb3
    have hs3 := hb3.size
    have a3 := a2.below (hb3.mono hT2.size)
    have r3 := MOwn.below r2 hb3
    clear a2
    go_wp2_with fail
    refine (iMarkShift_any _ _ _ _ by1 _ (MSl.of_own x3 HI.out)).mono ?_
    rintro e w4 ⟨B4, m4, d4, rfl, g4, hb4⟩
    have hT4 := Below.step hT3 hb4
    have hs4 := hb4.size
    have a4 := a3.below (hb4.mono hT3.size)
    have r4 := MOwn.below r3 hb4
    have x4 := MOwn.below x3 hb4
    clear a3 r3
    have hm4 : m4 ≤ 10 := by have := g4.len; omega
    go_wp2_with fail
    refine (eqMarkS_same _ _ _ _ _ _ _ _ (MSl.of_own g4 (shiftR_in ls by1)) (MSl.of_own r4 (shiftR_in ls by1)) (by omega)).mono ?_
    rintro e w5 ⟨rfl, hb5⟩
    have hT5 := Below.step hT4 hb5
    have hs5 := hb5.size
    have a5 := a4.below (hb5.mono hT4.size)
    have r5 := MOwn.below r4 hb5
    have x5 := MOwn.below x4 hb5
    have g5 := MOwn.below g4 hb5
    clear a4 r4 x4
    go_wp2_with fail
    refine (toMarkS_any _ _ _ _ _ (a5.more hT5.size) (by omega)).mono ?_
    rintro e w6 ⟨A6, c6, rfl, y6, hb6⟩
    have hT6 := Below.step hT5 hb6
    have hs6 := hb6.size
    have a6 := a5.below (hb6.mono hT5.size)
    have r6 := MOwn.below r5 hb6
    have x6 := MOwn.below x5 hb6
    have g6 := MOwn.below g5 hb6
    clear a5 r5 x5 g5
    go_wp2_with fail
    refine (eqMarkS_same _ _ _ _ _ _ _ _ (MSl.of_own x6 HI.out) (MSl.of_own y6 HI.out) (by omega)).mono ?_
    rintro e w7 ⟨rfl, hb7⟩
    have hT7 := Below.step hT6 hb7
    have hs7 := hb7.size
    have a7 := a6.below (hb7.mono hT6.size)
    have r7 := MOwn.below r6 hb7
    have x7 := MOwn.below x6 hb7
    have g7 := MOwn.below g6 hb7
    have y7 := MOwn.below y6 hb7
    clear a6 r6 x6 g6
    go_wp2_with fail
    refine (markMarkS_any _ _ _ _ _ _ _ x7 (by omega) (by omega)).mono ?_
    rintro e w8 ⟨rfl, x8, hg8⟩
    have hm8 := x7.mark (by omega) hg8
    have hs8 := hm8.size
    have hT8 := hT7.trans (hm8.mono hT2.size)
    have a8 := a7.below (hm8.mono hT2.size)
    have r8 := MOwn.far1 r7 r2 x7 (by omega) hg8
    have g8 := MOwn.far2 g7 x3 (by omega) hg8
    clear a7 r7 g7
    go_wp2_with fail
    refine (eqMarkS_same _ _ _ _ _ _ _ _ (MSl.of_own g8 (shiftR_in ls by1)) (MSl.of_own r8 (shiftR_in ls by1)) (by omega)).mono ?_
    rintro e w9 ⟨rfl, hb9⟩
    have hT9 := Below.step hT8 hb9
    have hs9 := hb9.size
    have a9 := a8.below (hb9.mono hT8.size)
    have r9 := MOwn.below r8 hb9
    have g9 := MOwn.below g8 hb9
    clear a8 r8 g8
    go_wp2_with fail
    refine (markMarkS_any _ _ _ _ _ _ _ g9 (by omega) (by omega)).mono ?_
    rintro e w10 ⟨rfl, g10, hg10⟩
    have hm10 := g9.mark (by omega) hg10
    have hs10 := hm10.size
    have hT10 := hT9.trans (hm10.mono hT3.size)
    have a10 := a9.below (hm10.mono hT3.size)
    have r10 := MOwn.far1 r9 r2 g9 (by omega) hg10
    clear a9 r9
    go_wp2_with fail
    refine (heldMarkS_any _ _ _ _ _ _ (MSl.of_own g10 (markedM_in (by omega) (by omega))) (by omega) (by omega)).mono ?_
    rintro e wX ⟨rfl, rfl⟩
    go_wp2_with fail
    refine (toMarkS_any _ _ _ _ _ (a10.more hT10.size) (by omega)).mono ?_
    rintro e w11 ⟨A11, c11, rfl, z11, hb11⟩
    have hT11 := Below.step hT10 hb11
    have hs11 := hb11.size
    have a11 := a10.below (hb11.mono hT10.size)
    have r11 := MOwn.below r10 hb11
    have g11 := MOwn.below g10 hb11
    clear a10 r10 g10
    go_wp2_with fail
    refine (iMarkShift_any _ _ _ _ by1 _ (MSl.of_own z11 HI.out)).mono ?_
    rintro e w12 ⟨B12, m12, d12, rfl, t12, hb12⟩
    have hT12 := Below.step hT11 hb12
    have hs12 := hb12.size
    have a12 := a11.below (hb12.mono hT11.size)
    have r12 := MOwn.below r11 hb12
    have g12 := MOwn.below g11 hb12
    have z12 := MOwn.below z11 hb12
    clear a11 r11 g11
    have hm12 : m12 ≤ 10 := by have := t12.len; omega
    go_wp2_with fail
    refine (eqMarkS_same _ _ _ _ _ _ _ _ (MSl.of_own t12 (shiftR_in ls by1)) (MSl.of_own r12 (shiftR_in ls by1)) (by omega)).mono ?_
    rintro e w13 ⟨rfl, hb13⟩
    have hT13 := Below.step hT12 hb13
    have hs13 := hb13.size
    have a13 := a12.below (hb13.mono hT12.size)
    have r13 := MOwn.below r12 hb13
    have g13 := MOwn.below g12 hb13
    have t13 := MOwn.below t12 hb13
    clear a12 r12 g12
    go_wp2_with fail
    refine (heldMarkS_any _ _ _ _ _ _ (MSl.of_own g13 (markedM_in (by omega) (by omega))) (by omega) (by omega)).mono ?_
    rintro e wX ⟨rfl, rfl⟩
    go_wp2
    go_ret
    exact ⟨rfl, hT13⟩
end Go.Proofs.Ytdhpnjmnjckihaa
