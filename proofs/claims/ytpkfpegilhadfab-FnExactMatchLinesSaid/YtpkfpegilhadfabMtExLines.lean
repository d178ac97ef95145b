/- The walk of the law FnExactMatchLines. Printed by gen_exact.py. -/
import Derived.Test.YtpkfpegilhadfabMtOpen
import Derived.Test.YtpkfpegilhadfabMtMLinesI
set_option linter.unusedVariables false
namespace Go.Proofs.Ytpkfpegilhadfab
open Go.RowKit Lk Mt

section
variable {w w' wb wx : World} {n n' n2 : Nat} {base base' base2 : Nat} {e e' e2 : TypeId} {v v' : Value} {xs ys zs : List Link} {size' s' : Nat} {cs : List Value} {R' : Nat → Nat → Value}
theorem LOwn.far1 (h : LOwn w base e v n xs) (hv : LOwn wb base2 e2 v n2 zs) (hx : OwnR w base' e' s' v' n' R') (hle : wb.heap.size ≤ base') (hg : w.grownBy w' v'.ownBlock) : LOwn w' base e v n xs :=
  ⟨h.len, OwnR.far1 h.row hv.row hx hle hg⟩
theorem LOwn.far2 (h : LOwn w base e v n xs) (hx : OwnR wx base' e' s' v' n' R') (hle : wx.heap.size ≤ base) (hg : w.grownBy w' v'.ownBlock) : LOwn w' base e v n xs :=
  ⟨h.len, OwnR.far2 h.row hx hle hg⟩
end

set_option maxRecDepth 100000 in
set_option maxHeartbeats 4000000 in
theorem fnExactMatchLines_walk (A : Option Addr) (n c : Nat) (zn : List Nd) (seen tol : Int) (w : World) (h : NSl w w.heap.size A n c zn) (_ : InI seen) (_ : InI tol) :
    Calls Try.prog 5 #[.slice A n c, .int .i64 seen, .int .i64 tol] w fun e w' => e = .returned (.bool true) ∧ Below w.heap.size w w' := by
  have HI := Lib.hid h.inI
  have hjl := matchLines_len zn seen tol
  by_cases hbig : 1048576 < n
  · go_enter Try.func5, Try.ntmps5
    go_wp2_with fail
    refine (szNodeS_many _ _ _ _ hbig h.few).mono ?_
    rintro e wX ⟨rfl, rfl⟩
    go_wp2
    go_ret
    exact ⟨rfl, Below.refl _ _⟩
  · go_enter Try.func5, Try.ntmps5
    go_wp2_with fail
    refine (szNodeS_few _ _ _ _ (by omega)).mono ?_
    rintro e wX ⟨rfl, rfl⟩
    have a0 := h
    go_wp2_with fail
    refine (toNodeS_any _ _ _ _ _ a0 (by omega)).mono ?_
    rintro e w1 ⟨A1, c1, rfl, s1, hb1⟩
    have hT1 := hb1
    have hs1 := hb1.size
    have a1 := a0.below (hb1.mono (Nat.le_refl _))
    go_wp2_with fail
    refine (sMatchLines_any _ _ _ zn seen tol _ (NSl.of_own s1 HI.out)).mono ?_
    rintro e w2 ⟨C2, m2, k2, rfl, r2, hb2⟩
    have hT2 := Below.step hT1 hb2
    have hs2 := hb2.size
    have a2 := a1.below (hb2.mono hT1.size)
    have s2 := NOwn.below s1 hb2
    clear a1
    have hml2 : m2 ≤ 144 := by have := r2.len; simp at this; omega
    go_wp2_with fail
    refine (toNodeS_any _ _ _ _ _ (a2.more hT2.size) (by omega)).mono ?_
    rintro e w3 ⟨A3, c3, rfl, x3, hb3⟩
    have hT3 := Below.step hT2 hb3
    have hs3 := hb3.size
    have a3 := a2.below (hb3.mono hT2.size)
    have r3 := LOwn.below r2 hb3
    clear a2
    go_wp2_with fail
    refine (iMatchLines_any _ _ _ zn seen tol _ (NSl.of_own x3 HI.out)).mono ?_
    rintro e w4 ⟨C4, m4, k4, rfl, g4, hb4⟩
    have hT4 := Below.step hT3 hb4
    have hs4 := hb4.size
    have a4 := a3.below (hb4.mono hT3.size)
    have r4 := LOwn.below r3 hb4
    have x4 := NOwn.below x3 hb4
    clear a3 r3
    have hml4 : m4 ≤ 144 := by have := g4.len; simp at this; omega
    go_wp2_with fail
    refine (eqLineS_same _ _ _ _ _ _ _ _ (LSl.of_own g4 (matchLines_inL zn seen tol)) (LSl.of_own r4 (matchLines_inL zn seen tol)) (by omega)).mono ?_
    rintro e w5 ⟨rfl, hb5⟩
    have hT5 := Below.step hT4 hb5
    have hs5 := hb5.size
    have a5 := a4.below (hb5.mono hT4.size)
    have r5 := LOwn.below r4 hb5
    have x5 := NOwn.below x4 hb5
    have g5 := LOwn.below g4 hb5
    clear a4 r4 x4
    go_wp2_with fail
    refine (toNodeS_any _ _ _ _ _ (a5.more hT5.size) (by omega)).mono ?_
    rintro e w6 ⟨A6, c6, rfl, y6, hb6⟩
    have hT6 := Below.step hT5 hb6
    have hs6 := hb6.size
    have a6 := a5.below (hb6.mono hT5.size)
    have r6 := LOwn.below r5 hb6
    have x6 := NOwn.below x5 hb6
    have g6 := LOwn.below g5 hb6
    clear a5 r5 x5 g5
    go_wp2_with fail
    refine (eqNodeS_same _ _ _ _ _ _ _ _ (NSl.of_own x6 HI.out) (NSl.of_own y6 HI.out) (by omega)).mono ?_
    rintro e w7 ⟨rfl, hb7⟩
    have hT7 := Below.step hT6 hb7
    have hs7 := hb7.size
    have a7 := a6.below (hb7.mono hT6.size)
    have r7 := LOwn.below r6 hb7
    have x7 := NOwn.below x6 hb7
    have g7 := LOwn.below g6 hb7
    have y7 := NOwn.below y6 hb7
    clear a6 r6 x6 g6
    go_wp2_with fail
    refine (markNodeS_any _ _ _ _ _ _ _ x7 (by omega) (by omega)).mono ?_
    rintro e w8 ⟨L8, rfl, x8, hg8⟩
    have hm8 := x7.mark (by omega) hg8
    have hs8 := hm8.size
    have hT8 := hT7.trans (hm8.mono hT2.size)
    have a8 := a7.below (hm8.mono hT2.size)
    have r8 := LOwn.far1 r7 r2 x7.row (by omega) hg8
    have g8 := LOwn.far2 g7 x3.row (by omega) hg8
    clear a7 r7 g7
    go_wp2_with fail
    refine (eqLineS_same _ _ _ _ _ _ _ _ (LSl.of_own g8 (matchLines_inL zn seen tol)) (LSl.of_own r8 (matchLines_inL zn seen tol)) (by omega)).mono ?_
    rintro e w9 ⟨rfl, hb9⟩
    have hT9 := Below.step hT8 hb9
    have hs9 := hb9.size
    have a9 := a8.below (hb9.mono hT8.size)
    have r9 := LOwn.below r8 hb9
    have g9 := LOwn.below g8 hb9
    clear a8 r8 g8
    go_wp2_with fail
    refine (markLineS_any _ _ _ _ _ _ _ g9 (by omega) (by omega)).mono ?_
    rintro e w10 ⟨rfl, g10, hg10⟩
    have hm10 := g9.mark (by omega) hg10
    have hs10 := hm10.size
    have hT10 := hT9.trans (hm10.mono hT3.size)
    have a10 := a9.below (hm10.mono hT3.size)
    have r10 := LOwn.far1 r9 r2 g9.row (by omega) hg10
    clear a9 r9
    go_wp2_with fail
    refine (heldLineS_any _ _ _ _ _ _ (LSl.of_own g10 (markedL_in (by omega) (by omega))) (by omega) (by omega)).mono ?_
    rintro e wX ⟨rfl, rfl⟩
    go_wp2_with fail
    refine (toNodeS_any _ _ _ _ _ (a10.more hT10.size) (by omega)).mono ?_
    rintro e w11 ⟨A11, c11, rfl, u11, hb11⟩
    have hT11 := Below.step hT10 hb11
    have hs11 := hb11.size
    have a11 := a10.below (hb11.mono hT10.size)
    have r11 := LOwn.below r10 hb11
    have g11 := LOwn.below g10 hb11
    clear a10 r10 g10
    go_wp2_with fail
    refine (iMatchLines_any _ _ _ zn seen tol _ (NSl.of_own u11 HI.out)).mono ?_
    rintro e w12 ⟨C12, m12, k12, rfl, p12, hb12⟩
    have hT12 := Below.step hT11 hb12
    have hs12 := hb12.size
    have a12 := a11.below (hb12.mono hT11.size)
    have r12 := LOwn.below r11 hb12
    have g12 := LOwn.below g11 hb12
    have u12 := NOwn.below u11 hb12
    clear a11 r11 g11
    have hml12 : m12 ≤ 144 := by have := p12.len; simp at this; omega
    go_wp2_with fail
    refine (eqLineS_same _ _ _ _ _ _ _ _ (LSl.of_own p12 (matchLines_inL zn seen tol)) (LSl.of_own r12 (matchLines_inL zn seen tol)) (by omega)).mono ?_
    rintro e w13 ⟨rfl, hb13⟩
    have hT13 := Below.step hT12 hb13
    have hs13 := hb13.size
    have a13 := a12.below (hb13.mono hT12.size)
    have r13 := LOwn.below r12 hb13
    have g13 := LOwn.below g12 hb13
    have p13 := LOwn.below p12 hb13
    clear a12 r12 g12
    go_wp2_with fail
    refine (heldLineS_any _ _ _ _ _ _ (LSl.of_own g13 (markedL_in (by omega) (by omega))) (by omega) (by omega)).mono ?_
    rintro e wX ⟨rfl, rfl⟩
    go_wp2
    go_ret
    exact ⟨rfl, hT13⟩
end Go.Proofs.Ytpkfpegilhadfab
