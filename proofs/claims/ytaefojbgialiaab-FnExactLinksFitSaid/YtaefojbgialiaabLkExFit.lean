/- The walk of the law FnExactLinksFit. After the printed walk of FnExactLinksJoined. -/
import Derived.Test.YtaefojbgialiaabLkOpen
import Derived.Test.YtaefojbgialiaabLkFitX
set_option linter.unusedVariables false
namespace Go.Proofs.Ytaefojbgialiaab
open Go.RowKit Lk

set_option maxHeartbeats 1000000 in
theorem fnExactLinksFit_walk (many : Int) (A : Option Addr) (n c : Nat) (ls : List Link) (w : World) (_ : InI many) (h : LSl w w.heap.size A n c ls) :
    Calls Try.prog 10 #[.int .i64 many, .slice A n c] w fun e w' => e = .returned (.bool true) ∧ Below w.heap.size w w' := by
  have HI := Lib.hid h.inI
  obtain ⟨xs, hx⟩ : ∃ xs, (fitR many ls).getD [] = xs := ⟨_, rfl⟩
  obtain ⟨b, hb⟩ : ∃ b, (fitR many ls).isSome = b := ⟨_, rfl⟩
  have hjl : xs.length ≤ 12 := by rw [← hx]; exact fitD_len many ls
  have HXI : Hid (∀ z ∈ xs, InI z) := by rw [← hx]; exact fitD_in many ls
  have HX := Lib.hid hx
  have HB := Lib.hid hb
  clear hx hb
  by_cases hbig : 1048576 < n
  · go_enter Try.func10, Try.ntmps10
    go_wp2_with fail
    refine (szLinkS_many _ _ _ _ hbig h.few).mono ?_
    rintro e wX ⟨rfl, rfl⟩
    go_wp2
    go_ret
    exact ⟨rfl, Below.refl _ _⟩
  · go_enter Try.func10, Try.ntmps10
    go_wp2_with fail
    refine (szLinkS_few _ _ _ _ (by omega)).mono ?_
    rintro e wX ⟨rfl, rfl⟩
    have a0 := h
    go_wp2_with fail
    refine (toLinkS_any _ _ _ _ _ a0 (by omega)).mono ?_
    rintro e w1 ⟨A1, c1, rfl, s1, hb1⟩
    have hT1 := hb1
    have hs1 := hb1.size
    have a1 := a0.below (hb1.mono (Nat.le_refl _))
    go_wp2_with fail
    refine (sLinksFit_x _ _ _ _ _ xs b _ (LSl.of_own s1 HI.out) (by omega) HX.out HB.out).mono ?_
    rintro e w2 ⟨B2, m2, d2, rfl, r2, hb2⟩
    have hT2 := Below.step hT1 hb2
    have hs2 := hb2.size
    have a2 := a1.below (hb2.mono hT1.size)
    have s2 := LOwn.below s1 hb2
    clear a1
    have hm2 : m2 ≤ 12 := by have := r2.1; simp at this; omega
    go_wp2_with fail
    refine (toLinkS_any _ _ _ _ _ (a2.more hT2.size) (by omega)).mono ?_
    rintro e w3 ⟨A3, c3, rfl, x3, hb3⟩
    have hT3 := Below.step hT2 hb3
    have hs3 := hb3.size
    have a3 := a2.below (hb3.mono hT2.size)
    have r3 := own_below r2 hb3
    clear a2
    go_wp2_with fail
    refine (iLinksFit_x _ _ _ _ _ xs b _ (LSl.of_own x3 HI.out) (by omega) HX.out HB.out).mono ?_
    rintro e w4 ⟨B4, m4, d4, rfl, g4, hb4⟩
    have hT4 := Below.step hT3 hb4
    have hs4 := hb4.size
    have a4 := a3.below (hb4.mono hT3.size)
    have r4 := own_below r3 hb4
    have x4 := LOwn.below x3 hb4
    clear a3 r3
    have hm4 : m4 ≤ 12 := by have := g4.1; simp at this; omega
    go_wp2_with fail
    refine (eqIntS_same _ _ _ _ _ _ _ _ (ISl.of_own g4 HXI.out) (ISl.of_own r4 HXI.out) (by omega)).mono ?_
    rintro e w5 ⟨rfl, hb5⟩
    have hT5 := Below.step hT4 hb5
    have hs5 := hb5.size
    have a5 := a4.below (hb5.mono hT4.size)
    have r5 := own_below r4 hb5
    have x5 := LOwn.below x4 hb5
    have g5 := own_below g4 hb5
    clear a4 r4 x4
    go_wp2_with fail
    refine (toLinkS_any _ _ _ _ _ (a5.more hT5.size) (by omega)).mono ?_
    rintro e w6 ⟨A6, c6, rfl, y6, hb6⟩
    have hT6 := Below.step hT5 hb6
    have hs6 := hb6.size
    have a6 := a5.below (hb6.mono hT5.size)
    have r6 := own_below r5 hb6
    have x6 := LOwn.below x5 hb6
    have g6 := own_below g5 hb6
    clear a5 r5 x5 g5
    go_wp2_with fail
    refine (eqLinkS_same _ _ _ _ _ _ _ _ (LSl.of_own x6 HI.out) (LSl.of_own y6 HI.out) (by omega)).mono ?_
    rintro e w7 ⟨rfl, hb7⟩
    have hT7 := Below.step hT6 hb7
    have hs7 := hb7.size
    have a7 := a6.below (hb7.mono hT6.size)
    have r7 := own_below r6 hb7
    have x7 := LOwn.below x6 hb7
    have g7 := own_below g6 hb7
    have y7 := LOwn.below y6 hb7
    clear a6 r6 x6 g6
    go_wp2_with fail
    refine (markLinkS_any _ _ _ _ _ _ _ x7 (by omega) (by omega)).mono ?_
    rintro e w8 ⟨L8, rfl, x8, hg8⟩
    have hm8 := x7.mark (by omega) hg8
    have hs8 := hm8.size
    have hT8 := hT7.trans (hm8.mono hT2.size)
    have a8 := a7.below (hm8.mono hT2.size)
    have r8 := OwnR.own_far1 r7 r2 x7.row (by omega) hg8
    have g8 := OwnR.own_far2 g7 x3.row (by omega) hg8
    clear a7 r7 g7
    go_wp2_with fail
    refine (eqIntS_same _ _ _ _ _ _ _ _ (ISl.of_own g8 HXI.out) (ISl.of_own r8 HXI.out) (by omega)).mono ?_
    rintro e w9 ⟨rfl, hb9⟩
    have hT9 := Below.step hT8 hb9
    have hs9 := hb9.size
    have a9 := a8.below (hb9.mono hT8.size)
    have r9 := own_below r8 hb9
    have g9 := own_below g8 hb9
    clear a8 r8 g8
    go_wp2_with fail
    refine (markIntS_any _ _ _ _ _ _ _ g9 (by omega) (by omega)).mono ?_
    rintro e w10 ⟨rfl, g10, hg10⟩
    have hm10 := below_mark g9 (by omega) hg10
    have hs10 := hm10.size
    have hT10 := hT9.trans (hm10.mono hT3.size)
    have a10 := a9.below (hm10.mono hT3.size)
    have r10 := own_far1 r9 r2 g9 (by omega) hg10
    clear a9 r9
    go_wp2_with fail
    refine (heldIntS_any _ _ _ _ _ _ (ISl.of_own g10 (iota_in (by omega) (by omega))) (by omega) (by omega)).mono ?_
    rintro e wX ⟨rfl, rfl⟩
    go_wp2_with fail
    refine (toLinkS_any _ _ _ _ _ (a10.more hT10.size) (by omega)).mono ?_
    rintro e w11 ⟨A11, c11, rfl, z11, hb11⟩
    have hT11 := Below.step hT10 hb11
    have hs11 := hb11.size
    have a11 := a10.below (hb11.mono hT10.size)
    have r11 := own_below r10 hb11
    have g11 := own_below g10 hb11
    clear a10 r10 g10
    go_wp2_with fail
    refine (iLinksFit_x _ _ _ _ _ xs b _ (LSl.of_own z11 HI.out) (by omega) HX.out HB.out).mono ?_
    rintro e w12 ⟨B12, m12, d12, rfl, t12, hb12⟩
    have hT12 := Below.step hT11 hb12
    have hs12 := hb12.size
    have a12 := a11.below (hb12.mono hT11.size)
    have r12 := own_below r11 hb12
    have g12 := own_below g11 hb12
    have z12 := LOwn.below z11 hb12
    clear a11 r11 g11
    have hm12 : m12 ≤ 12 := by have := t12.1; simp at this; omega
    go_wp2_with fail
    refine (eqIntS_same _ _ _ _ _ _ _ _ (ISl.of_own t12 HXI.out) (ISl.of_own r12 HXI.out) (by omega)).mono ?_
    rintro e w13 ⟨rfl, hb13⟩
    have hT13 := Below.step hT12 hb13
    have hs13 := hb13.size
    have a13 := a12.below (hb13.mono hT12.size)
    have r13 := own_below r12 hb13
    have g13 := own_below g12 hb13
    have t13 := own_below t12 hb13
    clear a12 r12 g12
    go_wp2_with fail
    refine (heldIntS_any _ _ _ _ _ _ (ISl.of_own g13 (iota_in (by omega) (by omega))) (by omega) (by omega)).mono ?_
    rintro e wX ⟨rfl, rfl⟩
    go_wp2
    go_ret
    exact ⟨rfl, hT13⟩
end Go.Proofs.Ytaefojbgialiaab
