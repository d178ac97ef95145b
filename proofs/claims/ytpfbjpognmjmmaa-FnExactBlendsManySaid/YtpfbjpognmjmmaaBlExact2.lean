/- The walks of the laws 'the program's function returns what the reference's returns' for blends. Printed by gen_exact2.py. -/
import Derived.Test.YtpfbjpognmjmmaaBlImplN
set_option linter.unusedVariables false
namespace Go.Proofs.Ytpfbjpognmjmmaa
open Go.RowKit Bl

set_option maxHeartbeats 4000000 in
theorem fnExactBlendsMany_walk (A : Option Addr) (n c : Nat) (zs : List Int) (wd : Int) (w : World) (h : ISl w w.heap.size A n c zs) (_ : InI wd) :
    Calls Try.prog 4 #[.slice A n c, .int .i64 wd] w fun e w' => e = .returned (.bool true) ∧ Below w.heap.size w w' := by
  by_cases hbig : 1048576 < n
  · go_enter Try.func4, Try.ntmps4
    go_wp2
    go_ret
    exact ⟨rfl, Below.refl _ _⟩
  · obtain ⟨M, hM⟩ : ∃ M, (if blB zs wd = true then ((blR zs wd).length : Int) else -1) = M := ⟨_, rfl⟩
    have HM := Lib.hid hM
    clear hM
    go_enter Try.func4, Try.ntmps4
    have a0 := h
    go_wp2_with fail
    refine (toIntS_any _ _ _ _ _ a0 (by omega)).mono ?_
    rintro e w1 ⟨A1, c1, rfl, s1, hb1⟩
    have hT1 := hb1
    have hs1 := hb1.size
    have a1 := a0.below (hb1.mono (Nat.le_refl _))
    go_wp2_with fail
    refine (sBlendsMany_any _ _ _ _ wd _ (ISl.of_own s1 h.inI) (by omega)).mono ?_
    rintro e w2 ⟨rfl, hb2⟩
    have hT2 := Below.step hT1 hb2
    have hs2 := hb2.size
    have a2 := a1.below (hb2.mono (by omega))
    have s2 := own_below s1 hb2
    clear a1
    rw [HM.out]
    go_wp2_with fail
    refine (toIntS_any _ _ _ _ _ (a2.more hT2.size) (by omega)).mono ?_
    rintro e w3 ⟨A3, c3, rfl, x3, hb3⟩
    have hT3 := Below.step hT2 hb3
    have hs3 := hb3.size
    have a3 := a2.below (hb3.mono (by omega))
    clear a2
    go_wp2_with fail
    refine (iBlendsMany_any _ _ _ _ wd _ (ISl.of_own x3 h.inI) (by omega)).mono ?_
    rintro e w4 ⟨rfl, hb4⟩
    have hT4 := Below.step hT3 hb4
    have hs4 := hb4.size
    have a4 := a3.below (hb4.mono (by omega))
    have x4 := own_below x3 hb4
    clear a3
    rw [HM.out]
    go_wp2_with fail
    refine (toIntS_any _ _ _ _ _ (a4.more hT4.size) (by omega)).mono ?_
    rintro e w5 ⟨A5, c5, rfl, y5, hb5⟩
    have hT5 := Below.step hT4 hb5
    have hs5 := hb5.size
    have a5 := a4.below (hb5.mono (by omega))
    have x5 := own_below x4 hb5
    clear a4 x4
    go_wp2_with fail
    refine (eqIntS_same _ _ _ _ _ _ _ _ (ISl.of_own x5 h.inI) (ISl.of_own y5 h.inI) (by omega)).mono ?_
    rintro e w6 ⟨rfl, hb6⟩
    have hT6 := Below.step hT5 hb6
    have hs6 := hb6.size
    have a6 := a5.below (hb6.mono (by omega))
    have x6 := own_below x5 hb6
    have y6 := own_below y5 hb6
    clear a5 x5
    go_wp2
    go_ret
    exact ⟨rfl, hT6⟩

set_option maxHeartbeats 4000000 in
theorem fnExactBlendsOf_walk (A : Option Addr) (n c : Nat) (zs : List Int) (wd : Int) (w : World) (h : ISl w w.heap.size A n c zs) (_ : InI wd) :
    Calls Try.prog 8 #[.slice A n c, .int .i64 wd] w fun e w' => e = .returned (.bool true) ∧ Below w.heap.size w w' := by
  by_cases hbig : 1048576 < n
  · go_enter Try.func8, Try.ntmps8
    go_wp2
    go_ret
    exact ⟨rfl, Below.refl _ _⟩
  · have hrl := blR_len zs wd
    go_enter Try.func8, Try.ntmps8
    have a0 := h
    go_wp2_with fail
    refine (toIntS_any _ _ _ _ _ a0 (by omega)).mono ?_
    rintro e w1 ⟨A1, c1, rfl, s1, hb1⟩
    have hT1 := hb1
    have hs1 := hb1.size
    have a1 := a0.below (hb1.mono (Nat.le_refl _))
    go_wp2_with fail
    refine (sBlendsOf_any _ _ _ _ wd _ (ISl.of_own s1 h.inI) (by omega)).mono ?_
    rintro e w2 ⟨B2, m2, d2, rfl, ro2, hb2⟩
    have hT2 := Below.step hT1 hb2
    have hs2 := hb2.size
    have a2 := a1.below (hb2.mono (by omega))
    have s2 := own_below s1 hb2
    clear a1
    have hl2 : (blR zs wd).length = m2 := by obtain ⟨S, hS⟩ := ro2; exact hS.len
    have r2 := GSl.of_own ro2 (blR_in zs wd)
    clear ro2
    have hn2 : m2 ≤ 40 := by omega
    go_wp2_with fail
    refine (toIntS_any _ _ _ _ _ (a2.more hT2.size) (by omega)).mono ?_
    rintro e w3 ⟨A3, c3, rfl, x3, hb3⟩
    have hT3 := Below.step hT2 hb3
    have hs3 := hb3.size
    have a3 := a2.below (hb3.mono (by omega))
    have r3 := r2.below (hb3.mono (by omega))
    clear a2
    go_wp2_with fail
    refine (iBlendsOf_any _ _ _ _ wd _ (ISl.of_own x3 h.inI) (by omega)).mono ?_
    rintro e w4 ⟨B4, m4, d4, rfl, go4, hb4⟩
    have hT4 := Below.step hT3 hb4
    have hs4 := hb4.size
    have a4 := a3.below (hb4.mono (by omega))
    have r4 := r3.below (hb4.mono (by omega))
    have x4 := own_below x3 hb4
    clear a3 r3
    have hl4 : (blR zs wd).length = m4 := by obtain ⟨S, hS⟩ := go4; exact hS.len
    have g4 := go4
    clear go4
    have hn4 : m4 ≤ 40 := by omega
    go_wp2_with fail
    refine (eqIntSS_same _ _ _ _ _ _ _ _ (GSl.of_own g4 (blR_in zs wd)) (r4.more (by omega)) (by omega) (blR_small zs wd)).mono ?_
    rintro e w5 ⟨rfl, hb5⟩
    have hT5 := Below.step hT4 hb5
    have hs5 := hb5.size
    have a5 := a4.below (hb5.mono (by omega))
    have r5 := r4.below (hb5.mono (by omega))
    have x5 := own_below x4 hb5
    have g5 := GOwn.below g4 hb5
    clear a4 r4 x4
    go_wp2_with fail
    refine (toIntS_any _ _ _ _ _ (a5.more hT5.size) (by omega)).mono ?_
    rintro e w6 ⟨A6, c6, rfl, y6, hb6⟩
    have hT6 := Below.step hT5 hb6
    have hs6 := hb6.size
    have a6 := a5.below (hb6.mono (by omega))
    have r6 := r5.below (hb6.mono (by omega))
    have x6 := own_below x5 hb6
    have g6 := GOwn.below g5 hb6
    clear a5 r5 x5 g5
    go_wp2_with fail
    refine (eqIntS_same _ _ _ _ _ _ _ _ (ISl.of_own x6 h.inI) (ISl.of_own y6 h.inI) (by omega)).mono ?_
    rintro e w7 ⟨rfl, hb7⟩
    have hT7 := Below.step hT6 hb7
    have hs7 := hb7.size
    have a7 := a6.below (hb7.mono (by omega))
    have r7 := r6.below (hb7.mono (by omega))
    have x7 := own_below x6 hb7
    have g7 := GOwn.below g6 hb7
    have y7 := own_below y6 hb7
    clear a6 r6 x6 g6
    go_wp2_with fail
    refine (markIntS_any _ _ _ _ _ _ _ x7 (by omega) (by omega)).mono ?_
    rintro e w8 ⟨rfl, x8, hg8⟩
    have hm8 := below_mark x7 (by omega) hg8
    have hs8 := hm8.size
    have hT8 := hT7.trans (hm8.mono hT2.size)
    have a8 := a7.below (hm8.mono (by omega))
    have r8 := r7.below (hm8.mono (by omega))
    have g8 := GOwn.far2 g7 x3 (by omega) hg8
    clear a7 r7 g7
    go_wp2_with fail
    refine (eqIntSS_same _ _ _ _ _ _ _ _ (GSl.of_own g8 (blR_in zs wd)) (r8.more (by omega)) (by omega) (blR_small zs wd)).mono ?_
    rintro e w9 ⟨rfl, hb9⟩
    have hT9 := Below.step hT8 hb9
    have hs9 := hb9.size
    have a9 := a8.below (hb9.mono (by omega))
    have r9 := r8.below (hb9.mono (by omega))
    have g9 := GOwn.below g8 hb9
    clear a8 r8 g8
    go_wp2_with fail
    refine (markIntSS_any _ _ _ _ _ _ g9 (by omega) (by omega) (by omega) (by omega) (blR_small zs wd)).mono ?_
    rintro e w10 ⟨G, rfl, hM, g10, hm10⟩
    have hs10 := hm10.size
    have hT10 := hT9.trans (hm10.mono hT3.size)
    have a10 := a9.below (hm10.mono (by omega))
    have r10 := r9.below (hm10.mono (by omega))
    clear a9 r9
    have HM := Lib.hid hM
    have HGI : Hid (∀ g ∈ G, ∀ z ∈ g, InI z) := hM.in_ (by omega) (by omega) (blR_small zs wd) (by omega)
    clear hM
    obtain ⟨o, ho⟩ : ∃ o, offs (blR zs wd) m4 = o := ⟨_, rfl⟩
    have HO := Lib.hid ho
    rw [ho]
    clear ho
    have ho1 : (0 : Int) ≤ 1 + (o : Int) := by omega
    have ho2 : ¬ (1 + (o : Int) < 0) := by omega
    go_wp2_with fail
    refine (heldIntSS_any _ _ _ _ _ _ _ _ (GSl.of_own g10 HGI.out) HM.out hl4 (by omega) (by omega) (by omega) (blR_small zs wd)).mono ?_
    rintro e wX ⟨rfl, rfl⟩
    rw [HO.out]
    go_wp2_with fail
    refine (toIntS_any _ _ _ _ _ (a10.more hT10.size) (by omega)).mono ?_
    rintro e w11 ⟨A11, c11, rfl, z11, hb11⟩
    have hT11 := Below.step hT10 hb11
    have hs11 := hb11.size
    have a11 := a10.below (hb11.mono (by omega))
    have r11 := r10.below (hb11.mono (by omega))
    have g11 := GOwn.below g10 hb11
    clear a10 r10 g10
    go_wp2_with fail
    refine (iBlendsOf_any _ _ _ _ wd _ (ISl.of_own z11 h.inI) (by omega)).mono ?_
    rintro e w12 ⟨B12, m12, d12, rfl, to12, hb12⟩
    have hT12 := Below.step hT11 hb12
    have hs12 := hb12.size
    have a12 := a11.below (hb12.mono (by omega))
    have r12 := r11.below (hb12.mono (by omega))
    have g12 := GOwn.below g11 hb12
    have z12 := own_below z11 hb12
    clear a11 r11 g11
    have hl12 : (blR zs wd).length = m12 := by obtain ⟨S, hS⟩ := to12; exact hS.len
    have t12 := GSl.of_own to12 (blR_in zs wd)
    clear to12
    have hn12 : m12 ≤ 40 := by omega
    go_wp2_with fail
    refine (eqIntSS_same _ _ _ _ _ _ _ _ (t12.more (by omega)) (r12.more (by omega)) (by omega) (blR_small zs wd)).mono ?_
    rintro e w13 ⟨rfl, hb13⟩
    have hT13 := Below.step hT12 hb13
    have hs13 := hb13.size
    have a13 := a12.below (hb13.mono (by omega))
    have r13 := r12.below (hb13.mono (by omega))
    have g13 := GOwn.below g12 hb13
    have t13 := t12.below (hb13.mono (by omega))
    clear a12 r12 g12
    go_wp2_with fail
    refine (heldIntSS_any _ _ _ _ _ _ _ _ (GSl.of_own g13 HGI.out) HM.out hl4 (by omega) (by omega) (by omega) (blR_small zs wd)).mono ?_
    rintro e wX ⟨rfl, rfl⟩
    rw [HO.out]
    go_wp2
    go_ret
    exact ⟨rfl, hT13⟩
end Go.Proofs.Ytpfbjpognmjmmaa
