/- The walk of the law FnExactMatchAll. Printed by gen_exact.py. -/
import Derived.Test.YtpkfpegilhadfabMtOpen
import Derived.Test.YtpkfpegilhadfabMtIn
set_option linter.unusedVariables false
namespace Go.Proofs.Ytpkfpegilhadfab
open Go.RowKit Lk Mt

set_option maxRecDepth 100000 in
set_option maxHeartbeats 4000000 in
theorem fnExactMatchAll_walk (A : Option Addr) (n c : Nat) (zn : List Nd) (A2 : Option Addr) (n2 c2 : Nat) (zs : List Int) (tol : Int) (w : World) (h : NSl w w.heap.size A n c zn) (h2 : ISl w w.heap.size A2 n2 c2 zs) (_ : InI tol) :
    Calls Try.prog 8 #[.slice A n c, .slice A2 n2 c2, .int .i64 tol] w fun e w' => e = .returned (.bool true) ∧ Below w.heap.size w w' := by
  have HI := Lib.hid h.inI
  have hjl := matchAll_len zn zs tol
  obtain ⟨K, hK⟩ : ∃ K, allOk zn zs tol = K := ⟨_, rfl⟩
  have HK := Lib.hid hK
  clear hK
  have bb : (K == K) = true := by simp
  by_cases hbig2 : 1048576 < n2
  · go_enter Try.func8, Try.ntmps8
    go_wp2
    go_ret
    exact ⟨rfl, Below.refl _ _⟩
  by_cases hbig : 1048576 < n
  · go_enter Try.func8, Try.ntmps8
    go_wp2_with fail
    refine (szNodeS_many _ _ _ _ hbig h.few).mono ?_
    rintro e wX ⟨rfl, rfl⟩
    go_wp2
    go_ret
    exact ⟨rfl, Below.refl _ _⟩
  · go_enter Try.func8, Try.ntmps8
    go_wp2_with fail
    refine (szNodeS_few _ _ _ _ (by omega)).mono ?_
    rintro e wX ⟨rfl, rfl⟩
    have a0 := h
    have b0 := h2
    go_wp2_with fail
    refine (toNodeS_any _ _ _ _ _ a0 (by omega)).mono ?_
    rintro e w1 ⟨A1, c1, rfl, s1, hb1⟩
    have hT1 := hb1
    have hs1 := hb1.size
    have a1 := a0.below (hb1.mono (Nat.le_refl _))
    have b1 := b0.below (hb1.mono (Nat.le_refl _))
    go_wp2_with fail
    refine (toIntS_any _ _ _ _ _ (b1.more hT1.size) (by omega)).mono ?_
    rintro e w2 ⟨B2, d2, rfl, t2, hb2⟩
    have hT2 := Below.step hT1 hb2
    have hs2 := hb2.size
    have a2 := a1.below (hb2.mono hT1.size)
    have b2 := b1.below (hb2.mono hT1.size)
    have s2 := NOwn.below s1 hb2
    clear a1 b1
    go_wp2_with fail
    refine (sMatchAll_any _ _ _ zn _ _ _ zs tol _ (NSl.of_own s2 HI.out) (ISl.of_own t2 h2.inI) (by omega)).mono ?_
    rintro e w3 ⟨C3, m3, k3, rfl, r3, hb3⟩
    have hT3 := Below.step hT2 hb3
    have hs3 := hb3.size
    have a3 := a2.below (hb3.mono hT2.size)
    have b3 := b2.below (hb3.mono hT2.size)
    have s3 := NOwn.below s2 hb3
    have t3 := own_below t2 hb3
    clear a2 b2 s2
    have hml3 : m3 ≤ 40 := by have := r3.1; simp at this; omega
    rw [HK.out]
    go_wp2_with fail
    refine (toNodeS_any _ _ _ _ _ (a3.more hT3.size) (by omega)).mono ?_
    rintro e w4 ⟨A4, c4, rfl, x4, hb4⟩
    have hT4 := Below.step hT3 hb4
    have hs4 := hb4.size
    have a4 := a3.below (hb4.mono hT3.size)
    have b4 := b3.below (hb4.mono hT3.size)
    have r4 := own_below r3 hb4
    clear a3 b3
    go_wp2_with fail
    refine (toIntS_any _ _ _ _ _ (b4.more hT4.size) (by omega)).mono ?_
    rintro e w5 ⟨B5, d5, rfl, z5, hb5⟩
    have hT5 := Below.step hT4 hb5
    have hs5 := hb5.size
    have a5 := a4.below (hb5.mono hT4.size)
    have b5 := b4.below (hb5.mono hT4.size)
    have r5 := own_below r4 hb5
    have x5 := NOwn.below x4 hb5
    clear a4 b4 r4
    go_wp2_with fail
    refine (iMatchAll_any _ _ _ zn _ _ _ zs tol _ (NSl.of_own x5 HI.out) (ISl.of_own z5 h2.inI) (by omega)).mono ?_
    rintro e w6 ⟨C6, m6, k6, rfl, g6, hb6⟩
    have hT6 := Below.step hT5 hb6
    have hs6 := hb6.size
    have a6 := a5.below (hb6.mono hT5.size)
    have b6 := b5.below (hb6.mono hT5.size)
    have r6 := own_below r5 hb6
    have x6 := NOwn.below x5 hb6
    have z6 := own_below z5 hb6
    clear a5 b5 r5 x5
    have hml6 : m6 ≤ 40 := by have := g6.1; simp at this; omega
    rw [HK.out]
    go_wp2_with fail
    refine (eqIntS_same _ _ _ _ _ _ _ _ (ISl.of_own g6 (matchAll_in zn zs tol)) (ISl.of_own r6 (matchAll_in zn zs tol)) (by omega)).mono ?_
    rintro e w7 ⟨rfl, hb7⟩
    have hT7 := Below.step hT6 hb7
    have hs7 := hb7.size
    have a7 := a6.below (hb7.mono hT6.size)
    have b7 := b6.below (hb7.mono hT6.size)
    have r7 := own_below r6 hb7
    have x7 := NOwn.below x6 hb7
    have z7 := own_below z6 hb7
    have g7 := own_below g6 hb7
    clear a6 b6 r6 x6 z6
    go_wp2_with fail
    refine (toNodeS_any _ _ _ _ _ (a7.more hT7.size) (by omega)).mono ?_
    rintro e w8 ⟨A8, c8, rfl, y8, hb8⟩
    have hT8 := Below.step hT7 hb8
    have hs8 := hb8.size
    have a8 := a7.below (hb8.mono hT7.size)
    have b8 := b7.below (hb8.mono hT7.size)
    have r8 := own_below r7 hb8
    have x8 := NOwn.below x7 hb8
    have z8 := own_below z7 hb8
    have g8 := own_below g7 hb8
    clear a7 b7 r7 x7 z7 g7
    go_wp2_with fail
    refine (eqNodeS_same _ _ _ _ _ _ _ _ (NSl.of_own x8 HI.out) (NSl.of_own y8 HI.out) (by omega)).mono ?_
    rintro e w9 ⟨rfl, hb9⟩
    have hT9 := Below.step hT8 hb9
    have hs9 := hb9.size
    have a9 := a8.below (hb9.mono hT8.size)
    have b9 := b8.below (hb9.mono hT8.size)
    have r9 := own_below r8 hb9
    have x9 := NOwn.below x8 hb9
    have z9 := own_below z8 hb9
    have g9 := own_below g8 hb9
    have y9 := NOwn.below y8 hb9
    clear a8 b8 r8 x8 z8 g8
    go_wp2_with fail
    refine (toIntS_any _ _ _ _ _ (b9.more hT9.size) (by omega)).mono ?_
    rintro e w10 ⟨B10, d10, rfl, q10, hb10⟩
    have hT10 := Below.step hT9 hb10
    have hs10 := hb10.size
    have a10 := a9.below (hb10.mono hT9.size)
    have b10 := b9.below (hb10.mono hT9.size)
    have r10 := own_below r9 hb10
    have x10 := NOwn.below x9 hb10
    have z10 := own_below z9 hb10
    have g10 := own_below g9 hb10
    clear a9 b9 r9 x9 z9 g9
    go_wp2_with fail
    refine (eqIntS_same _ _ _ _ _ _ _ _ (ISl.of_own z10 h2.inI) (ISl.of_own q10 h2.inI) (by omega)).mono ?_
    rintro e w11 ⟨rfl, hb11⟩
    have hT11 := Below.step hT10 hb11
    have hs11 := hb11.size
    have a11 := a10.below (hb11.mono hT10.size)
    have b11 := b10.below (hb11.mono hT10.size)
    have r11 := own_below r10 hb11
    have x11 := NOwn.below x10 hb11
    have z11 := own_below z10 hb11
    have g11 := own_below g10 hb11
    have q11 := own_below q10 hb11
    clear a10 b10 r10 x10 z10 g10
    go_wp2_with fail
    refine (markNodeS_any _ _ _ _ _ _ _ x11 (by omega) (by omega)).mono ?_
    rintro e w12 ⟨L12, rfl, x12, hg12⟩
    have hm12 := x11.mark (by omega) hg12
    have hs12 := hm12.size
    have hT12 := hT11.trans (hm12.mono hT3.size)
    have a12 := a11.below (hm12.mono hT3.size)
    have b12 := b11.below (hm12.mono hT3.size)
    have r12 : _ := OwnR.own_far1 r11 r3 x11.row (by omega) hg12
    have z12 := OwnR.own_far2 z11 x4.row (by omega) hg12
    have g12 := OwnR.own_far2 g11 x4.row (by omega) hg12
    clear a11 b11 r11 z11 g11
    go_wp2_with fail
    refine (markIntS_any _ _ _ _ _ _ _ z12 (by omega) (by omega)).mono ?_
    rintro e w13 ⟨rfl, z13, hg13⟩
    have hm13 := below_mark z12 (by omega) hg13
    have hs13 := hm13.size
    have hT13 := hT12.trans (hm13.mono hT4.size)
    have a13 := a12.below (hm13.mono hT4.size)
    have b13 := b12.below (hm13.mono hT4.size)
    have r13 : _ := own_far1 r12 r3 z12 (by omega) hg13
    have g13 := own_far2 g12 z5 (by omega) hg13
    clear a12 b12 r12 g12
    go_wp2_with fail
    refine (eqIntS_same _ _ _ _ _ _ _ _ (ISl.of_own g13 (matchAll_in zn zs tol)) (ISl.of_own r13 (matchAll_in zn zs tol)) (by omega)).mono ?_
    rintro e w14 ⟨rfl, hb14⟩
    have hT14 := Below.step hT13 hb14
    have hs14 := hb14.size
    have a14 := a13.below (hb14.mono hT13.size)
    have b14 := b13.below (hb14.mono hT13.size)
    have r14 := own_below r13 hb14
    have g14 := own_below g13 hb14
    clear a13 b13 r13 g13
    go_wp2_with fail
    refine (markIntS_any _ _ _ _ _ _ _ g14 (by omega) (by omega)).mono ?_
    rintro e w15 ⟨rfl, g15, hg15⟩
    have hm15 := below_mark g14 (by omega) hg15
    have hs15 := hm15.size
    have hT15 := hT14.trans (hm15.mono hT5.size)
    have a15 := a14.below (hm15.mono hT5.size)
    have b15 := b14.below (hm15.mono hT5.size)
    have r15 : _ := own_far1 r14 r3 g14 (by omega) hg15
    clear a14 b14 r14
    go_wp2_with fail
    refine (heldIntS_any _ _ _ _ _ _ (ISl.of_own g15 (iota_in (by omega) (by omega))) (by omega) (by omega)).mono ?_
    rintro e wX ⟨rfl, rfl⟩
    go_wp2_with fail
    refine (toNodeS_any _ _ _ _ _ (a15.more hT15.size) (by omega)).mono ?_
    rintro e w16 ⟨A16, c16, rfl, u16, hb16⟩
    have hT16 := Below.step hT15 hb16
    have hs16 := hb16.size
    have a16 := a15.below (hb16.mono hT15.size)
    have b16 := b15.below (hb16.mono hT15.size)
    have r16 := own_below r15 hb16
    have g16 := own_below g15 hb16
    clear a15 b15 r15 g15
    go_wp2_with fail
    refine (toIntS_any _ _ _ _ _ (b16.more hT16.size) (by omega)).mono ?_
    rintro e w17 ⟨B17, d17, rfl, v17, hb17⟩
    have hT17 := Below.step hT16 hb17
    have hs17 := hb17.size
    have a17 := a16.below (hb17.mono hT16.size)
    have b17 := b16.below (hb17.mono hT16.size)
    have r17 := own_below r16 hb17
    have g17 := own_below g16 hb17
    have u17 := NOwn.below u16 hb17
    clear a16 b16 r16 g16
    go_wp2_with fail
    refine (iMatchAll_any _ _ _ zn _ _ _ zs tol _ (NSl.of_own u17 HI.out) (ISl.of_own v17 h2.inI) (by omega)).mono ?_
    rintro e w18 ⟨C18, m18, k18, rfl, p18, hb18⟩
    have hT18 := Below.step hT17 hb18
    have hs18 := hb18.size
    have a18 := a17.below (hb18.mono hT17.size)
    have b18 := b17.below (hb18.mono hT17.size)
    have r18 := own_below r17 hb18
    have g18 := own_below g17 hb18
    have u18 := NOwn.below u17 hb18
    have v18 := own_below v17 hb18
    clear a17 b17 r17 g17 u17
    have hml18 : m18 ≤ 40 := by have := p18.1; simp at this; omega
    rw [HK.out]
    go_wp2_with fail
    refine (eqIntS_same _ _ _ _ _ _ _ _ (ISl.of_own p18 (matchAll_in zn zs tol)) (ISl.of_own r18 (matchAll_in zn zs tol)) (by omega)).mono ?_
    rintro e w19 ⟨rfl, hb19⟩
    have hT19 := Below.step hT18 hb19
    have hs19 := hb19.size
    have a19 := a18.below (hb19.mono hT18.size)
    have b19 := b18.below (hb19.mono hT18.size)
    have r19 := own_below r18 hb19
    have g19 := own_below g18 hb19
    have p19 := own_below p18 hb19
    clear a18 b18 r18 g18
    go_wp2_with fail
    refine (heldIntS_any _ _ _ _ _ _ (ISl.of_own g19 (iota_in (by omega) (by omega))) (by omega) (by omega)).mono ?_
    rintro e wX ⟨rfl, rfl⟩
    go_wp2
    go_ret
    exact ⟨rfl, hT19⟩
end Go.Proofs.Ytpkfpegilhadfab
