/- The walks of the laws 'the program's function returns what the reference's returns' for links. Printed by gen_exact.py. -/
import Derived.Test.YtaefojbgialiaaaLkOpen
import Derived.Test.YtaefojbgialiaaaLkLeast
set_option linter.unusedVariables false
namespace Go.Proofs.Ytaefojbgialiaaa
open Go.RowKit Lk

set_option maxHeartbeats 4000000 in
theorem fnExactLinksNear_walk (many : Int) (A : Option Addr) (n c : Nat) (ls : List Link) (tol : Int) (w : World) (_ : InI many) (h : LSl w w.heap.size A n c ls) (ht : InI tol) :
    Calls Try.prog 3 #[.int .i64 many, .slice A n c, .int .i64 tol] w fun e w' => e = .returned (.bool true) ∧ Below w.heap.size w w' := by
  have HI := Lib.hid h.inI

  by_cases hbig : 1048576 < n
  · go_enter Try.func3, Try.ntmps3
    go_wp2_with fail
    refine (szLinkS_many _ _ _ _ hbig h.few).mono ?_
    rintro e wX ⟨rfl, rfl⟩
    go_wp2
    go_ret
    exact ⟨rfl, Below.refl _ _⟩
  · go_enter Try.func3, Try.ntmps3
    go_wp2_with fail
    refine (szLinkS_few _ _ _ _ (by omega)).mono ?_
    rintro e wX ⟨rfl, rfl⟩
    have a0 := h
    go_wp2_with fail
    refine (toLinkS_any _ _ _ _ _ a0 (by omega)).mono ?_
    rintro e w1 ⟨A1, c1, rfl, s1, hb1⟩
    have hT1 := hb1
    have hs1 := hb1.size
    have a1 := a0.below (hb1.mono (Nat.le_refl _))
    go_wp2_with fail
    refine (sLinksNear_any _ _ _ _ _ _ _ (LSl.of_own s1 HI.out) (by omega)).mono ?_
    rintro e w2 ⟨rfl, hb2⟩
    have hT2 := Below.step hT1 hb2
    have hs2 := hb2.size
    have a2 := a1.below (hb2.mono hT1.size)
    have s2 := LOwn.below s1 hb2
    clear a1
    go_wp2_with fail
    refine (toLinkS_any _ _ _ _ _ (a2.more hT2.size) (by omega)).mono ?_
    rintro e w3 ⟨A3, c3, rfl, x3, hb3⟩
    have hT3 := Below.step hT2 hb3
    have hs3 := hb3.size
    have a3 := a2.below (hb3.mono hT2.size)
    clear a2
    go_wp2_with fail
    refine (iLinksNear_any _ _ _ _ _ _ _ (LSl.of_own x3 HI.out) (by omega) ht).mono ?_
    rintro e w4 ⟨rfl, hb4⟩
    have hT4 := Below.step hT3 hb4
    have hs4 := hb4.size
    have a4 := a3.below (hb4.mono hT3.size)
    have x4 := LOwn.below x3 hb4
    clear a3
    go_wp2_with fail
    refine (toLinkS_any _ _ _ _ _ (a4.more hT4.size) (by omega)).mono ?_
    rintro e w5 ⟨A5, c5, rfl, y5, hb5⟩
    have hT5 := Below.step hT4 hb5
    have hs5 := hb5.size
    have a5 := a4.below (hb5.mono hT4.size)
    have x5 := LOwn.below x4 hb5
    clear a4 x4
    go_wp2_with fail
    refine (eqLinkS_same _ _ _ _ _ _ _ _ (LSl.of_own x5 HI.out) (LSl.of_own y5 HI.out) (by omega)).mono ?_
    rintro e w6 ⟨rfl, hb6⟩
    have hT6 := Below.step hT5 hb6
    have hs6 := hb6.size
    have a6 := a5.below (hb6.mono hT5.size)
    have x6 := LOwn.below x5 hb6
    have y6 := LOwn.below y5 hb6
    clear a5 x5
    go_wp2
    go_ret
    exact ⟨rfl, hT6⟩

set_option maxHeartbeats 4000000 in
theorem fnExactLinksLeast_walk (many : Int) (A : Option Addr) (n c : Nat) (ls : List Link) (w : World) (_ : InI many) (h : LSl w w.heap.size A n c ls) :
    Calls Try.prog 10 #[.int .i64 many, .slice A n c] w fun e w' => e = .returned (.bool true) ∧ Below w.heap.size w w' := by
  have HI := Lib.hid h.inI
  obtain ⟨v, hv⟩ := leastRes_ex many ls
  by_cases hbig : 1048576 < n
  · go_enter Try.func10, Try.ntmps10
    go_wp2_with fail
    refine (szLinkS_many _ _ _ _ hbig h.few).mono ?_
    rintro e wX ⟨rfl, rfl⟩
    go_wp2
    go_ret
    exact ⟨rfl, Below.refl _ _⟩
  · go_enter Try.func10, Try.ntmps10
    go_wp2_with fail
    refine (szLinkS_few _ _ _ _ (by omega)).mono ?_
    rintro e wX ⟨rfl, rfl⟩
    have a0 := h
    go_wp2_with fail
    refine (toLinkS_any _ _ _ _ _ a0 (by omega)).mono ?_
    rintro e w1 ⟨A1, c1, rfl, s1, hb1⟩
    have hT1 := hb1
    have hs1 := hb1.size
    have a1 := a0.below (hb1.mono (Nat.le_refl _))
    go_wp2_with fail
    refine (sLinksLeast_any _ _ _ _ _ v _ (LSl.of_own s1 HI.out) (by omega) hv).mono ?_
    rintro e w2 ⟨rfl, hb2⟩
    have hT2 := Below.step hT1 hb2
    have hs2 := hb2.size
    have a2 := a1.below (hb2.mono hT1.size)
    have s2 := LOwn.below s1 hb2
    clear a1
    go_wp2_with fail
    refine (toLinkS_any _ _ _ _ _ (a2.more hT2.size) (by omega)).mono ?_
    rintro e w3 ⟨A3, c3, rfl, x3, hb3⟩
    have hT3 := Below.step hT2 hb3
    have hs3 := hb3.size
    have a3 := a2.below (hb3.mono hT2.size)
    clear a2
    go_wp2_with fail
    refine (iLinksLeast_any _ _ _ _ _ v _ (LSl.of_own x3 HI.out) (by omega) hv).mono ?_
    rintro e w4 ⟨rfl, hb4⟩
    have hT4 := Below.step hT3 hb4
    have hs4 := hb4.size
    have a4 := a3.below (hb4.mono hT3.size)
    have x4 := LOwn.below x3 hb4
    clear a3
    go_wp2_with fail
    refine (toLinkS_any _ _ _ _ _ (a4.more hT4.size) (by omega)).mono ?_
    rintro e w5 ⟨A5, c5, rfl, y5, hb5⟩
    have hT5 := Below.step hT4 hb5
    have hs5 := hb5.size
    have a5 := a4.below (hb5.mono hT4.size)
    have x5 := LOwn.below x4 hb5
    clear a4 x4
    go_wp2_with fail
    refine (eqLinkS_same _ _ _ _ _ _ _ _ (LSl.of_own x5 HI.out) (LSl.of_own y5 HI.out) (by omega)).mono ?_
    rintro e w6 ⟨rfl, hb6⟩
    have hT6 := Below.step hT5 hb6
    have hs6 := hb6.size
    have a6 := a5.below (hb6.mono hT5.size)
    have x6 := LOwn.below x5 hb6
    have y6 := LOwn.below y5 hb6
    clear a5 x5
    go_wp2
    go_ret
    exact ⟨rfl, hT6⟩

set_option maxHeartbeats 4000000 in
theorem fnExactLinksGap_walk (many : Int) (A : Option Addr) (n c : Nat) (ls : List Link) (A2 : Option Addr) (m c2 : Nat) (es : List Int) (w : World) (_ : InI many) (h : LSl w w.heap.size A n c ls) (h2 : ISl w w.heap.size A2 m c2 es) :
    Calls Try.prog 4 #[.int .i64 many, .slice A n c, .slice A2 m c2] w fun e w' => e = .returned (.bool true) ∧ Below w.heap.size w w' := by
  have HI := Lib.hid h.inI
  by_cases hbig2 : 1048576 < m
  · go_enter Try.func4, Try.ntmps4
    go_wp2
    go_ret
    exact ⟨rfl, Below.refl _ _⟩
  by_cases hbig : 1048576 < n
  · go_enter Try.func4, Try.ntmps4
    go_wp2_with fail
    refine (szLinkS_many _ _ _ _ hbig h.few).mono ?_
    rintro e wX ⟨rfl, rfl⟩
    go_wp2
    go_ret
    exact ⟨rfl, Below.refl _ _⟩
  · go_enter Try.func4, Try.ntmps4
    go_wp2_with fail
    refine (szLinkS_few _ _ _ _ (by omega)).mono ?_
    rintro e wX ⟨rfl, rfl⟩
    have a0 := h
    have b0 := h2
    go_wp2_with fail
    refine (toLinkS_any _ _ _ _ _ a0 (by omega)).mono ?_
    rintro e w1 ⟨A1, c1, rfl, s1, hb1⟩
    have hT1 := hb1
    have hs1 := hb1.size
    have a1 := a0.below (hb1.mono (Nat.le_refl _))
    have b1 := b0.below (hb1.mono (Nat.le_refl _))
    go_wp2_with fail
    refine (toIntS_any _ _ _ _ _ (b1.more hT1.size) (by omega)).mono ?_
    rintro e w2 ⟨B2, d2, rfl, t2, hb2⟩
    have hT2 := Below.step hT1 hb2
    have hs2 := hb2.size
    have a2 := a1.below (hb2.mono hT1.size)
    have b2 := b1.below (hb2.mono hT1.size)
    have s2 := LOwn.below s1 hb2
    clear a1 b1
    go_wp2_with fail
    refine (sLinksGap_any _ _ _ _ _ _ _ _ _ _ (LSl.of_own s2 HI.out) (ISl.of_own t2 h2.inI) (by omega) (by omega)).mono ?_
    rintro e w3 ⟨rfl, hb3⟩
    have hT3 := Below.step hT2 hb3
    have hs3 := hb3.size
    have a3 := a2.below (hb3.mono hT2.size)
    have b3 := b2.below (hb3.mono hT2.size)
    have s3 := LOwn.below s2 hb3
    have t3 := own_below t2 hb3
    clear a2 b2 s2
    go_wp2_with fail
    refine (toLinkS_any _ _ _ _ _ (a3.more hT3.size) (by omega)).mono ?_
    rintro e w4 ⟨A4, c4, rfl, x4, hb4⟩
    have hT4 := Below.step hT3 hb4
    have hs4 := hb4.size
    have a4 := a3.below (hb4.mono hT3.size)
    have b4 := b3.below (hb4.mono hT3.size)
    clear a3 b3
    go_wp2_with fail
    refine (toIntS_any _ _ _ _ _ (b4.more hT4.size) (by omega)).mono ?_
    rintro e w5 ⟨B5, d5, rfl, z5, hb5⟩
    have hT5 := Below.step hT4 hb5
    have hs5 := hb5.size
    have a5 := a4.below (hb5.mono hT4.size)
    have b5 := b4.below (hb5.mono hT4.size)
    have x5 := LOwn.below x4 hb5
    clear a4 b4
    go_wp2_with fail
    refine (iLinksGap_any _ _ _ _ _ _ _ _ _ _ (LSl.of_own x5 HI.out) (ISl.of_own z5 h2.inI) (by omega) (by omega)).mono ?_
    rintro e w6 ⟨rfl, hb6⟩
    have hT6 := Below.step hT5 hb6
    have hs6 := hb6.size
    have a6 := a5.below (hb6.mono hT5.size)
    have b6 := b5.below (hb6.mono hT5.size)
    have x6 := LOwn.below x5 hb6
    have z6 := own_below z5 hb6
    clear a5 b5 x5
    go_wp2_with fail
    refine (toLinkS_any _ _ _ _ _ (a6.more hT6.size) (by omega)).mono ?_
    rintro e w7 ⟨A7, c7, rfl, y7, hb7⟩
    have hT7 := Below.step hT6 hb7
    have hs7 := hb7.size
    have a7 := a6.below (hb7.mono hT6.size)
    have b7 := b6.below (hb7.mono hT6.size)
    have x7 := LOwn.below x6 hb7
    have z7 := own_below z6 hb7
    clear a6 b6 x6 z6
    go_wp2_with fail
    refine (eqLinkS_same _ _ _ _ _ _ _ _ (LSl.of_own x7 HI.out) (LSl.of_own y7 HI.out) (by omega)).mono ?_
    rintro e w8 ⟨rfl, hb8⟩
    have hT8 := Below.step hT7 hb8
    have hs8 := hb8.size
    have a8 := a7.below (hb8.mono hT7.size)
    have b8 := b7.below (hb8.mono hT7.size)
    have x8 := LOwn.below x7 hb8
    have z8 := own_below z7 hb8
    have y8 := LOwn.below y7 hb8
    clear a7 b7 x7 z7
    go_wp2_with fail
    refine (toIntS_any _ _ _ _ _ (b8.more hT8.size) (by omega)).mono ?_
    rintro e w9 ⟨B9, d9, rfl, q9, hb9⟩
    have hT9 := Below.step hT8 hb9
    have hs9 := hb9.size
    have a9 := a8.below (hb9.mono hT8.size)
    have b9 := b8.below (hb9.mono hT8.size)
    have z9 := own_below z8 hb9
    clear a8 b8 z8
    go_wp2_with fail
    refine (eqIntS_same _ _ _ _ _ _ _ _ (ISl.of_own z9 h2.inI) (ISl.of_own q9 h2.inI) (by omega)).mono ?_
    rintro e w10 ⟨rfl, hb10⟩
    have hT10 := Below.step hT9 hb10
    have hs10 := hb10.size
    have a10 := a9.below (hb10.mono hT9.size)
    have b10 := b9.below (hb10.mono hT9.size)
    have z10 := own_below z9 hb10
    have q10 := own_below q9 hb10
    clear a9 b9 z9
    go_wp2
    go_ret
    exact ⟨rfl, hT10⟩
end Go.Proofs.Ytaefojbgialiaaa
