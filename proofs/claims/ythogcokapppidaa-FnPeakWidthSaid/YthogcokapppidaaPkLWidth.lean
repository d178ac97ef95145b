/- The walk of the law FnPeakWidth. -/
import Derived.Test.YthogcokapppidaaPkHelp
namespace Go.Proofs.Ythogcokapppidaa
open Go.RowKit Pk

set_option maxRecDepth 100000 in
set_option maxHeartbeats 4000000 in
theorem fnPeakWidth_walk (A : Option Addr) (n c : Nat) (bs : List Int) (w : World) (h : BSl w w.heap.size A n c bs) :
    Calls Try.prog 7 #[.slice A n c] w fun e w' => e = .returned (.bool true) ∧ Below w.heap.size w w' := by
  by_cases hbig : 1048576 < n
  · go_enter Try.func7, Try.ntmps7
    go_wp2
    go_ret
    exact ⟨rfl, Below.refl _ _⟩
  have hn : n ≤ 16777216 := by omega
  go_enter Try.func7, Try.ntmps7
  go_wp2_with fail
  refine (DrawPeakWidth_any _ _ _ _ _ h hn).mono ?_
  rintro e w1 ⟨C, m, cc, zs, a, rfl, hD, hl, hb1⟩
  have hm := hD.few
  have i1 := ISl.of_own hD.own hD.inI
  have HZ := Lib.hid i1.len
  have hs1 := hb1.size
  by_cases hz : peakWidth zs a = 0
  · go_wp2_with fail
    refine (iPeakWidth_of _ _ _ _ _ _ 0 hz i1 (by omega)).mono ?_
    rintro e w2 ⟨rfl, hb2⟩
    have hT2 := Below.step hb1 hb2
    go_wp2_with fail
    refine (sPeakWidth_of _ _ _ _ _ _ 0 hz ((i1.below hb2).more hb2.size) (by omega)).mono ?_
    rintro e w3 ⟨rfl, hb3⟩
    go_wp2
    go_ret
    exact ⟨rfl, Below.step hT2 hb3⟩
  obtain ⟨k, lo, hi, W, rfl, hok, hk, hg, hlo, hhi, hlk, hkh, hhn, hW, hsum⟩ := width_parts hz
  rw [HZ.out] at hk hhn hhi
  have HW := Lib.hid hW
  have HLO := Lib.hid hlo
  have HHI := Lib.hid hhi
  have HG := Lib.hid hg
  have HSUM := Lib.hid hsum
  have hW1 : 1 ≤ W := by omega
  have hWm : W ≤ m := by omega
  have hW0 : ((W : Int) == 0) = false := by simp; omega
  clear hW hlo hhi hg hz hsum
  go_wp2_with fail
  refine (iPeakWidth_of _ _ _ _ _ _ W HW.out i1 (by omega)).mono ?_
  rintro e w2 ⟨rfl, hb2⟩
  have hs2 := hb2.size
  have hT2 := Below.step hb1 hb2
  have i2 := (i1.below hb2).more hs2
  go_wp2_with fail
  refine (sPeakWidth_of _ _ _ _ _ _ W HW.out i2 (by omega)).mono ?_
  rintro e w3 ⟨rfl, hb3⟩
  have hs3 := hb3.size
  have hT3 := Below.step hT2 hb3
  have i3 := (i2.below hb3).more hs3
  clear i2
  go_wp2_with fail
  refine (mirrored_any _ _ _ _ _ i3 (by omega)).mono ?_
  rintro e w4 ⟨M, mc, rfl, o4, hb4⟩
  have hs4 := hb4.size
  have hT4 := Below.step hT3 hb4
  have j4 := ISl.of_own o4 (by intro z hz; exact hD.inI z (List.mem_reverse.1 hz))
  have HM : Hid (peakWidth zs.reverse ((m : Int) - 1 - (k : Int)) = (W : Int)) := by
    show peakWidth zs.reverse ((m : Int) - 1 - (k : Int)) = (W : Int)
    have := peakWidth_mirror (cs := zs) (a := (k : Int)) hok (by omega) (by rw [HZ.out]; omega) (by simpa using HG.out)
    rw [HZ.out] at this
    rw [this]; exact HW.out
  go_wp2_with fail
  refine (iPeakWidth_of _ _ _ _ _ _ W HM.out j4 (by omega)).mono ?_
  rintro e w5 ⟨rfl, hb5⟩
  go_wp2
  go_ret
  exact ⟨rfl, Below.step hT4 hb5⟩
end Go.Proofs.Ythogcokapppidaa
