/- The walk of the law FnPeaksTwice. -/
import Derived.Test.YthogcokapppidabPkHelp
namespace Go.Proofs.Ythogcokapppidab
open Go.RowKit Pk

set_option maxRecDepth 100000 in
set_option maxHeartbeats 4000000 in
theorem fnPeaksTwice_walk (A : Option Addr) (n c : Nat) (bs : List Int) (w : World) (h : BSl w w.heap.size A n c bs) :
    Calls Try.prog 6 #[.slice A n c] w fun e w' => e = .returned (.bool true) ∧ Below w.heap.size w w' := by
  by_cases hbig : 1048576 < n
  · go_enter Try.func6, Try.ntmps6
    go_wp2
    go_ret
    exact ⟨rfl, Below.refl _ _⟩
  have hn : n ≤ 16777216 := by omega
  go_enter Try.func6, Try.ntmps6
  go_wp2_with fail
  refine (DrawPeaksOf_any _ _ _ _ _ h hn).mono ?_
  rintro e w1 ⟨C, m, cc, zs, least, rfl, hD, hl, hb1⟩
  have hm := hD.few
  have i1 := ISl.of_own hD.own hD.inI
  have HZ := Lib.hid i1.len
  have hs1 := hb1.size
  obtain ⟨ps, hps⟩ : ∃ ps, peaksOf zs least = ps := ⟨_, rfl⟩
  have hpl : ps.length ≤ 200 := by rw [← hps]; exact peaksOf_len
  have hpi : Hid (∀ z ∈ ps, InI z) := by
    show ∀ z ∈ ps, InI z
    rw [← hps]; exact peaksOf_in
  have HP := Lib.hid hps
  clear hps
  go_wp2_with fail
  refine (iPeaksOf_of _ _ _ _ _ _ ps HP.out i1 (by omega)).mono ?_
  rintro e w2 ⟨P, pc, rfl, o2, hb2⟩
  have hs2 := hb2.size
  have hT2 := Below.step hb1 hb2
  have i2 := (i1.below hb2).more hs2
  go_wp2_with fail
  refine (sPeaksOf_of _ _ _ _ _ _ ps HP.out i2 (by omega)).mono ?_
  rintro e w3 ⟨Q, qc, rfl, o3, hb3⟩
  have hs3 := hb3.size
  have hT3 := Below.step hT2 hb3
  have i3 := (i2.below hb3).more hs3
  have p3 := own_below o2 hb3
  go_wp2_with fail
  refine (sameInts_same _ _ _ _ _ _ _ _ (ISl.of_own p3 hpi.out) (ISl.of_own o3 hpi.out) (by omega)).mono ?_
  rintro e w4 ⟨rfl, hb4⟩
  have hs4 := hb4.size
  have hT4 := Below.step hT3 hb4
  have i4 := (i3.below hb4).more hs4
  have p4 := own_below p3 hb4
  have q4 := own_below o3 hb4
  clear i2 i3 p3
  by_cases hz : ps.length = 0
  · have hz' : ((ps.length : Int) == 0) = true := by simpa using hz
    have HZ0 := Lib.hid hz
    clear hz
    go_wp2_with fail
    refine (sameInts_same _ _ _ _ _ _ _ _ (ISl.of_own p4 hpi.out) (ISl.of_own q4 hpi.out) (by omega)).mono ?_
    rintro e w5 ⟨rfl, hb5⟩
    go_wp2
    go_ret
    exact ⟨rfl, Below.step hT4 hb5⟩
  have hz' : ((ps.length : Int) == 0) = false := by simpa using hz
  have hz0 : 0 < ps.length := by omega
  obtain ⟨hok, hpk1, hpk2⟩ := peaks_parts HP.out hz0
  have HK1 := Lib.hid hpk1
  have HK2 := Lib.hid hpk2
  clear hz hpk1 hpk2
  have hm0 : 0 < m := by
    rcases Nat.eq_zero_or_pos m with h0 | h0
    · have := HK1.out; rw [HZ.out, h0] at this; have e := pks_len zs least 0; omega
    · exact h0
  have hB : Hid (peakBest zs = (argm zs m : Int)) := by
    show peakBest zs = _
    unfold peakBest; rw [if_pos ⟨hok, by rintro rfl; have := HZ.out; simp at this; omega⟩, HZ.out]
  have hbm : argm zs m < m := by have := argm_lt zs m; omega
  have hmx := Lib.hid (argm_max zs m)
  obtain ⟨b, hbe⟩ : ∃ b, argm zs m = b := ⟨_, rfl⟩
  rw [hbe] at hB hbm hmx
  clear hbe
  go_wp2_with fail
  refine (iPeakBest_of _ _ _ _ _ _ b hB.out i4 (by omega)).mono ?_
  rintro e wX ⟨rfl, rfl⟩
  obtain ⟨bb, off, rfl, hbB, hkz, hc⟩ := i4.at_ hbm
  have h1 := hc b hbm
  have hgb := cOk_at hok b
  clear hc hkz
  by_cases hgt : 9999 < 2 * gI zs b
  · go_wp2
    go_ret
    exact ⟨rfl, hT4⟩
  · have hok2 : cOk (zs.map (2 * ·)) = true := by
      refine cOk_mk (by simpa using cOk_len hok) fun i hi => ?_
      rw [g_twice]
      have h1 := cOk_at hok i
      have h2 := hmx.out.1 i (by rw [← HZ.out]; simpa using hi)
      omega
    have HE : Hid (peaksOf (zs.map (2 * ·)) (2 * least) = ps) := by
      show peaksOf (zs.map (2 * ·)) (2 * least) = ps
      rw [HK2.out]; unfold peaksOf
      rw [if_pos hok2, List.length_map, peaks_twice]
    go_wp2_with fail
    refine (doubled_any _ _ _ _ _ i4 (by omega) hok).mono ?_
    rintro e w5 ⟨M, mc, rfl, o5, hb5⟩
    have hs5 := hb5.size
    have hT5 := Below.step hT4 hb5
    have p5 := own_below p4 hb5
    have j5 := ISl.of_own o5 (by
      intro z hz
      obtain ⟨i, hi, rfl⟩ := List.getElem_of_mem hz
      have := cOk_at hok2 i
      rw [gI_lt hi] at this
      unfold InI; omega)
    go_wp2_with fail
    refine (iPeaksOf_of _ _ _ _ _ _ ps HE.out j5 (by omega)).mono ?_
    rintro e w6 ⟨X, xc, rfl, o6, hb6⟩
    have hT6 := Below.step hT5 hb6
    have p6 := own_below p5 hb6
    go_wp2_with fail
    refine (sameInts_same _ _ _ _ _ _ _ _ (ISl.of_own o6 hpi.out) (ISl.of_own p6 hpi.out) (by omega)).mono ?_
    rintro e w7 ⟨rfl, hb7⟩
    go_wp2
    go_ret
    exact ⟨rfl, Below.step hT6 hb7⟩
end Go.Proofs.Ythogcokapppidab
