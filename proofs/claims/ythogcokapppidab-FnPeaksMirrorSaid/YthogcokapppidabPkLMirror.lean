/- The walk of the law FnPeaksMirror. -/
import Derived.Test.YthogcokapppidabPkHelp
namespace Go.Proofs.Ythogcokapppidab
open Go.RowKit Pk

set_option maxRecDepth 100000 in
set_option maxHeartbeats 4000000 in
theorem fnPeaksMirror_walk (A : Option Addr) (n c : Nat) (bs : List Int) (w : World) (h : BSl w w.heap.size A n c bs) :
    Calls Try.prog 5 #[.slice A n c] w fun e w' => e = .returned (.bool true) ∧ Below w.heap.size w w' := by
  by_cases hbig : 1048576 < n
  · go_enter Try.func5, Try.ntmps5
    go_wp2
    go_ret
    exact ⟨rfl, Below.refl _ _⟩
  have hn : n ≤ 16777216 := by omega
  go_enter Try.func5, Try.ntmps5
  go_wp2_with fail
  refine (DrawPeaksOf_any _ _ _ _ _ h hn).mono ?_
  rintro e w1 ⟨C, m, cc, zs, least, rfl, hD, hl, hb1⟩
  have hm := hD.few
  have i1 := ISl.of_own hD.own hD.inI
  have HZ := Lib.hid i1.len
  have hs1 := hb1.size
  obtain ⟨ps, hps⟩ : ∃ ps, peaksOf zs least = ps := ⟨_, rfl⟩
  have hpl : ps.length ≤ 200 := by rw [← hps]; exact peaksOf_len
  have hpi : Hid (∀ z ∈ ps, InI z) := by
    show ∀ z ∈ ps, InI z
    rw [← hps]; exact peaksOf_in
  have HP := Lib.hid hps
  clear hps
  go_wp2_with fail
  refine (iPeaksOf_of _ _ _ _ _ _ ps HP.out i1 (by omega)).mono ?_
  rintro e w2 ⟨P, pc, rfl, o2, hb2⟩
  have hs2 := hb2.size
  have hT2 := Below.step hb1 hb2
  have i2 := (i1.below hb2).more hs2
  go_wp2_with fail
  refine (sPeaksOf_of _ _ _ _ _ _ ps HP.out i2 (by omega)).mono ?_
  rintro e w3 ⟨Q, qc, rfl, o3, hb3⟩
  have hs3 := hb3.size
  have hT3 := Below.step hT2 hb3
  have i3 := (i2.below hb3).more hs3
  have p3 := own_below o2 hb3
  go_wp2_with fail
  refine (sameInts_same _ _ _ _ _ _ _ _ (ISl.of_own p3 hpi.out) (ISl.of_own o3 hpi.out) (by omega)).mono ?_
  rintro e w4 ⟨rfl, hb4⟩
  have hs4 := hb4.size
  have hT4 := Below.step hT3 hb4
  have i4 := (i3.below hb4).more hs4
  have p4 := own_below p3 hb4
  have q4 := own_below o3 hb4
  clear i2 i3 p3
  by_cases hz : ps.length = 0
  · have hz' : ((ps.length : Int) == 0) = true := by simpa using hz
    have HZ0 := Lib.hid hz
    clear hz
    go_wp2_with fail
    refine (sameInts_same _ _ _ _ _ _ _ _ (ISl.of_own p4 hpi.out) (ISl.of_own q4 hpi.out) (by omega)).mono ?_
    rintro e w5 ⟨rfl, hb5⟩
    go_wp2
    go_ret
    exact ⟨rfl, Below.step hT4 hb5⟩
  have hz' : ((ps.length : Int) == 0) = false := by simpa using hz
  have hz0 : 0 < ps.length := by omega
  obtain ⟨hok, hpk1, hpk2⟩ := peaks_parts HP.out hz0
  have HK1 := Lib.hid hpk1
  have HK2 := Lib.hid hpk2
  clear hz hpk1 hpk2
  obtain ⟨qs, hqs⟩ : ∃ qs, peaksOf zs.reverse least = qs := ⟨_, rfl⟩
  have hql : Hid (qs.length = ps.length) := by
    show qs.length = ps.length
    rw [← hqs, HK1.out]; unfold peaksOf
    rw [if_pos (cOk_rev hok), asInts_len, List.length_reverse]
    exact peaks_mirror zs least
  have HQ := Lib.hid hqs
  clear hqs
  go_wp2_with fail
  refine (mirrored_any _ _ _ _ _ i4 (by omega)).mono ?_
  rintro e w5 ⟨M, mc, rfl, o5, hb5⟩
  have hT5 := Below.step hT4 hb5
  have j5 := ISl.of_own o5 (by intro z hz; exact hD.inI z (List.mem_reverse.1 hz))
  go_wp2_with fail
  refine (iPeaksOf_of _ _ _ _ _ _ qs HQ.out j5 (by omega)).mono ?_
  rintro e w6 ⟨X, xc, rfl, o6, hb6⟩
  go_wp2
  go_ret
  exact ⟨ret_bool (by rw [hql.out]; simp), Below.step hT5 hb6⟩
end Go.Proofs.Ythogcokapppidab
