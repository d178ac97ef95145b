/- The walk of the law FnMarkShiftBack. -/
import Derived.Test.YtdhpnjmnjckihaaMkDraw
set_option linter.unusedVariables false
namespace Go.Proofs.Ytdhpnjmnjckihaa
open Go.RowKit Mk

set_option maxHeartbeats 1000000 in
theorem sameMarks_same (A A' : Option Addr) (n c n' c' : Nat) (ls : List Mrk) (w : World) (h : MSl w w.heap.size A n c ls) (h' : MSl w w.heap.size A' n' c' ls) (hn : n ≤ 16777216) :
    Calls Try.prog 16 #[.slice A n c, .slice A' n' c'] w fun e w' => e = .returned (.bool true) ∧ Below w.heap.size w w' := by
  obtain rfl : n = n' := h.len.symm.trans h'.len
  go_enter Try.func16, Try.ntmps16
  go_wp2
  go_loopw [5] (fun i wr => ∃ k : Nat, k ≤ n ∧ i = .int .i64 k ∧ Below w.heap.size w wr) (fun i _ => n - (intOf i).toNat)
  case atStart => exact ⟨0, Nat.zero_le _, rfl, Below.refl _ _⟩
  case round =>
    obtain ⟨k, hk, rfl, hb⟩ := hrel
    by_cases hlt : k < n
    · obtain ⟨b, off, rfl, hbB, hkz, hc⟩ := h.at_ hlt
      obtain ⟨b', off', rfl, hbB', _, hc'⟩ := h'.at_ hlt
      obtain ⟨q1, q2⟩ := hc k hlt
      obtain ⟨r1, r2⟩ := hc' k hlt
      have p1 := (bcell hb _ _ hbB).trans q1
      have p2 := (bcell hb _ _ hbB).trans q2
      have s1 := (bcell hb _ _ hbB').trans r1
      have s2 := (bcell hb _ _ hbB').trans r2
      have hlt' : (k : Int) < (n : Int) := by omega
      clear q1 q2 r1 r2 hc hc'
      go_wp2
      go_quiet (fail)
      go_wp2
      go_roundw
      case rel => exact ⟨k + 1, by omega, by go_num, below_drewN hb _⟩
      case measure => simp [intOf]; omega
    · go_wp2
      go_ret
      exact ⟨rfl, hb⟩

set_option maxHeartbeats 4000000 in
theorem fnMarkShiftBack_walk (A : Option Addr) (n c : Nat) (bs : List Int) (w : World) (h : BSl w w.heap.size A n c bs) :
    Calls Try.prog 5 #[.slice A n c] w fun e w' => e = .returned (.bool true) ∧ Below w.heap.size w w' := by
  by_cases hbig : 1048576 < n
  · go_enter Try.func5, Try.ntmps5
    go_wp2
    go_ret
    exact ⟨rfl, Below.refl _ _⟩
  go_enter Try.func5, Try.ntmps5
  go_wp2_with fail
  refine (DrawMarkShift_any _ _ _ _ _ h (by omega)).mono ?_
  rintro e w1 ⟨b, m, c1, ls, by1, rfl, hD, hby, hb1⟩
  have hm5 := hD.few
  have i1 := MSl.of_own hD.own hD.inM
  clear hD
  go_wp2_with fail
  refine (iMarkShift_any _ _ _ _ by1 _ i1).mono ?_
  rintro e w2 ⟨A2, m2, c2, rfl, hO2, hb2⟩
  have hT2 := Below.step hb1 hb2
  have i2 := (i1.below hb2).more hb2.size
  have hl2 := shiftR_len ls by1
  rw [hO2.len] at hl2
  clear i1 hb2 hb1
  go_wp2_with fail
  refine (sMarkShift_any _ _ _ _ by1 _ i2).mono ?_
  rintro e w3 ⟨A3, m3, c3, rfl, hO3, hb3⟩
  have hT3 := Below.step hT2 hb3
  have i3 := (i2.below hb3).more hb3.size
  have g3 := MSl.of_own (hO2.below hb3) (shiftR_in ls by1)
  have r3 := MSl.of_own hO3 (shiftR_in ls by1)
  clear i2 hb3 hT2 hO2 hO3
  rcases hok : shiftOk ls by1 with _ | _
  · go_wp2_with fail
    refine (sameMarks_same _ _ _ _ _ _ _ _ g3 r3 (by omega)).mono ?_
    rintro e w4 ⟨rfl, hb4⟩
    have hT4 := Below.step hT3 hb4
    have g4 := (g3.below hb4).more hb4.size
    have r4 := (r3.below hb4).more hb4.size
    clear g3 r3 hb4
    go_wp2_with fail
    refine (sameMarks_same _ _ _ _ _ _ _ _ g4 r4 (by omega)).mono ?_
    rintro e w5 ⟨rfl, hb5⟩
    have hT5 := Below.step hT4 hb5
    go_wp2
    go_ret
    exact ⟨rfl, hT5⟩
  have hR : shiftR ls by1 = moved ls by1 := shiftR_yes hok
  rw [hR] at g3 r3
  have e0 : (0 : Int) - by1 = -by1 := by omega
  have hok2 := shiftOk_back hok
  rw [e0] at hok2
  have hR2 : shiftR (moved ls by1) (-by1) = ls := by
    rw [shiftR_yes hok2, ← e0, moved_back]
  have HOK2 := Lib.hid hok2
  have HR2 := Lib.hid hR2
  clear hok2 hR hR2 e0
  go_wp2_with fail
  refine (sameMarks_same _ _ _ _ _ _ _ _ g3 r3 (by omega)).mono ?_
  rintro e w4 ⟨rfl, hb4⟩
  have hT4 := Below.step hT3 hb4
  have g4 := (g3.below hb4).more hb4.size
  have i4 := (i3.below hb4).more hb4.size
  clear g3 r3 hb4 i3
  go_wp2_with fail
  refine (iMarkShift_any _ _ _ _ (-by1) _ g4).mono ?_
  rintro e w5 ⟨A5, m5, c5, rfl, hO5, hb5⟩
  have hT5 := Below.step hT4 hb5
  have i5 := (i4.below hb5).more hb5.size
  have x5 := MSl.of_own hO5 (shiftR_in _ _)
  have hl5 := shiftR_len (moved ls by1) (-by1)
  rw [hO5.len] at hl5
  rw [HR2.out] at x5
  rw [HOK2.out]
  clear g4 i4 hb5 hO5
  go_wp2_with fail
  refine (sameMarks_same _ _ _ _ _ _ _ _ x5 i5 (by omega)).mono ?_
  rintro e w6 ⟨rfl, hb6⟩
  have hT6 := Below.step hT5 hb6
  go_wp2
  go_ret
  exact ⟨rfl, hT6⟩
end Go.Proofs.Ytdhpnjmnjckihaa
