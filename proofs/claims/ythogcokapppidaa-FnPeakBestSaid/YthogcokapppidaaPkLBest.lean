/- The walk of the law FnPeakBest. -/
import Derived.Test.YthogcokapppidaaPkHelp
namespace Go.Proofs.Ythogcokapppidaa
open Go.RowKit Pk

set_option maxRecDepth 100000 in
set_option maxHeartbeats 4000000 in
theorem fnPeakBest_walk (A : Option Addr) (n c : Nat) (bs : List Int) (w : World) (h : BSl w w.heap.size A n c bs) :
    Calls Try.prog 8 #[.slice A n c] w fun e w' => e = .returned (.bool true) ∧ Below w.heap.size w w' := by
  by_cases hbig : 1048576 < n
  · go_enter Try.func8, Try.ntmps8
    go_wp2
    go_ret
    exact ⟨rfl, Below.refl _ _⟩
  have hn : n ≤ 16777216 := by omega
  go_enter Try.func8, Try.ntmps8
  go_wp2_with fail
  refine (DrawPeakBest_any _ _ _ _ _ h hn).mono ?_
  rintro e w1 ⟨C, m, cc, zs, rfl, hD, hb1⟩
  have hm := hD.few
  have i1 := ISl.of_own hD.own hD.inI
  have HZ := Lib.hid i1.len
  have hs1 := hb1.size
  by_cases hz : peakBest zs = -1
  · go_wp2_with fail
    refine (iPeakBest_of _ _ _ _ _ _ (-1) hz i1 (by omega)).mono ?_
    rintro e w2 ⟨rfl, rfl⟩
    go_wp2_with fail
    refine (sPeakBest_of _ _ _ _ _ (-1) hz i1 (by omega)).mono ?_
    rintro e w3 ⟨rfl, hb3⟩
    go_wp2
    go_ret
    exact ⟨rfl, Below.step hb1 hb3⟩
  obtain ⟨b, hok, hB, hbm, hbe⟩ : ∃ b : Nat, cOk zs = true ∧ peakBest zs = (b : Int) ∧ b < m ∧ b = argm zs m := by
    by_cases hc : cOk zs = true ∧ zs ≠ []
    · refine ⟨argm zs m, hc.1, ?_, ?_, rfl⟩
      · unfold peakBest; rw [if_pos hc, HZ.out]
      · have h1 := argm_lt zs m
        have h2 : 0 < m := by rw [← HZ.out]; exact List.length_pos_iff.2 hc.2
        omega
    · exact absurd (by unfold peakBest; rw [if_neg hc]) hz
  have HB := Lib.hid hB
  have HBE := Lib.hid hbe
  have hmx := argm_max zs m
  rw [← hbe] at hmx
  have HMX := Lib.hid hmx
  have hpk : Peak zs (gI zs b) b := by
    have := best_peak (cs := zs)
    rw [HZ.out, ← hbe] at this; exact this
  have hbI : (b : Int) < (m : Int) := by omega
  clear hB hbe hz hmx
  go_wp2_with fail
  refine (iPeakBest_of _ _ _ _ _ _ b HB.out i1 (by omega)).mono ?_
  rintro e w2 ⟨rfl, rfl⟩
  go_wp2_with fail
  refine (sPeakBest_of _ _ _ _ _ b HB.out i1 (by omega)).mono ?_
  rintro e w3 ⟨rfl, hb3⟩
  have hs3 := hb3.size
  have hT3 := Below.step hb1 hb3
  have i3 := (i1.below hb3).more hs3
  go_wp2_with fail
  go_loopw [6] (fun x wr => ∃ k : Nat, k ≤ m ∧ x = .int .i64 k ∧ Below w3.heap.size w3 wr) (fun x _ => m - (intOf x).toNat)
  case atStart => exact ⟨0, Nat.zero_le _, rfl, Below.refl _ _⟩
  case round =>
    obtain ⟨k, hk, rfl, hb⟩ := hrel
    obtain ⟨bb, off, rfl, hbB, hkz, hc⟩ := i3.at_ hbm
    have h2 := (bcell hb _ _ hbB).trans (hc b hbm)
    by_cases hlt : k < m
    · have h1 := (bcell hb _ _ hbB).trans (hc k hlt)
      have hltI : (k : Int) < (m : Int) := by omega
      have hle := HMX.out.1 k hlt
      have hle' : decide (gI zs b < gI zs k) = false := by simp; omega
      clear hc hkz
      by_cases hkb : k < b
      · have hkbI : (k : Int) < (b : Int) := by omega
        have hlt2 := HMX.out.2 k hkb
        have hne : (gI zs k == gI zs b) = false := by simp; omega
        go_wp2
        go_quiet (fail)
        go_wp2
        go_roundw
        case rel => exact ⟨k + 1, by omega, by go_num, below_drewN hb _⟩
        case measure => simp [intOf]; omega
      · have hkbI : decide ((k : Int) < (b : Int)) = false := by simp; omega
        go_wp2
        go_quiet (fail)
        go_wp2
        go_roundw
        case rel => exact ⟨k + 1, by omega, by go_num, below_drewN hb _⟩
        case measure => simp [intOf]; omega
    · obtain ⟨ps, hps⟩ : ∃ ps, peaksOf zs (gI zs b) = ps := ⟨_, rfl⟩
      have hpl : ps.length ≤ 200 := by rw [← hps]; exact peaksOf_len
      have hmem : (b : Int) ∈ ps := by
        rw [← hps]; unfold peaksOf; rw [if_pos hok, HZ.out]
        exact List.mem_map.2 ⟨b, mem_pks.2 ⟨hbm, hpk⟩, rfl⟩
      obtain ⟨i, hi, hie⟩ := List.getElem_of_mem hmem
      have hix : Hid (gI ps i = (b : Int)) := by show gI ps i = _; rw [gI_lt hi]; exact hie
      have hpi : Hid (∀ z ∈ ps, InI z) := by
        show ∀ z ∈ ps, InI z
        rw [← hps]; exact peaksOf_in
      have HP := Lib.hid hps
      have i4 := (i3.below hb).more hb.size
      have hT4 := Below.step hT3 hb
      have hke : m ≤ k := by omega
      clear hps hc hie hmem hlt hkz
      go_wp2_with fail
      refine (iPeaksOf_of _ _ _ _ _ _ ps HP.out i4 (by omega)).mono ?_
      rintro e w5 ⟨P, pc, rfl, o5, hb5⟩
      go_wp2_with fail
      refine (hasInt_yes _ _ _ _ _ _ i _ (ISl.of_own o5 hpi.out) (by omega) hi hix.out).mono ?_
      rintro e w6 ⟨rfl, rfl⟩
      go_wp2
      go_ret
      exact ⟨rfl, Below.step hT4 hb5⟩
end Go.Proofs.Ythogcokapppidaa
