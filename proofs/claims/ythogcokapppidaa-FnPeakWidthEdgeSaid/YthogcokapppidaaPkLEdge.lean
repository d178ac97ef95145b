/- The walk of the law FnPeakWidthEdge. -/
import Derived.Test.YthogcokapppidaaPkHelp
namespace Go.Proofs.Ythogcokapppidaa
open Go.RowKit Pk

set_option maxRecDepth 100000 in
set_option maxHeartbeats 4000000 in
theorem fnPeakWidthEdge_walk (A : Option Addr) (n c : Nat) (bs : List Int) (w : World) (h : BSl w w.heap.size A n c bs) :
    Calls Try.prog 5 #[.slice A n c] w fun e w' => e = .returned (.bool true) ∧ Below w.heap.size w w' := by
  by_cases hbig : 1048576 < n
  · go_enter Try.func5, Try.ntmps5
    go_wp2
    go_ret
    exact ⟨rfl, Below.refl _ _⟩
  have hn : n ≤ 16777216 := by omega
  go_enter Try.func5, Try.ntmps5
  go_wp2_with fail
  refine (DrawPeakWidth_any _ _ _ _ _ h hn).mono ?_
  rintro e w1 ⟨C, m, cc, zs, a, rfl, hD, hl, hb1⟩
  have hm := hD.few
  have i1 := ISl.of_own hD.own hD.inI
  have HZ := Lib.hid i1.len
  have hs1 := hb1.size
  by_cases hz : peakWidth zs a = 0
  · go_wp2_with fail
    refine (iPeakWidth_of _ _ _ _ _ _ 0 hz i1 (by omega)).mono ?_
    rintro e w2 ⟨rfl, hb2⟩
    have hT2 := Below.step hb1 hb2
    go_wp2_with fail
    refine (sPeakWidth_of _ _ _ _ _ _ 0 hz ((i1.below hb2).more hb2.size) (by omega)).mono ?_
    rintro e w3 ⟨rfl, hb3⟩
    go_wp2
    go_ret
    exact ⟨rfl, Below.step hT2 hb3⟩
  obtain ⟨k, lo, hi, W, rfl, hok, hk, hg, hlo, hhi, hlk, hkh, hhn, hW, hsum⟩ := width_parts hz
  rw [HZ.out] at hk hhn hhi
  have HW := Lib.hid hW
  have HLO := Lib.hid hlo
  have HHI := Lib.hid hhi
  have HG := Lib.hid hg
  have HSUM := Lib.hid hsum
  have hW1 : 1 ≤ W := by omega
  have hWm : W ≤ m := by omega
  have hW0 : ((W : Int) == 0) = false := by simp; omega
  clear hW hlo hhi hg hz hsum
  go_wp2_with fail
  refine (iPeakWidth_of _ _ _ _ _ _ W HW.out i1 (by omega)).mono ?_
  rintro e w2 ⟨rfl, hb2⟩
  have hs2 := hb2.size
  have hT2 := Below.step hb1 hb2
  have i2 := (i1.below hb2).more hs2
  go_wp2_with fail
  refine (sPeakWidth_of _ _ _ _ _ _ W HW.out i2 (by omega)).mono ?_
  rintro e w3 ⟨rfl, hb3⟩
  have hs3 := hb3.size
  have hT3 := Below.step hT2 hb3
  have i3 := (i2.below hb3).more hs3
  clear i2
  have hkI : (k : Int) < (m : Int) := by omega
  obtain ⟨b, off, rfl, hbB, hkz, hc⟩ := i3.at_ hk
  have hck := hc k hk
  have HC := Lib.hid hc
  have hbk := cOk_at hok k
  clear hc
  go_wp2_with fail
  go_loopw [7] (fun x wr => ∃ f : Nat, lo ≤ f ∧ f ≤ k ∧ x = .int .i64 f ∧ Hid (lowF zs k f = lo) ∧ Below w3.heap.size w3 wr) (fun x _ => (intOf x).toNat)
  case atStart => exact ⟨k, hlk, Nat.le_refl _, rfl, HLO.out.symm, Below.refl _ _⟩
  case round =>
    obtain ⟨f, hfl, hf, rfl, hlow, hb⟩ := hrel
    have h2 := (bcell hb _ _ hbB).trans hck
    by_cases hgo : 0 < f ∧ gI zs k ≤ 2 * gI zs (f - 1)
    · obtain ⟨hf0, hgt⟩ := hgo
      have h1 := (bcell hb _ _ hbB).trans (HC.out (f - 1) (by omega))
      have hb1 := cOk_at hok (f - 1)
      have hf0I : (0 : Int) < (f : Int) := by omega
      have HA : Hid (lowF zs k (f - 1) = lo) := by show lowF zs k (f - 1) = lo; rw [← low_step hf0 hgt]; exact hlow.out
      have hfl' : lo ≤ f - 1 := by have := lowF_le zs k (f - 1); rw [HA.out] at this; exact this
      have v1 : IntKind.i64.wrap ((f : Int) - 1) = (f : Int) - 1 := IntWalk.i64_in _ (by omega)
      have v2 : ((f : Int) - 1).toNat = f - 1 := by omega
      have v3 : (0 : Int) ≤ (f : Int) - 1 := by omega
      have v4 : IntKind.i64.wrap (2 * gI zs (f - 1)) = 2 * gI zs (f - 1) := IntWalk.i64_in _ (by omega)
      have v5 : (f : Int) - 1 < (m : Int) := by omega
      go_wp2
      go_quiet (fail)
      clear v1 v2 v4
      go_wp2
      go_roundw
      case rel => exact ⟨f - 1, by omega, by omega, by go_num, HA, below_drewN hb _⟩
      case measure => simp [intOf]; omega
    · have HF : Hid (f = lo) := by
        show f = lo
        rw [← hlow.out]; exact (low_stop (by omega)).symm
      by_cases hf0 : 0 < f
      all_goals first
        | (have hgt : ¬ gI zs k ≤ 2 * gI zs (f - 1) := fun h => hgo ⟨hf0, h⟩
           have h1 := (bcell hb _ _ hbB).trans (HC.out (f - 1) (by omega))
           have hb1 := cOk_at hok (f - 1)
           have hf0I : (0 : Int) < (f : Int) := by omega
           have hgt' : decide (gI zs k ≤ 2 * gI zs (f - 1)) = false := by simpa using hgt
           have v1 : IntKind.i64.wrap ((f : Int) - 1) = (f : Int) - 1 := IntWalk.i64_in _ (by omega)
           have v2 : ((f : Int) - 1).toNat = f - 1 := by omega
           have v3 : (0 : Int) ≤ (f : Int) - 1 := by omega
           have v4 : IntKind.i64.wrap (2 * gI zs (f - 1)) = 2 * gI zs (f - 1) := IntWalk.i64_in _ (by omega)
           have v5 : (f : Int) - 1 < (m : Int) := by omega
           clear hgo
           go_wp2
           go_quiet (fail)
           clear v1 v2 v4 hgt' hgt h1 hb1)
        | (have hf0I : decide ((0 : Int) < (f : Int)) = false := by simp; omega
           clear hgo
           go_wp2
           go_quiet (fail)
           clear hf0I)
      all_goals
        have hhigh : (f : Int) + (W : Int) - 1 = (hi : Int) := by have := HF.out; have := HSUM.out; omega
        have hfb : (f : Int) + (W : Int) ≤ 400 := by have := cOk_len hok; have := HZ.out; omega
        go_wp2
        clear hhigh
        go_loopw [9] (fun x wr => ∃ j : Nat, f ≤ j ∧ j ≤ hi + 1 ∧ x = .int .i64 j ∧ Below w3.heap.size w3 wr) (fun x _ => m + 1 - (intOf x).toNat)
        case atStart => exact ⟨f, Nat.le_refl _, by omega, rfl, below_drewN hb _⟩
        case round =>
          obtain ⟨j, hj0, hj, rfl, hb'⟩ := hrel
          have h2' := (bcell hb' _ _ hbB).trans hck
          by_cases hlt : j ≤ hi
          · have h1 := (bcell hb' _ _ hbB).trans (HC.out j (by omega))
            have hb1 := cOk_at hok j
            have hjI : (j : Int) < (m : Int) := by omega
            have hok2 : gI zs k ≤ 2 * gI zs j := by
              have e1 := lowF_spec zs k k
              have e2 := highF_spec zs k (m - 1 - k) k
              rw [← HLO.out] at e1
              rw [← HHI.out] at e2
              by_cases c1 : j < k
              · exact e1.1 j (by have := HF.out; omega) c1
              · by_cases c2 : j = k
                · subst c2; omega
                · exact e2.1 j (by omega) hlt
            have hok2' : decide (2 * gI zs j < gI zs k) = false := by simp; omega
            have v4 : IntKind.i64.wrap (2 * gI zs j) = 2 * gI zs j := IntWalk.i64_in _ (by omega)
            go_wp2
            go_quiet (fail)
            clear v4
            go_wp2
            go_roundw
            case rel => exact ⟨j + 1, by omega, by omega, by go_num, below_drewN hb' _⟩
            case measure => simp [intOf]; omega
          · have v1 : IntKind.i64.wrap ((hi : Int) + 1) = (hi : Int) + 1 := IntWalk.i64_in _ (by omega)
            have v2 : ((hi : Int) + 1).toNat = hi + 1 := by omega
            have v3 : (0 : Int) ≤ (hi : Int) + 1 := by omega
            by_cases hend : hi + 1 = m
            all_goals first
              | (have he : (((hi : Int) + 1) == (m : Int)) = true := by simp; omega
                 go_wp2
                 go_quiet (fail)
                 clear he)
              | (have he : (((hi : Int) + 1) == (m : Int)) = false := by simp; omega
                 have v5 : (hi : Int) + 1 < (m : Int) := by omega
                 have h1 := (bcell hb' _ _ hbB).trans (HC.out (hi + 1) (by omega))
                 have hb1 := cOk_at hok (hi + 1)
                 have v4 : IntKind.i64.wrap (2 * gI zs (hi + 1)) = 2 * gI zs (hi + 1) := IntWalk.i64_in _ (by omega)
                 have hlast : 2 * gI zs (hi + 1) < gI zs k := by
                   have e2 := highF_spec zs k (m - 1 - k) k
                   rw [← HHI.out] at e2
                   rcases e2.2 with e | e
                   · omega
                   · exact e
                 go_wp2
                 go_quiet (fail)
                 clear v4)
            all_goals
              go_wp2
              go_ret
              exact ⟨rfl, Below.step hT3 (below_drewN hb' _)⟩
end Go.Proofs.Ythogcokapppidaa
