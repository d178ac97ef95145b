/- Contracts of PeakWidth, of the program and of the reference. -/
import Derived.Test.YthogcokapppidabPkWalks
namespace Go.Proofs.Ythogcokapppidab
open Go.RowKit Pk

theorem peakWidth_no {zs : List Int} {a : Int} (h : cOk zs = false ∨ a < 0 ∨ (zs.length : Int) ≤ a ∨ gI zs a.toNat = 0) : peakWidth zs a = 0 := by
  unfold peakWidth; rw [if_neg]; rintro ⟨h1, h2, h3, h4⟩; rcases h with h | h | h | h
  · rw [h] at h1; cases h1
  · omega
  · omega
  · exact h4 h
theorem low_step {zs : List Int} {k f : Nat} (hf : 0 < f) (h : gI zs k ≤ 2 * gI zs (f - 1)) : lowF zs k f = lowF zs k (f - 1) := by
  obtain ⟨f, rfl⟩ : ∃ f', f = f' + 1 := ⟨f - 1, by omega⟩
  rw [lowF, if_pos (by simpa using h)]; rfl
theorem low_stop {zs : List Int} {k f : Nat} (h : f = 0 ∨ ¬ gI zs k ≤ 2 * gI zs (f - 1)) : lowF zs k f = f := by
  rcases f with _ | f
  · rfl
  · rw [lowF, if_neg]
    rcases h with h | h
    · omega
    · simpa using h
theorem high_step {zs : List Int} {k t m : Nat} (hf : t < m) (h : gI zs k ≤ 2 * gI zs (t + 1)) : highF zs k (m - t) t = highF zs k (m - (t + 1)) (t + 1) := by
  obtain ⟨f, hf⟩ : ∃ f', m - t = f' + 1 := ⟨m - t - 1, by omega⟩
  rw [hf, highF, if_pos h]; congr 1; omega
theorem high_stop {zs : List Int} {k t m : Nat} (hm : t ≤ m) (h : t = m ∨ ¬ gI zs k ≤ 2 * gI zs (t + 1)) : highF zs k (m - t) t = t := by
  rcases h with h | h
  · subst h; rw [Nat.sub_self]; rfl
  · by_cases e : t = m
    · subst e; rw [Nat.sub_self]; rfl
    · obtain ⟨f, hf⟩ : ∃ f', m - t = f' + 1 := ⟨m - t - 1, by omega⟩
      rw [hf, highF, if_neg h]

set_option maxHeartbeats 2000000 in
theorem iPeakWidth_ok (A : Option Addr) (n c : Nat) (zs : List Int) (k : Nat) (w : World) (h : ISl w w.heap.size A n c zs) (hok : cOk zs = true) (hk : k < n) (hne : gI zs k ≠ 0) :
    Calls Try.prog 27 #[.slice A n c, .int .i64 k] w fun e w' => e = .returned (.int .i64 (peakWidth zs k)) ∧ Below w.heap.size w w' := by
  have HL := Lib.hid h.len
  have hs := cOk_len hok
  rw [HL.out] at hs
  have hkI : (k : Int) < (n : Int) := by omega
  obtain ⟨b, off, rfl, hbB, hkz, hc⟩ := h.at_ hk
  have hck := hc k hk
  have HC := Lib.hid hc
  clear hc
  have hne' : (gI zs k == 0) = false := by simpa using hne
  have hbk := cOk_at hok k
  go_enter Try.func27, Try.ntmps27
  go_wp2_with (go_at_call 32; refine (countsValid_any _ _ _ _ _ _ h (by omega)).mono ?_; rintro e w' ⟨rfl, rfl⟩)
  go_loopw [5] (fun x wr => ∃ f : Nat, f ≤ k ∧ x = .int .i64 f ∧ Hid (lowF zs k f = lowF zs k k) ∧ Below w.heap.size w wr) (fun x _ => (intOf x).toNat)
  case atStart => exact ⟨k, Nat.le_refl _, rfl, rfl, Below.refl _ _⟩
  case round =>
    obtain ⟨f, hf, rfl, hlow, hb⟩ := hrel
    have h2 := (bcell hb _ _ hbB).trans hck
    by_cases hgo : 0 < f ∧ gI zs k ≤ 2 * gI zs (f - 1)
    · obtain ⟨hf0, hgt⟩ := hgo
      have h1 := (bcell hb _ _ hbB).trans (HC.out (f - 1) (by omega))
      have hb1 := cOk_at hok (f - 1)
      have hf0I : (0 : Int) < (f : Int) := by omega
      have HA : Hid (lowF zs k (f - 1) = lowF zs k k) := by show lowF zs k (f - 1) = lowF zs k k; rw [← low_step hf0 hgt]; exact hlow.out
      have w1 : IntKind.i64.wrap ((f : Int) - 1) = (f : Int) - 1 := IntWalk.i64_in _ (by omega)
      have w2 : ((f : Int) - 1).toNat = f - 1 := by omega
      have w3 : (0 : Int) ≤ (f : Int) - 1 := by omega
      have w4 : IntKind.i64.wrap (2 * gI zs (f - 1)) = 2 * gI zs (f - 1) := IntWalk.i64_in _ (by omega)
      have w5 : (f : Int) - 1 < (n : Int) := by omega
      go_wp2
      go_quiet (fail)
      clear w1 w2 w4
      go_wp2
      go_roundw
      case rel => exact ⟨f - 1, by omega, by go_num, HA, below_drewN hb _⟩
      case measure => simp [intOf]; omega
    · have HS : Hid (lowF zs k k = f) := by
        show lowF zs k k = f
        rw [← hlow.out]; exact low_stop (by omega)
      by_cases hf0 : 0 < f
      all_goals first
        | (have hgt : ¬ gI zs k ≤ 2 * gI zs (f - 1) := fun h => hgo ⟨hf0, h⟩
           have h1 := (bcell hb _ _ hbB).trans (HC.out (f - 1) (by omega))
           have hb1 := cOk_at hok (f - 1)
           have hf0I : (0 : Int) < (f : Int) := by omega
           have hgt' : decide (gI zs k ≤ 2 * gI zs (f - 1)) = false := by simpa using hgt
           have w1 : IntKind.i64.wrap ((f : Int) - 1) = (f : Int) - 1 := IntWalk.i64_in _ (by omega)
           have w2 : ((f : Int) - 1).toNat = f - 1 := by omega
           have w3 : (0 : Int) ≤ (f : Int) - 1 := by omega
           have w4 : IntKind.i64.wrap (2 * gI zs (f - 1)) = 2 * gI zs (f - 1) := IntWalk.i64_in _ (by omega)
           have w5 : (f : Int) - 1 < (n : Int) := by omega
           clear hgo
           go_wp2
           go_quiet (fail)
           clear w1 w2 w4 hgt' hgt h1 hb1)
        | (have hf0I : decide ((0 : Int) < (f : Int)) = false := by simp; omega
           clear hgo
           go_wp2
           go_quiet (fail)
           clear hf0I)
      all_goals
        go_wp2
        go_loopw [6] (fun x wr => ∃ t : Nat, k ≤ t ∧ t < n ∧ x = .int .i64 t ∧ Hid (highF zs k (n - 1 - t) t = highF zs k (n - 1 - k) k) ∧ Below w.heap.size w wr) (fun x _ => n - (intOf x).toNat)
        case atStart => exact ⟨k, Nat.le_refl _, hk, rfl, rfl, below_drewN hb _⟩
        case round =>
          obtain ⟨t, ht, htn, rfl, hhigh, hb'⟩ := hrel
          have h2' := (bcell hb' _ _ hbB).trans hck
          have v1 : IntKind.i64.wrap ((n : Int) - 1) = (n : Int) - 1 := IntWalk.i64_in _ (by omega)
          by_cases hgo : t + 1 < n ∧ gI zs k ≤ 2 * gI zs (t + 1)
          · obtain ⟨hf0, hgt⟩ := hgo
            have h1 := (bcell hb' _ _ hbB).trans (HC.out (t + 1) (by omega))
            have hb1 := cOk_at hok (t + 1)
            have hf0I : (t : Int) < (n : Int) - 1 := by omega
            have HA : Hid (highF zs k (n - 1 - (t + 1)) (t + 1) = highF zs k (n - 1 - k) k) := by
              show highF zs k (n - 1 - (t + 1)) (t + 1) = highF zs k (n - 1 - k) k
              rw [← high_step (by omega) hgt]; exact hhigh.out
            have w1 : IntKind.i64.wrap ((t : Int) + 1) = (t : Int) + 1 := IntWalk.i64_in _ (by omega)
            have w2 : ((t : Int) + 1).toNat = t + 1 := by omega
            have w3 : (0 : Int) ≤ (t : Int) + 1 := by omega
            have w4 : IntKind.i64.wrap (2 * gI zs (t + 1)) = 2 * gI zs (t + 1) := IntWalk.i64_in _ (by omega)
            have w5 : (t : Int) + 1 < (n : Int) := by omega
            go_wp2
            go_quiet (fail)
            clear w1 w2 w4
            go_wp2
            go_roundw
            case rel => exact ⟨t + 1, by omega, by omega, by go_num, HA, below_drewN hb' _⟩
            case measure => simp [intOf]; omega
          · have HT : Hid (highF zs k (n - 1 - k) k = t) := by
              show highF zs k (n - 1 - k) k = t
              rw [← hhigh.out]; exact high_stop (by omega) (by omega)
            by_cases hf0 : t + 1 < n
            all_goals first
              | (have hgt : ¬ gI zs k ≤ 2 * gI zs (t + 1) := fun h => hgo ⟨hf0, h⟩
                 have h1 := (bcell hb' _ _ hbB).trans (HC.out (t + 1) (by omega))
                 have hb1 := cOk_at hok (t + 1)
                 have hf0I : (t : Int) < (n : Int) - 1 := by omega
                 have hgt' : decide (gI zs k ≤ 2 * gI zs (t + 1)) = false := by simpa using hgt
                 have w1 : IntKind.i64.wrap ((t : Int) + 1) = (t : Int) + 1 := IntWalk.i64_in _ (by omega)
                 have w2 : ((t : Int) + 1).toNat = t + 1 := by omega
                 have w3 : (0 : Int) ≤ (t : Int) + 1 := by omega
                 have w4 : IntKind.i64.wrap (2 * gI zs (t + 1)) = 2 * gI zs (t + 1) := IntWalk.i64_in _ (by omega)
                 have w5 : (t : Int) + 1 < (n : Int) := by omega
                 clear hgo
                 go_wp2
                 go_quiet (fail)
                 clear w1 w2 w4 hgt' hgt h1 hb1 v1)
              | (have hf0I : decide ((t : Int) < (n : Int) - 1) = false := by simp; omega
                 clear hgo
                 go_wp2
                 go_quiet (fail)
                 clear hf0I v1)
            all_goals
              go_wp2
              go_ret
              refine ⟨ret_int ?_, below_drewN hb' _⟩
              unfold peakWidth
              rw [if_pos ⟨hok, by omega, by rw [HL.out]; exact hkI, by simpa using hne⟩, HL.out, Int.toNat_natCast, HT.out, HS.out]

set_option maxHeartbeats 1000000 in
theorem iPeakWidth_any (A : Option Addr) (n c : Nat) (zs : List Int) (a : Int) (w : World) (h : ISl w w.heap.size A n c zs) (hn : n ≤ 16777216) :
    Calls Try.prog 27 #[.slice A n c, .int .i64 a] w fun e w' => e = .returned (.int .i64 (peakWidth zs a)) ∧ Below w.heap.size w w' := by
  have HL := Lib.hid h.len
  rcases hok : cOk zs with _ | _
  · go_enter Try.func27, Try.ntmps27
    go_wp2_with (go_at_call 32; refine (countsValid_any _ _ _ _ _ _ h hn).mono ?_; rintro e w' ⟨rfl, rfl⟩)
    go_ret
    exact ⟨ret_int (peakWidth_no (.inl hok)).symm, Below.refl _ _⟩
  · by_cases ha : a < 0
    · go_enter Try.func27, Try.ntmps27
      go_wp2_with (go_at_call 32; refine (countsValid_any _ _ _ _ _ _ h hn).mono ?_; rintro e w' ⟨rfl, rfl⟩)
      go_ret
      exact ⟨ret_int (peakWidth_no (.inr (.inl ha))).symm, Below.refl _ _⟩
    · obtain ⟨k, rfl⟩ := Int.eq_ofNat_of_zero_le (show 0 ≤ a by omega)
      by_cases hk : n ≤ k
      · go_enter Try.func27, Try.ntmps27
        go_wp2_with (go_at_call 32; refine (countsValid_any _ _ _ _ _ _ h hn).mono ?_; rintro e w' ⟨rfl, rfl⟩)
        go_ret
        exact ⟨ret_int (peakWidth_no (.inr (.inr (.inl (by rw [HL.out]; omega))))).symm, Below.refl _ _⟩
      · by_cases hne : gI zs k = 0
        · have hk' : k < n := by omega
          obtain ⟨b, off, rfl, hbB, hkz, hc⟩ := h.at_ hk'
          have hck := hc k hk'
          rw [hne] at hck
          have HN := Lib.hid hne
          clear hc hne
          go_enter Try.func27, Try.ntmps27
          go_wp2_with (go_at_call 32; refine (countsValid_any _ _ _ _ _ _ h hn).mono ?_; rintro e w' ⟨rfl, rfl⟩)
          go_ret
          exact ⟨ret_int (peakWidth_no (.inr (.inr (.inr (by simpa using HN.out))))).symm, Below.refl _ _⟩
        · exact iPeakWidth_ok A n c zs k w h hok (by omega) hne
end Go.Proofs.Ythogcokapppidab
