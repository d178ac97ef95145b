/- Contracts of the functions on counts: each Go function, of the program and of the reference, returns what the plain function says. -/
import Derived.Test.YthogcokapppidabBase
import Derived.Test.YthogcokapppidabPkLaws
namespace Go.Proofs.Ythogcokapppidab
open Go.RowKit Pk

set_option maxHeartbeats 1000000 in
theorem countsValid_any (A : Option Addr) (n c B : Nat) (zs : List Int) (w : World) (h : ISl w B A n c zs) (hn : n ≤ 16777216) :
    Calls Try.prog 32 #[.slice A n c] w fun e w' => e = .returned (.bool (cOk zs)) ∧ w = w' := by
  have hl := h.len
  by_cases hbig : 200 < n
  · go_enter Try.func32, Try.ntmps32
    go_wp2
    go_ret
    refine ⟨ret_bool ?_, rfl⟩
    rcases hb : cOk zs with _ | _
    · rfl
    · have := cOk_len hb; omega
  · have HL := Lib.hid hl
    clear hl
    go_enter Try.func32, Try.ntmps32
    go_wp2
    go_loop [10] (fun i => ∃ k : Nat, k ≤ n ∧ i = .int .i64 k ∧ Hid (∀ j, j < k → 0 ≤ gI zs j ∧ gI zs j ≤ 9999)) (fun i => n - (intOf i).toNat)
    case atStart => exact ⟨0, Nat.zero_le _, rfl, fun j h => by omega⟩
    case round =>
      obtain ⟨k, hk, rfl, hok⟩ := hrel
      by_cases hlt : k < n
      · obtain ⟨b, off, rfl, hbB, hkz, hc⟩ := h.at_ hlt
        have h1 := hc k hlt
        clear hc
        by_cases hneg : gI zs k < 0
        · go_wp2
          go_ret
          exact ⟨ret_bool (cOk_bad (.inl hneg)).symm, rfl⟩
        · by_cases hpos : 9999 < gI zs k
          · go_wp2
            go_ret
            exact ⟨ret_bool (cOk_bad (.inr hpos)).symm, rfl⟩
          · go_wp2
            go_round
            case rel =>
              refine ⟨k + 1, by omega, by go_num, fun j hj => ?_⟩
              by_cases e : j = k
              · subst e; omega
              · exact hok.out j (by omega)
            case measure => simp [intOf]; omega
      · go_wp2
        go_ret
        have hl := HL.out
        exact ⟨ret_bool (cOk_mk (by omega) (fun i hi => hok.out i (by omega))).symm, rfl⟩

set_option maxHeartbeats 1000000 in
theorem l36Valid_any (A : Option Addr) (n c B : Nat) (zs : List Int) (w : World) (h : ISl w B A n c zs) (hn : n ≤ 16777216) :
    Calls Try.prog 33 #[.slice A n c] w fun e w' => e = .returned (.bool (cOk zs)) ∧ w = w' := by
  have HL := Lib.hid h.len
  go_enter Try.func33, Try.ntmps33
  go_wp2
  go_loop [3] (fun i => ∃ k : Nat, k ≤ n ∧ i = .int .i64 k ∧ Hid (∀ j, j < k → 0 ≤ gI zs j ∧ gI zs j ≤ 9999)) (fun i => n - (intOf i).toNat)
  case atStart => exact ⟨0, Nat.zero_le _, rfl, fun j h => by omega⟩
  case round =>
    obtain ⟨k, hk, rfl, hok⟩ := hrel
    by_cases hlt : k < n
    · obtain ⟨b, off, rfl, hbB, hkz, hc⟩ := h.at_ hlt
      have h1 := hc k hlt
      clear hc
      by_cases hin : inB (gI zs k) 0 9999 = true
      · have HB := inB_yes hin
        go_wp2_with (go_at_call 35; refine (l6In_any _ _ _ _).mono ?_; rintro e w' ⟨rfl, rfl⟩)
        go_round
        case rel =>
          refine ⟨k + 1, by omega, by go_num, fun j hj => ?_⟩
          by_cases e : j = k
          · subst e; omega
          · exact hok.out j (by omega)
        case measure => simp [intOf]; omega
      · have hin' : inB (gI zs k) 0 9999 = false := by simpa using hin
        clear hin
        have HB := Lib.hid (inB_no hin')
        go_wp2_with (go_at_call 35; refine (l6In_any _ _ _ _).mono ?_; rintro e w' ⟨rfl, rfl⟩)
        go_ret
        exact ⟨ret_bool (cOk_bad HB.out).symm, rfl⟩
    · go_wp2
      go_ret
      have hl := HL.out
      refine ⟨ret_bool ?_, rfl⟩
      by_cases hs : n ≤ 200
      · rw [cOk_mk (by omega) (fun i hi => hok.out i (by omega))]; simp; omega
      · rcases hb : cOk zs with _ | _
        · simp; omega
        · have := cOk_len hb; omega

set_option maxHeartbeats 1000000 in
theorem iPeakBest_any (A : Option Addr) (n c B : Nat) (zs : List Int) (w : World) (h : ISl w B A n c zs) (hn : n ≤ 16777216) :
    Calls Try.prog 17 #[.slice A n c] w fun e w' => e = .returned (.int .i64 (peakBest zs)) ∧ w = w' := by
  have HL := Lib.hid h.len
  rcases hok : cOk zs with _ | _
  · go_enter Try.func17, Try.ntmps17
    go_wp2_with (go_at_call 32; refine (countsValid_any _ _ _ _ _ _ h hn).mono ?_; rintro e w' ⟨rfl, rfl⟩)
    go_ret
    exact ⟨ret_int (by simp [peakBest, hok]), rfl⟩
  · have hs := cOk_len hok
    rw [HL.out] at hs
    by_cases h0 : n = 0
    · subst h0
      go_enter Try.func17, Try.ntmps17
      go_wp2_with (go_at_call 32; refine (countsValid_any _ _ _ _ _ _ h hn).mono ?_; rintro e w' ⟨rfl, rfl⟩)
      go_ret
      exact ⟨ret_int (by simp [peakBest, List.eq_nil_of_length_eq_zero HL.out]), rfl⟩
    · have hn0 : ((n : Int) == 0) = false := by simp; omega
      have hpos : 0 < n := by omega
      go_enter Try.func17, Try.ntmps17
      go_wp2_with (go_at_call 32; refine (countsValid_any _ _ _ _ _ _ h hn).mono ?_; rintro e w' ⟨rfl, rfl⟩)
      go_loop [3, 16] (fun b i => ∃ k : Nat, k ≤ n ∧ i = .int .i64 k ∧ b = .int .i64 (argm zs k)) (fun _ i => n - (intOf i).toNat)
      case atStart => exact ⟨0, Nat.zero_le _, rfl, rfl⟩
      case round =>
        obtain ⟨k, hk, rfl, rfl⟩ := hrel
        by_cases hlt : k < n
        · obtain ⟨b, off, rfl, hbB, hkz, hc⟩ := h.at_ hlt
          have hm : argm zs k < n := by have := argm_lt zs k; omega
          have h1 := hc k hlt
          have h2 := hc _ hm
          clear hc
          by_cases hgt : gI zs (argm zs k) < gI zs k
          · have HA : Hid (argm zs (k + 1) = k) := by show argm zs (k + 1) = k; unfold argm; rw [if_pos hgt]
            go_wp2
            go_round
            case rel => exact ⟨k + 1, by omega, by go_num, by rw [HA.out]⟩
            case measure => simp [intOf]; omega
          · have HA : Hid (argm zs (k + 1) = argm zs k) := by show argm zs (k + 1) = argm zs k; rw [argm, if_neg hgt]
            go_wp2
            go_round
            case rel => exact ⟨k + 1, by omega, by go_num, by rw [HA.out]⟩
            case measure => simp [intOf]; omega
        · go_wp2
          go_ret
          have hl := HL.out
          obtain rfl : k = n := by omega
          refine ⟨ret_int ?_, rfl⟩
          unfold peakBest
          rw [if_pos ⟨hok, by rintro rfl; simp at hl; omega⟩, hl]


end Go.Proofs.Ythogcokapppidab
