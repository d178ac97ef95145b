/- Contracts of the functions on lists of wave numbers. -/
import Derived.Test.YtpfbjpognmjmmaaRat
import Derived.Test.YtpfbjpognmjmmaaBlPlain
namespace Go.Proofs.Ytpfbjpognmjmmaa
open Go.RowKit Bl

set_option maxHeartbeats 2000000 in
theorem blendListValid_any (A : Option Addr) (n c B : Nat) (zs : List Int) (w : World) (h : ISl w B A n c zs) (hn : n ≤ 16777216) :
    Calls Try.prog 31 #[.slice A n c] w fun e w' => e = .returned (.bool (blOk zs)) ∧ w = w' := by
  have HL := Lib.hid h.len
  by_cases hbig : 40 < n
  · go_enter Try.func31, Try.ntmps31
    go_wp2
    go_ret
    exact ⟨ret_bool (blOk_long (by rw [HL.out]; exact hbig)).symm, rfl⟩
  · go_enter Try.func31, Try.ntmps31
    go_wp2
    go_loop [10] (fun i => ∃ k : Nat, k ≤ n ∧ i = .int .i64 k ∧ Hid (∀ j, j < k → okAt zs j)) (fun i => n - (intOf i).toNat)
    case atStart => exact ⟨0, Nat.zero_le _, rfl, fun j h => by omega⟩
    case round =>
      obtain ⟨k, hk, rfl, hok⟩ := hrel
      by_cases hlt : k < n
      · obtain ⟨b, off, rfl, hbB, hkz, hc⟩ := h.at_ hlt
        have h1 := hc k hlt
        have h2 := hc (k - 1) (by omega)
        have hb1 := h.inAt k
        clear hc
        by_cases hneg : gI zs k < 0
        · go_wp2
          go_ret
          exact ⟨ret_bool (blOk_bad (by rw [HL.out]; exact hlt) (fun hh => by unfold okAt at hh; omega)).symm, rfl⟩
        · by_cases hpos : 200000 < gI zs k
          · go_wp2
            go_ret
            exact ⟨ret_bool (blOk_bad (by rw [HL.out]; exact hlt) (fun hh => by unfold okAt at hh; omega)).symm, rfl⟩
          · by_cases hk0 : 0 < k
            · have hk0I : (0 : Int) < (k : Int) := by omega
              by_cases hle : gI zs k ≤ gI zs (k - 1)
              · go_wp2
                go_ret
                exact ⟨ret_bool (blOk_bad (by rw [HL.out]; exact hlt) (fun hh => by unfold okAt at hh; have := hh.2.2 hk0; omega)).symm, rfl⟩
              · go_wp2
                go_round
                case rel =>
                  refine ⟨k + 1, by omega, by go_num, fun j hj => ?_⟩
                  by_cases e : j = k
                  · subst e; exact ⟨by omega, by omega, fun _ => by omega⟩
                  · exact hok.out j (by omega)
                case measure => simp [intOf]; omega
            · have hk0I : (k : Int) ≤ 0 := by omega
              go_wp2
              go_round
              case rel =>
                refine ⟨k + 1, by omega, by go_num, fun j hj => ?_⟩
                by_cases e : j = k
                · subst e; exact ⟨by omega, by omega, fun hh => absurd hh hk0⟩
                · exact hok.out j (by omega)
              case measure => simp [intOf]; omega
      · go_wp2
        go_ret
        exact ⟨ret_bool (blOk_mk (by rw [HL.out]; omega) (fun i hi => hok.out i (by rw [HL.out] at hi; omega))).symm, rfl⟩

set_option maxHeartbeats 2000000 in
theorem l37Valid_any (A : Option Addr) (n c : Nat) (zs : List Int) (w : World) (h : ISl w w.heap.size A n c zs) (hn : n ≤ 16777216) :
    Calls Try.prog 30 #[.slice A n c] w fun e w' => e = .returned (.bool (blOk zs)) ∧ Below w.heap.size w w' := by
  have HL := Lib.hid h.len
  go_enter Try.func30, Try.ntmps30
  go_wp2
  go_loopw [3] (fun i wr => ∃ k : Nat, k ≤ n ∧ i = .int .i64 k ∧ Hid (∀ j, j < k → okAt zs j) ∧ Below w.heap.size w wr) (fun i _ => n - (intOf i).toNat)
  case atStart => exact ⟨0, Nat.zero_le _, rfl, fun j h => by omega, Below.refl _ _⟩
  case round =>
    obtain ⟨k, hk, rfl, hok, hb⟩ := hrel
    by_cases hlt : k < n
    · obtain ⟨b, off, rfl, hbB, hkz, hc⟩ := h.at_ hlt
      have h1 := (bcell hb _ _ hbB).trans (hc k hlt)
      have h2 := (bcell hb _ _ hbB).trans (hc (k - 1) (by omega))
      have hkI : (k : Int) < (n : Int) := by omega
      clear hc hkz
      rcases hin : inB (gI zs k) 0 200000 with _ | _
      · have HB := Lib.hid (inB_no hin)
        go_wp2
        go_quiet (first | (go_at_call 34; exact quiet_left (l6In_any _ _ _ _)))
        go_wp2
        go_ret
        exact ⟨ret_bool (blOk_bad (by rw [HL.out]; exact hlt) (fun hh => by unfold okAt at hh; have := HB.out; omega)).symm, below_drewN hb _⟩
      · have HB := Lib.hid (inB_yes hin)
        by_cases hk0 : 0 < k
        · have hk0I : (0 : Int) < (k : Int) := by omega
          have v1 : IntKind.i64.wrap ((k : Int) - 1) = (k : Int) - 1 := IntWalk.i64_in _ (by omega)
          have v2 : ((k : Int) - 1).toNat = k - 1 := by omega
          have v3 : (0 : Int) ≤ (k : Int) - 1 := by omega
          have v4 : (k : Int) - 1 < (n : Int) := by omega
          by_cases hle : gI zs k ≤ gI zs (k - 1)
          · go_wp2
            go_quiet (first | (go_at_call 34; exact quiet_left (l6In_any _ _ _ _)))
            clear v1 v2
            go_wp2
            go_ret
            exact ⟨ret_bool (blOk_bad (by rw [HL.out]; exact hlt) (fun hh => by unfold okAt at hh; have := hh.2.2 hk0; omega)).symm, below_drewN hb _⟩
          · have hle' : decide (gI zs k ≤ gI zs (k - 1)) = false := by simpa using hle
            go_wp2
            go_quiet (first | (go_at_call 34; exact quiet_left (l6In_any _ _ _ _)))
            clear v1 v2
            go_wp2
            go_roundw
            case rel =>
              refine ⟨k + 1, by omega, by go_num, fun j hj => ?_, below_drewN hb _⟩
              by_cases e : j = k
              · subst e; exact ⟨HB.out.1, HB.out.2, fun _ => by omega⟩
              · exact hok.out j (by omega)
            case measure => simp [intOf]; omega
        · have hk0I : decide ((0 : Int) < (k : Int)) = false := by simp; omega
          go_wp2
          go_quiet (first | (go_at_call 34; exact quiet_left (l6In_any _ _ _ _)))
          go_wp2
          go_roundw
          case rel =>
            refine ⟨k + 1, by omega, by go_num, fun j hj => ?_, below_drewN hb _⟩
            by_cases e : j = k
            · subst e; exact ⟨HB.out.1, HB.out.2, fun hh => absurd hh hk0⟩
            · exact hok.out j (by omega)
          case measure => simp [intOf]; omega
    · go_wp2
      go_ret
      refine ⟨ret_bool ?_, hb⟩
      by_cases hs : n ≤ 40
      · rw [blOk_mk (by rw [HL.out]; exact hs) (fun i hi => hok.out i (by rw [HL.out] at hi; omega))]; simp; omega
      · rw [blOk_long (by rw [HL.out]; omega)]; simp; omega
end Go.Proofs.Ytpfbjpognmjmmaa
