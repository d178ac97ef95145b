/- Contracts of the functions on counts: each Go function, of the program and of the reference, returns what the plain function says. -/
import Derived.Test.YtddchlfhjiimcaaBase
import Derived.Test.YtddchlfhjiimcaaPkLaws
namespace Go.Proofs.Ytddchlfhjiimcaa
open Go.RowKit Pk

set_option maxHeartbeats 1000000 in
theorem countsValid_any (A : Option Addr) (n c B : Nat) (zs : List Int) (w : World) (h : ISl w B A n c zs) (hn : n ≤ 16777216) :
    Calls Try.prog 20 #[.slice A n c] w fun e w' => e = .returned (.bool (cOk zs)) ∧ w = w' := by
  have hl := h.len
  by_cases hbig : 200 < n
  · go_enter Try.func20, Try.ntmps20
    go_wp2
    go_ret
    refine ⟨ret_bool ?_, rfl⟩
    rcases hb : cOk zs with _ | _
    · rfl
    · have := cOk_len hb; omega
  · have HL := Lib.hid hl
    clear hl
    go_enter Try.func20, Try.ntmps20
    go_wp2
    go_loop [10] (fun i => ∃ k : Nat, k ≤ n ∧ i = .int .i64 k ∧ Hid (∀ j, j < k → 0 ≤ gI zs j ∧ gI zs j ≤ 9999)) (fun i => n - (intOf i).toNat)
    case atStart => exact ⟨0, Nat.zero_le _, rfl, fun j h => by omega⟩
    case round =>
      obtain ⟨k, hk, rfl, hok⟩ := hrel
      by_cases hlt : k < n
      · obtain ⟨b, off, rfl, hbB, hkz, hc⟩ := h.at_ hlt
        have h1 := hc k hlt
        clear hc
        by_cases hneg : gI zs k < 0
        · go_wp2
          go_ret
          exact ⟨ret_bool (cOk_bad (.inl hneg)).symm, rfl⟩
        · by_cases hpos : 9999 < gI zs k
          · go_wp2
            go_ret
            exact ⟨ret_bool (cOk_bad (.inr hpos)).symm, rfl⟩
          · go_wp2
            go_round
            case rel =>
              refine ⟨k + 1, by omega, by go_num, fun j hj => ?_⟩
              by_cases e : j = k
              · subst e; omega
              · exact hok.out j (by omega)
            case measure => simp [intOf]; omega
      · go_wp2
        go_ret
        have hl := HL.out
        exact ⟨ret_bool (cOk_mk (by omega) (fun i hi => hok.out i (by omega))).symm, rfl⟩

set_option maxHeartbeats 1000000 in
theorem l36Valid_any (A : Option Addr) (n c B : Nat) (zs : List Int) (w : World) (h : ISl w B A n c zs) (hn : n ≤ 16777216) :
    Calls Try.prog 21 #[.slice A n c] w fun e w' => e = .returned (.bool (cOk zs)) ∧ w = w' := by
  have HL := Lib.hid h.len
  go_enter Try.func21, Try.ntmps21
  go_wp2
  go_loop [3] (fun i => ∃ k : Nat, k ≤ n ∧ i = .int .i64 k ∧ Hid (∀ j, j < k → 0 ≤ gI zs j ∧ gI zs j ≤ 9999)) (fun i => n - (intOf i).toNat)
  case atStart => exact ⟨0, Nat.zero_le _, rfl, fun j h => by omega⟩
  case round =>
    obtain ⟨k, hk, rfl, hok⟩ := hrel
    by_cases hlt : k < n
    · obtain ⟨b, off, rfl, hbB, hkz, hc⟩ := h.at_ hlt
      have h1 := hc k hlt
      clear hc
      by_cases hin : inB (gI zs k) 0 9999 = true
      · have HB := inB_yes hin
        go_wp2_with (go_at_call 25; refine (l6In_any _ _ _ _).mono ?_; rintro e w' ⟨rfl, rfl⟩)
        go_round
        case rel =>
          refine ⟨k + 1, by omega, by go_num, fun j hj => ?_⟩
          by_cases e : j = k
          · subst e; omega
          · exact hok.out j (by omega)
        case measure => simp [intOf]; omega
      · have hin' : inB (gI zs k) 0 9999 = false := by simpa using hin
        clear hin
        have HB := Lib.hid (inB_no hin')
        go_wp2_with (go_at_call 25; refine (l6In_any _ _ _ _).mono ?_; rintro e w' ⟨rfl, rfl⟩)
        go_ret
        exact ⟨ret_bool (cOk_bad HB.out).symm, rfl⟩
    · go_wp2
      go_ret
      have hl := HL.out
      refine ⟨ret_bool ?_, rfl⟩
      by_cases hs : n ≤ 200
      · rw [cOk_mk (by omega) (fun i hi => hok.out i (by omega))]; simp; omega
      · rcases hb : cOk zs with _ | _
        · simp; omega
        · have := cOk_len hb; omega



end Go.Proofs.Ytddchlfhjiimcaa
