/- Contracts of BlendWidth and BlendMean. -/
import Derived.Test.YtpfbjpognmjmmaaBlWalks
namespace Go.Proofs.Ytpfbjpognmjmmaa
open Go.RowKit Bl

set_option maxHeartbeats 2000000 in
theorem iBlendWidth_any (A : Option Addr) (n c : Nat) (zs : List Int) (w : World) (h : ISl w w.heap.size A n c zs) (hn : n ≤ 16777216) :
    Calls Try.prog 13 #[.slice A n c] w fun e w' => e = .returned (.int .i64 (blendWidth zs)) ∧ Below w.heap.size w w' := by
  have HL := Lib.hid h.len
  rcases hok : blOk zs with _ | _
  · go_enter Try.func13, Try.ntmps13
    go_wp2_with fail
    refine (blendListValid_any _ _ _ _ _ _ h hn).mono ?_
    rintro e w1 ⟨rfl, rfl⟩
    have hb0 := Below.refl w.heap.size w
    go_wp2
    go_ret
    exact ⟨ret_int (by simp [blendWidth, hok]), hb0⟩
  · have hs := blOk_len hok
    rw [HL.out] at hs
    go_enter Try.func13, Try.ntmps13
    go_wp2_with fail
    refine (blendListValid_any _ _ _ _ _ _ h hn).mono ?_
    rintro e w1 ⟨rfl, rfl⟩
    have hb0 := Below.refl w.heap.size w
    go_wp2_with fail
    go_loopw [3, 4] (fun v i wr => ∃ k : Nat, 1 ≤ k ∧ (k ≤ n ∨ k = 1) ∧ i = .int .i64 k ∧ v = .int .i64 (bw zs k) ∧ Below w.heap.size w wr) (fun _ i _ => n - (intOf i).toNat)
    case atStart => exact ⟨1, Nat.le_refl _, .inr rfl, rfl, rfl, hb0⟩
    case round =>
      obtain ⟨k, hk1, hk, rfl, rfl, hb⟩ := hrel
      have HK := Lib.hid hk
      clear hk
      by_cases hlt : k < n
      · obtain ⟨b, off, rfl, hbB, hkz, hc⟩ := h.at_ hlt
        have h1 := (bcell hb _ _ hbB).trans (hc k hlt)
        have h2 := (bcell hb _ _ hbB).trans (hc (k - 1) (by omega))
        have hkI : (k : Int) < (n : Int) := by omega
        have o1 := blOk_at hok (i := k) (by rw [HL.out]; exact hlt)
        have o2 := blOk_at hok (i := k - 1) (by rw [HL.out]; omega)
        have v1 : IntKind.i64.wrap ((k : Int) - 1) = (k : Int) - 1 := IntWalk.i64_in _ (by omega)
        have v2 : ((k : Int) - 1).toNat = k - 1 := by omega
        have v3 : (0 : Int) ≤ (k : Int) - 1 := by omega
        have v4 : (k : Int) - 1 < (n : Int) := by omega
        obtain ⟨D, hD⟩ : ∃ D, gI zs k - gI zs (k - 1) = D := ⟨_, rfl⟩
        have v5 : IntKind.i64.wrap (gI zs k - gI zs (k - 1)) = D := by rw [IntWalk.i64_in _ (by unfold okAt at o1 o2; omega), hD]
        have HM : Hid (bw zs (k + 1) = max (bw zs k) D) := by show bw zs (k + 1) = _; rw [bw_succ (by omega), hD]
        clear hc hkz hD o1 o2
        go_wp2
        go_quiet (fail)
        clear v1 v2 v5
        go_wp2
        all_goals
          go_roundw
          case rel => exact ⟨k + 1, by omega, .inl (by omega), by go_num, by rw [HM.out]; first | rfl | (congr 1; first | (split <;> omega) | omega), below_drewN hb _⟩
          case measure => simp [intOf]; omega
      · have HN := Lib.hid hlt
        go_wp2
        go_ret
        refine ⟨ret_int ?_, hb⟩
        unfold blendWidth
        rw [if_pos hok, HL.out]
        have := HK.out
        have := HN.out
        by_cases e : k = n
        · rw [e]
        · rw [show k = 1 by omega, show n = 0 by omega]; rfl

set_option maxHeartbeats 2000000 in
theorem sBlendWidth_any (A : Option Addr) (n c : Nat) (zs : List Int) (w : World) (h : ISl w w.heap.size A n c zs) (hn : n ≤ 16777216) :
    Calls Try.prog 11 #[.slice A n c] w fun e w' => e = .returned (.int .i64 (blendWidth zs)) ∧ Below w.heap.size w w' := by
  have HL := Lib.hid h.len
  rcases hok : blOk zs with _ | _
  · go_enter Try.func11, Try.ntmps11
    go_wp2_with fail
    refine (l37Valid_any _ _ _ _ _ h hn).mono ?_
    rintro e w1 ⟨rfl, hb0⟩

    go_wp2
    go_ret
    exact ⟨ret_int (by simp [blendWidth, hok]), hb0⟩
  · have hs := blOk_len hok
    rw [HL.out] at hs
    go_enter Try.func11, Try.ntmps11
    go_wp2_with fail
    refine (l37Valid_any _ _ _ _ _ h hn).mono ?_
    rintro e w1 ⟨rfl, hb0⟩

    go_wp2_with fail
    go_loopw [3, 4] (fun v i wr => ∃ k : Nat, 1 ≤ k ∧ (k ≤ n ∨ k = 1) ∧ i = .int .i64 k ∧ v = .int .i64 (bw zs k) ∧ Below w.heap.size w wr) (fun _ i _ => n - (intOf i).toNat)
    case atStart => exact ⟨1, Nat.le_refl _, .inr rfl, rfl, rfl, hb0⟩
    case round =>
      obtain ⟨k, hk1, hk, rfl, rfl, hb⟩ := hrel
      have HK := Lib.hid hk
      clear hk
      by_cases hlt : k < n
      · obtain ⟨b, off, rfl, hbB, hkz, hc⟩ := h.at_ hlt
        have h1 := (bcell hb _ _ hbB).trans (hc k hlt)
        have h2 := (bcell hb _ _ hbB).trans (hc (k - 1) (by omega))
        have hkI : (k : Int) < (n : Int) := by omega
        have o1 := blOk_at hok (i := k) (by rw [HL.out]; exact hlt)
        have o2 := blOk_at hok (i := k - 1) (by rw [HL.out]; omega)
        have v1 : IntKind.i64.wrap ((k : Int) - 1) = (k : Int) - 1 := IntWalk.i64_in _ (by omega)
        have v2 : ((k : Int) - 1).toNat = k - 1 := by omega
        have v3 : (0 : Int) ≤ (k : Int) - 1 := by omega
        have v4 : (k : Int) - 1 < (n : Int) := by omega
        obtain ⟨D, hD⟩ : ∃ D, gI zs k - gI zs (k - 1) = D := ⟨_, rfl⟩
        have v5 : IntKind.i64.wrap (gI zs k - gI zs (k - 1)) = D := by rw [IntWalk.i64_in _ (by unfold okAt at o1 o2; omega), hD]
        have HM : Hid (bw zs (k + 1) = max (bw zs k) D) := by show bw zs (k + 1) = _; rw [bw_succ (by omega), hD]
        clear hc hkz hD o1 o2
        go_wp2
        go_quiet (fail)
        clear v1 v2 v5
        go_wp2
        all_goals
          go_roundw
          case rel => exact ⟨k + 1, by omega, .inl (by omega), by go_num, by rw [HM.out]; first | rfl | (congr 1; first | (split <;> omega) | omega), below_drewN hb _⟩
          case measure => simp [intOf]; omega
      · have HN := Lib.hid hlt
        go_wp2
        go_ret
        refine ⟨ret_int ?_, hb⟩
        unfold blendWidth
        rw [if_pos hok, HL.out]
        have := HK.out
        have := HN.out
        by_cases e : k = n
        · rw [e]
        · rw [show k = 1 by omega, show n = 0 by omega]; rfl
end Go.Proofs.Ytpfbjpognmjmmaa
