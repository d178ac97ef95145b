/- The walk of the law FnJoinedScheme: connected nodes are joined. -/
import Derived.Test.YtpkfpegilhadfaaMtDraw2
import Derived.Test.YtpkfpegilhadfaaMtReachS
import Derived.Test.YtpkfpegilhadfaaMtLinksOf
import Derived.Test.YtpkfpegilhadfaaLkJoined
set_option linter.unusedVariables false
namespace Go.Proofs.Ytpkfpegilhadfaa
open Go.RowKit Lk Mt

/-- a slice of flags, read -/
def flagsR (bs : List Bool) : Nat → Nat → Value := fun i _ => .bool (gB bs i)
theorem flags_of_own {w : World} {base n c : Nat} {e : TypeId} {A : Option Addr} {bs : List Bool} (h : w.ownsRow base e 1 (.slice A n c) n (bs.map Value.bool)) : RSl w w.heap.size 1 A n c (flagsR bs) :=
  RSl.of_own ⟨_, h, fun i j hi hj => by
    obtain rfl : j = 0 := by omega
    have hl : bs.length = n := by have := h.1; simpa using this
    rw [Nat.mul_one, Nat.add_zero]
    exact boolsR_at (by omega)⟩
theorem flags_at {w : World} {B n c : Nat} {A : Option Addr} {bs : List Bool} (h : RSl w B 1 A n c (flagsR bs)) {k : Nat} (hk : k < n) : ∃ b off, A = some ⟨b, off, none⟩ ∧ b < B ∧ ∀ i, i < n → w.cell? ⟨b, off + i, none⟩ = some (.bool (gB bs i)) := by
  obtain ⟨b, off, e, hb, hc⟩ := h.at_ hk
  refine ⟨b, off, e, hb, fun i hi => ?_⟩
  have := hc i 0 hi (by omega)
  rw [Nat.mul_one, Nat.add_zero] at this; exact this
set_option maxHeartbeats 1000000 in
theorem sameFlags_same (A A' : Option Addr) (n c c' : Nat) (bs : List Bool) (w : World) (h : RSl w w.heap.size 1 A n c (flagsR bs)) (h' : RSl w w.heap.size 1 A' n c' (flagsR bs)) (hn : n ≤ 16777216) :
    Calls Try.prog 26 #[.slice A n c, .slice A' n c'] w fun e w' => e = .returned (.bool true) ∧ Below w.heap.size w w' := by
  go_enter Try.func26, Try.ntmps26
  go_wp2
  go_loopw [5] (fun i wr => ∃ k : Nat, k ≤ n ∧ i = .int .i64 k ∧ Below w.heap.size w wr) (fun i _ => n - (intOf i).toNat)
  case atStart => exact ⟨0, Nat.zero_le _, rfl, Below.refl _ _⟩
  case round =>
    obtain ⟨k, hk, rfl, hb⟩ := hrel
    by_cases hlt : k < n
    · obtain ⟨b, off, rfl, hbB, hc⟩ := flags_at h hlt
      obtain ⟨b', off', rfl, hbB', hc'⟩ := flags_at h' hlt
      have p1 := (bcell hb _ _ hbB).trans (hc k hlt)
      have p2 := (bcell hb _ _ hbB').trans (hc' k hlt)
      have hlt' : (k : Int) < (n : Int) := by omega
      generalize gB bs k = V at p1 p2
      clear hc hc'
      go_wp2
      go_quiet (fail)
      go_wp2
      go_roundw
      case rel => exact ⟨k + 1, by omega, by go_num, below_drewN hb _⟩
      case measure => simp [intOf]; omega
    · go_wp2
      go_ret
      exact ⟨rfl, hb⟩
theorem linksOf_all {L : List Line} (h : L.length ≤ 30) : Mt.linksOf L = L.map Mt.lk := by unfold Mt.linksOf; rw [List.take_of_length_le h]
set_option maxRecDepth 100000 in
set_option maxHeartbeats 4000000 in
theorem fnJoinedScheme_walk (A : Option Addr) (n c : Nat) (bs : List Int) (w : World) (h : BSl w w.heap.size A n c bs) :
    Calls Try.prog 6 #[.slice A n c] w fun e w' => e = .returned (.bool true) ∧ Below w.heap.size w w' := by
  by_cases hbig : 1048576 < n
  · go_enter Try.func6, Try.ntmps6
    go_wp2
    go_ret
    exact ⟨rfl, Below.refl _ _⟩
  go_enter Try.func6, Try.ntmps6
  go_wp2_with fail
  refine (DrawSchemeReach_any _ _ _ _ _ h (by omega)).mono ?_
  rintro e w1 ⟨A1, m, c1, s, rfl, hm, hO1, hin, hb1⟩
  have i1 := NSl.of_own hO1 hin
  have HSL := Lib.hid hO1.len
  clear hO1 hin
  go_wp2_with fail
  refine (iSchemeReach_any _ _ _ s _ i1).mono ?_
  rintro e w2 ⟨A2, n2, c2, rfl, hL2, hb2⟩
  have i2 := (i1.below hb2).more hb2.size
  have l2 := flags_of_own hL2
  have hl2 : (reachL s).length = n2 := by have := hL2.1; simpa using this
  have hT2 := Below.step hb1 hb2
  clear hL2 hb1 hb2 i1
  go_wp2_with fail
  refine (sSchemeReach_any _ _ _ s _ i2).mono ?_
  rintro e w3 ⟨A3, n3, c3, rfl, hL3, hb3⟩
  obtain rfl : n3 = n2 := by have := hL3.1; rw [← hl2]; simpa using this.symm
  have i3 := (i2.below hb3).more hb3.size
  have l3 := (l2.below hb3).more hb3.size
  have k3 := flags_of_own hL3
  have hT3 := Below.step hT2 hb3
  have hn9 : n3 ≤ 8 := by
    rcases hv : sOk s with _ | _
    · rw [reachL_no hv] at hl2; simp at hl2; omega
    · rw [reachL_len hv, HSL.out] at hl2; omega
  clear hL3 hb3 i2 l2 hT2
  go_wp2_with fail
  refine (sameFlags_same _ _ _ _ _ _ _ l3 k3 (by omega)).mono ?_
  rintro e w4 ⟨rfl, hb4⟩
  have i4 := (i3.below hb4).more hb4.size
  have l4 := (l3.below hb4).more hb4.size
  have k4 := (k3.below hb4).more hb4.size
  have hT4 := Below.step hT3 hb4
  clear l3 k3 i3 hb4 hT3
  by_cases h0 : n3 = 0
  · subst h0
    go_wp2_with fail
    refine (sameFlags_same _ _ _ _ _ _ _ l4 k4 (by omega)).mono ?_
    rintro e w5 ⟨rfl, hb5⟩
    have HO := Lib.hid (Below.step hT4 hb5)
    clear hb5 hT4 l4 k4 i4
    go_wp2
    go_ret
    exact ⟨rfl, HO.out⟩
  have g0 : ((n3 : Int) == 0) = false := by simp; omega
  have hok : sOk s = true := by
    rcases hv : sOk s with _ | _
    · rw [reachL_no hv] at hl2; simp at hl2; omega
    · rfl
  have HOK := Lib.hid hok
  obtain rfl : n3 = m := by rw [reachL_len hok, HSL.out] at hl2; exact hl2.symm
  clear hok k4 hl2
  go_wp2_with fail
  refine (iSchemeLines_any _ _ _ s _ i4).mono ?_
  rintro e w5 ⟨A5, n5, c5, rfl, hL5, hb5⟩
  have i5 := (i4.below hb5).more hb5.size
  have l5 := (l4.below hb5).more hb5.size
  have x5 := LSl.of_lines hL5
  have hl : (lines s).length = n5 := by have := x5.len; simpa using this
  have hn144 : n5 ≤ 144 := by rw [← hl]; exact lines_len s
  have hT5 := Below.step hT4 hb5
  clear hL5 hb5 i4 l4 hT4
  go_wp2_with fail
  refine (linksOf_any _ _ _ (lines s) _ x5 (by omega)).mono ?_
  rintro e w6 ⟨A6, c6, rfl, hX6, hb6⟩
  have hlk := linksOf_ok HOK.out
  have hxi : ∀ l ∈ Mt.linksOf (lines s), InL l := fun l hl => by
    have h1 := lsOk_mem hlk hl
    have h2 := lsOk_bd hlk
    unfold lOk at h1
    unfold InL InI
    omega
  have y6 := LSl.of_own hX6 hxi
  have l6 := (l5.below hb6).more hb6.size
  have hT6 := Below.step hT5 hb6
  rw [HSL.out] at hlk
  have HJR := Lib.hid (joinedR_yes hlk)
  clear hX6 hb6 i5 l5 hT5 hxi x5 hlk
  go_wp2_with fail
  refine (iLinksJoined_any _ _ _ _ _ _ y6 (by omega)).mono ?_
  rintro e w7 ⟨A7, m7, c7, rfl, hJ7, hb7⟩
  rw [HJR.out] at hJ7
  have j7 := ISl.of_own hJ7 (fun z hz => joinedR_in (n3 : Int) (Mt.linksOf (lines s)) z (by rw [HJR.out]; exact hz))
  have l7 := (l6.below hb7).more hb7.size
  have hT7 := Below.step hT6 hb7
  obtain rfl : m7 = n3 := by have := j7.len; rw [joinL_len] at this; exact this.symm
  clear hJ7 hb7 hT6 l6 y6
  by_cases h30 : 30 < n5
  · have g1 : ¬ ((n5 : Int) ≤ 30) := by omega
    go_wp2
    go_rounds 1
    go_ret
    exact ⟨rfl, hT7⟩
  have HRE : Hid (∀ i, i < m7 → gB (reachL s) i = decide (joinF (Mt.linksOf (lines s)) i = 0)) := fun i hi => by
    rw [reachL_at HOK.out (by rw [HSL.out]; exact hi), linksOf_all (by omega)]
    unfold reach
    rw [join0]
  have h30I : (n5 : Int) ≤ 30 := by omega
  generalize Mt.linksOf (lines s) = ls at *
  go_wp2
  go_loopw [8] (fun i wr => ∃ k : Nat, k ≤ m7 ∧ i = .int .i64 k ∧ Below w7.heap.size w7 wr) (fun i _ => m7 - (intOf i).toNat)
  case atStart => exact ⟨0, Nat.zero_le _, rfl, Below.refl _ _⟩
  case round =>
    obtain ⟨k, hk, rfl, hb⟩ := hrel
    by_cases hlt : k < m7
    · obtain ⟨b, off, rfl, hbB, hc⟩ := flags_at l7 hlt
      obtain ⟨b3, off3, rfl, hbB3, _, hc3⟩ := j7.at_ hlt
      have p1 := (bcell hb _ _ hbB).trans (hc k hlt)
      have p3 := (bcell hb _ _ hbB3).trans (hc3 k hlt)
      rw [joinL_at _ hlt] at p3
      have hre := HRE.out k hlt
      obtain ⟨V, hV⟩ : ∃ V, gB (reachL s) k = V := ⟨_, rfl⟩
      obtain ⟨J, hJ⟩ : ∃ J, joinF ls k = J := ⟨_, rfl⟩
      rw [hV, hJ] at hre
      rw [hV] at p1
      rw [hJ] at p3
      have e2 : ((J : Int) == 0) = V := by rw [hre, Bool.eq_iff_iff]; simp
      have hkI : (k : Int) < (m7 : Int) := by omega
      clear hc hc3 hV hJ hre
      cases V
      all_goals
        go_wp2
        go_quiet (fail)
        go_wp2
        go_roundw
        case rel => exact ⟨k + 1, by omega, by go_num, below_drewN hb _⟩
        case measure => simp [intOf]; omega
    · have HO := Lib.hid (Below.step hT7 hb)
      clear hb hT7
      go_wp2
      go_ret
      exact ⟨rfl, HO.out⟩
end Go.Proofs.Ytpkfpegilhadfaa
