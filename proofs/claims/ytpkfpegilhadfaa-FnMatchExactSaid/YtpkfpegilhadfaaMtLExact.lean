/- The walk of the law FnMatchExact: a line matches itself. -/
import Derived.Test.YtpkfpegilhadfaaMtDraw2
import Derived.Test.YtpkfpegilhadfaaMtBestI
import Derived.Test.YtpkfpegilhadfaaMtLawP
set_option linter.unusedVariables false
namespace Go.Proofs.Ytpkfpegilhadfaa
open Go.RowKit Lk Mt

theorem best_pos {s : List Nd} {seen tol : Int} {k : Nat} (h : matchBest s seen tol = k) : sOk s = true ∧ mOk seen tol = true ∧ bestL (lines s) seen tol = k ∧ k < (lines s).length := by
  unfold matchBest at h
  split at h
  · next hh => exact ⟨hh.1, hh.2, h, (best_in h).1⟩
  · omega
set_option maxRecDepth 100000 in
set_option maxHeartbeats 4000000 in
theorem fnMatchExact_walk (A : Option Addr) (n c : Nat) (bs : List Int) (w : World) (h : BSl w w.heap.size A n c bs) :
    Calls Try.prog 8 #[.slice A n c] w fun e w' => e = .returned (.bool true) ∧ Below w.heap.size w w' := by
  by_cases hbig : 1048576 < n
  · go_enter Try.func8, Try.ntmps8
    go_wp2
    go_ret
    exact ⟨rfl, Below.refl _ _⟩
  go_enter Try.func8, Try.ntmps8
  go_wp2_with fail
  refine (DrawMatchBest_any _ _ _ _ _ h (by omega)).mono ?_
  rintro e w1 ⟨A1, m, c1, s, seen, tol, rfl, hm, hO1, hin, hsb, htb, hb1⟩
  have HI := Lib.hid hin
  clear hin hsb htb
  go_wp2_with fail
  refine (iMatchBest_any _ _ _ s _ _ _ (NSl.of_own hO1 HI.out)).mono ?_
  rintro e w2 ⟨rfl, hb2⟩
  have hO2 := hO1.below hb2
  have hT2 := Below.step hb1 hb2
  clear hO1 hb1 hb2
  go_wp2_with fail
  refine (sMatchBest_any _ _ _ s _ _ _ (NSl.of_own hO2 HI.out)).mono ?_
  rintro e w3 ⟨rfl, hb3⟩
  have hO3 := hO2.below hb3
  have hT3 := Below.step hT2 hb3
  clear hO2 hT2 hb3
  obtain ⟨R, hR⟩ : ∃ R, matchBest s seen tol = R := ⟨_, rfl⟩
  rw [hR]
  by_cases hneg : R < 0
  · have HO := Lib.hid hT3
    clear hR hO3 hT3
    go_wp2
    go_ret
    exact ⟨rfl, HO.out⟩
  obtain ⟨k, rfl⟩ := Int.eq_ofNat_of_zero_le (a := R) (by omega)
  obtain ⟨h1, h2, h3, h4⟩ := best_pos hR
  have HB := Lib.hid (And.intro h1 (And.intro h2 h3))
  clear hR hneg h1 h2 h3
  go_wp2_with fail
  refine (iSchemeLines_any _ _ _ s _ (NSl.of_own hO3 HI.out)).mono ?_
  rintro e w4 ⟨A2, n2, c2, rfl, hL4, hb4⟩
  have hl : (lines s).length = n2 := by have := hL4.len; simpa using this
  rw [hl] at h4
  have hO4 := hO3.below hb4
  have hT4 := Below.step hT3 hb4
  obtain ⟨b, off, rfl, hbB, hc⟩ := (LSl.of_lines hL4).num h4
  obtain ⟨q, hq1, hq2, hq3⟩ := best_self (L := lines s) (out := k) (by rw [hl]; exact h4)
  rw [hl] at hq1
  have hN := lines_bd HB.out.1 hl k h4
  have p1 := hc k h4
  have p2 := hc q hq1
  have HQ : Hid (matchBest s (gX (lines s) k).n 0 = q) := by show _ = _; rw [matchBest_yes HB.out.1 (mOk_iff.2 (by omega))]; exact hq2
  rw [hq3] at p2
  obtain ⟨N, hN'⟩ : ∃ N, (gX (lines s) k).n = N := ⟨_, rfl⟩
  rw [hN'] at p1 p2 HQ
  clear hc hq2 hq3 hO3 hT3 hb4 hL4 hl hN hN'
  go_wp2_with fail
  refine (iMatchBest_any _ _ _ s _ _ _ (NSl.of_own hO4 HI.out)).mono ?_
  rintro e w5 ⟨rfl, hb5⟩
  rw [HQ.out]
  replace p1 := (bcell hb5 _ _ hbB).trans p1
  replace p2 := (bcell hb5 _ _ hbB).trans p2
  have HT := Lib.hid (Below.step hT4 hb5)
  have u1 : (k : Int) < (n2 : Int) := by omega
  have u2 : (q : Int) < (n2 : Int) := by omega
  clear hO4 hT4 hb5
  go_wp2
  go_quiet (fail)
  go_wp2
  go_ret
  exact ⟨rfl, below_drewN HT.out _⟩
end Go.Proofs.Ytpkfpegilhadfaa
