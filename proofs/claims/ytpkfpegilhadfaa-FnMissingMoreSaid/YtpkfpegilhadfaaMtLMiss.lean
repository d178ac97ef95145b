/- The walk of the law FnMissing: a line is missing or matched. -/
import Derived.Test.YtpkfpegilhadfaaMtDraw2
import Derived.Test.YtpkfpegilhadfaaMtIn
import Derived.Test.YtpkfpegilhadfaaMtMissI
import Derived.Test.YtpkfpegilhadfaaMtLawP
set_option linter.unusedVariables false
namespace Go.Proofs.Ytpkfpegilhadfaa
open Go.RowKit Lk Mt

theorem miss_pre (best : List Int) {i : Nat} : ∀ N, i ≤ N → ∃ t, miss best N = miss best i ++ t
  | 0, h => by obtain rfl : i = 0 := by omega
               exact ⟨[], by simp⟩
  | N + 1, h => by
    by_cases e : i = N + 1
    · subst e; exact ⟨[], by simp⟩
    · obtain ⟨t, ht⟩ := miss_pre best N (i := i) (by omega)
      rw [miss_succ, ht]
      exact ⟨t ++ _, by rw [List.append_assoc]⟩
theorem miss_spot {best : List Int} {i N : Nat} (h : i < N) (hc : best.contains (Int.ofNat i) = false) : (miss best i).length < (miss best N).length ∧ gI (miss best N) (miss best i).length = (i : Int) := by
  obtain ⟨t, ht⟩ := miss_pre best N (i := i + 1) h
  rw [miss_succ, hc] at ht
  rw [ht]
  constructor
  · simp
  · simp [gI]
theorem matchMissing_yes {s : List Nd} {zs : List Int} {tol : Int} (h : allOk s zs tol = true) : matchMissing s zs tol = miss (allL (lines s) zs tol) (lines s).length := by unfold matchMissing; rw [if_pos h]
def MsRel (best : List Int) (N : Nat) (W : World) (kv i : Value) (wr : World) : Prop :=
  ∃ k : Nat, k ≤ N ∧ i = .int .i64 k ∧ kv = .int .i64 ((miss best k).length : Nat) ∧ Below W.heap.size W wr
set_option maxRecDepth 100000 in
set_option maxHeartbeats 4000000 in
theorem fnMissing_walk (A : Option Addr) (n c : Nat) (bs : List Int) (w : World) (h : BSl w w.heap.size A n c bs) :
    Calls Try.prog 3 #[.slice A n c] w fun e w' => e = .returned (.bool true) ∧ Below w.heap.size w w' := by
  by_cases hbig : 1048576 < n
  · go_enter Try.func3, Try.ntmps3
    go_wp2
    go_ret
    exact ⟨rfl, Below.refl _ _⟩
  go_enter Try.func3, Try.ntmps3
  go_wp2_with fail
  refine (DrawMatchMissing_any _ _ _ _ _ h (by omega)).mono ?_
  rintro e w1 ⟨A1, m, c1, s, A2, n2, c2, zs, tol, rfl, hm, hn2, hO1, hin, hZ1, hzin, htb, hb1⟩
  have i1 := NSl.of_own hO1 hin
  have j1 := ISl.of_own hZ1 hzin
  clear hin hzin htb hO1 hZ1
  go_wp2_with fail
  refine (iMatchMissing_any _ _ _ s _ _ _ zs tol _ i1 j1 (by omega)).mono ?_
  rintro e w2 ⟨A3, m3, c3, rfl, hr2, hb2⟩
  have i2 := (i1.below hb2).more hb2.size
  have j2 := (j1.below hb2).more hb2.size
  have r2 := ISl.of_own hr2 (matchMissing_in s zs tol)
  have hT2 := Below.step hb1 hb2
  have hm3 : m3 ≤ 144 := by have := r2.len; have := matchMissing_len s zs tol; omega
  clear hr2 hb1 hb2 i1 j1
  go_wp2_with fail
  refine (sMatchMissing_any _ _ _ s _ _ _ zs tol _ i2 j2 (by omega)).mono ?_
  rintro e w3 ⟨A4, m4, c4, rfl, hq3, hb3⟩
  have i3 := (i2.below hb3).more hb3.size
  have j3 := (j2.below hb3).more hb3.size
  have r3 := (r2.below hb3).more hb3.size
  have q3 := ISl.of_own hq3 (matchMissing_in s zs tol)
  have hT3 := Below.step hT2 hb3
  clear hq3 hT2 hb3 i2 j2 r2
  have hs : ∀ W, Below w3.heap.size w3 W → Calls Try.prog 12 #[.slice A3 m3 c3, .slice A4 m4 c4] W fun e w' => e = .returned (.bool true) ∧ Below W.heap.size W w' := fun W hW =>
    sameInts_same _ _ _ _ _ _ (matchMissing s zs tol) W ((r3.below hW).more hW.size) ((q3.below hW).more hW.size) (by omega)
  obtain ⟨K, hK⟩ : ∃ K, allOk s zs tol = K := ⟨_, rfl⟩
  rw [hK]
  cases K
  · have HO := Lib.hid hT3
    clear i3 j3 r3 q3 hT3 hK
    go_wp2_with (go_at_call 12; first | (refine (hs _ (Below.refl _ _)).mono ?_; rintro e w4 ⟨rfl, hb4⟩) | (refine (hs _ hb4).mono ?_; rintro e w5 ⟨rfl, hb5⟩))
    go_ret
    exact ⟨rfl, HO.out.trans ((hb4.trans (hb5.mono hb4.size)).mono HO.out.size)⟩
  have HK := Lib.hid hK
  rw [matchMissing_yes hK] at r3
  clear q3 hK
  go_upto_region 8 with (go_at_call 12; (refine (hs _ (Below.refl _ _)).mono ?_; rintro e w4 ⟨rfl, hb4⟩))
  have i4 := (i3.below hb4).more hb4.size
  have j4 := (j3.below hb4).more hb4.size
  have r4 := (r3.below hb4).more hb4.size
  have hT4 := Below.step hT3 hb4
  clear hs i3 j3 r3 hT3 hb4
  go_wp2_with fail
  refine (iMatchAll_any _ _ _ s _ _ _ zs tol _ i4 j4 (by omega)).mono ?_
  rintro e w5 ⟨A5, m5, c5, rfl, hall, hb5⟩
  rw [HK.out]
  have hlen144 := lines_len s
  rw [matchAll_yes HK.out] at hall
  have a5 := ISl.of_own hall (allL_inI _ _ _ hlen144)
  have i5 := (i4.below hb5).more hb5.size
  have r5 := (r4.below hb5).more hb5.size
  have hT5 := Below.step hT4 hb5
  have hm5 : m5 ≤ 40 := by have := a5.len; rw [allL_len] at this; have := (allOk_parts HK.out).2.1; omega
  clear i4 j4 r4 hT4 hall hb5
  obtain ⟨N, hN⟩ : ∃ N, (lines s).length = N := ⟨_, rfl⟩
  obtain ⟨best, hbest⟩ : ∃ b, allL (lines s) zs tol = b := ⟨_, rfl⟩
  rw [hbest, hN] at r5
  rw [hbest] at a5
  rw [hN] at hlen144
  have HN := Lib.hid hN
  have HML := Lib.hid r5.len
  have HAL := Lib.hid a5.len
  clear hN hbest
  go_wp2
  go_loopw [12, 13] (fun kv i wr => MsRel best N w5 kv i wr) (fun _ i _ => N - (intOf i).toNat)
  case atStart => exact ⟨0, Nat.zero_le _, rfl, rfl, Below.refl _ _⟩
  case round =>
    obtain ⟨k, hk, rfl, rfl, hb⟩ := hrel
    go_wp2_with fail
    refine (iSchemeLines_any _ _ _ s _ ((i5.below hb).more hb.size)).mono ?_
    rintro e w6 ⟨A6, n6, c6, rfl, hown6, hb6⟩
    obtain rfl : n6 = N := by have := hown6.len; rw [← HN.out]; simpa using this.symm
    have hb' := Below.step hb hb6
    clear hown6 hb hb6
    by_cases hlt : k < n6
    · go_wp2
      go_loop [14, 15] (fun f q => ∃ (j : Nat) (F : Bool), j ≤ m5 ∧ q = .int .i64 j ∧ f = .bool F ∧ Hid (F = true ↔ ∃ t, t < j ∧ gI best t = (k : Int))) (fun _ q => m5 - (intOf q).toNat)
      case atStart => exact ⟨0, false, Nat.zero_le _, rfl, rfl, (by constructor; intro h; cases h; rintro ⟨t, h, _⟩; omega)⟩
      case round =>
        obtain ⟨j, F, hj, rfl, rfl, hF⟩ := hrel
        by_cases hjm : j < m5
        · cases F
          · obtain ⟨b, off, rfl, hbB, hkz, hc⟩ := a5.at_ hjm
            have p1 := (bcell hb' _ _ hbB).trans (hc j hjm)
            obtain ⟨z, hz⟩ : ∃ z, gI best j = z := ⟨_, rfl⟩
            rw [hz] at p1
            have HZ := Lib.hid hz
            clear hc hz
            by_cases he : z = (k : Int)
            · have g1 : (z == (k : Int)) = true := by simpa using he
              have HF2 : Hid (true = true ↔ ∃ t, t < j + 1 ∧ gI best t = (k : Int)) := ⟨fun _ => ⟨j, by omega, by rw [HZ.out]; exact he⟩, fun _ => rfl⟩
              clear he
              go_wp2
              go_round
              case rel => exact ⟨j + 1, true, by omega, by go_num, rfl, HF2⟩
              case measure => simp [intOf]; omega
            · have g1 : (z == (k : Int)) = false := by simpa using he
              have HF2 : Hid (false = true ↔ ∃ t, t < j + 1 ∧ gI best t = (k : Int)) := by
                constructor
                · intro h; cases h
                · rintro ⟨t, h1, h2⟩
                  by_cases e : t = j
                  · rw [e, HZ.out] at h2; exact absurd h2 he
                  · exact hF.out.2 ⟨t, by omega, h2⟩
              clear he
              go_wp2
              go_round
              case rel => exact ⟨j + 1, false, by omega, by go_num, rfl, HF2⟩
              case measure => simp [intOf]; omega
          · have HF2 : Hid (true = true ↔ ∃ t, t < j + 1 ∧ gI best t = (k : Int)) := by
              constructor
              · intro _
                obtain ⟨t, h1, h2⟩ := hF.out.1 rfl
                exact ⟨t, by omega, h2⟩
              · intro _; rfl
            go_wp2
            go_round
            case rel => exact ⟨j + 1, true, by omega, by go_num, rfl, HF2⟩
            case measure => simp [intOf]; omega
        · obtain rfl : j = m5 := by omega
          have HMS := Lib.hid (miss_succ best k)
          cases F
          · have hcon : best.contains (Int.ofNat k) = false := has_no (fun t ht e => by
              have := hF.out.2 ⟨t, by rw [← HAL.out]; exact ht, e⟩
              cases this)
            obtain ⟨s1, s2⟩ := miss_spot hlt hcon
            have HS : Hid ((miss best (k + 1)).length = (miss best k).length + 1) := by show _ = _; rw [HMS.out, hcon]; simp
            obtain ⟨M, hM⟩ : ∃ M, (miss best k).length = M := ⟨_, rfl⟩
            rw [hM] at s1 s2 HS ⊢
            rw [HML.out] at s1
            obtain ⟨b, off, rfl, hbB, hkz, hc⟩ := r5.at_ s1
            have p1 := (bcell hb' _ _ hbB).trans (hc M s1)
            rw [s2] at p1
            have s1I : (M : Int) < (m3 : Int) := by omega
            have HB := Lib.hid hb'
            clear hc s2 hcon hM hb'
            go_wp2
            go_roundw
            case rel => exact ⟨k + 1, by omega, by go_num, by rw [HS.out]; go_num, HB.out⟩
            case measure => simp [intOf]; omega
          · obtain ⟨t, h1, h2⟩ := hF.out.1 rfl
            have hcon : best.contains (Int.ofNat k) = true := has_yes (by rw [HAL.out]; exact h1) h2
            have HS : Hid ((miss best (k + 1)).length = (miss best k).length) := by show _ = _; rw [HMS.out, hcon]; simp
            have HB := Lib.hid hb'
            clear hcon h1 h2 hb'
            go_wp2
            go_roundw
            case rel => exact ⟨k + 1, by omega, by go_num, by rw [HS.out], HB.out⟩
            case measure => simp [intOf]; omega
    · obtain rfl : k = n6 := by omega
      have HO := Lib.hid (Below.step hT5 hb')
      rw [HML.out]
      clear hb' hT5
      go_wp2
      go_ret
      exact ⟨rfl, HO.out⟩
end Go.Proofs.Ytpkfpegilhadfaa
