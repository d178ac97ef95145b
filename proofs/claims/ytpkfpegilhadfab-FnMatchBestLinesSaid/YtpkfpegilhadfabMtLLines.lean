/- The walk of the law FnMatchBestLines: the best line is one that matches. -/
import Derived.Test.YtpkfpegilhadfabMtDraw2
import Derived.Test.YtpkfpegilhadfabMtMLinesI
import Derived.Test.YtpkfpegilhadfabMtBestI
import Derived.Test.YtpkfpegilhadfabMtLExact
import Derived.Laws.StructEq
set_option linter.unusedVariables false
namespace Go.Proofs.Ytpkfpegilhadfab
open Go.RowKit Lk Mt

def FLRel (M : List Line) (X : Line) (n : Nat) (W : World) (f i : Value) (wr : World) : Prop :=
  ∃ (q : Nat) (F : Bool), q ≤ n ∧ i = .int .i64 q ∧ f = .bool F ∧ Hid (F = true ↔ ∃ t, t < q ∧ gX M t = X) ∧ Below W.heap.size W wr
set_option maxRecDepth 100000 in
set_option maxHeartbeats 4000000 in
theorem fnMatchBestLines_walk (A : Option Addr) (n c : Nat) (bs : List Int) (A' : Option Addr) (n' c' : Nat) (bs' : List Int) (w : World) (h : BSl w w.heap.size A n c bs) (h' : BSl w w.heap.size A' n' c' bs') :
    Calls Try.prog 4 #[.slice A n c, .slice A' n' c'] w fun e w' => e = .returned (.bool true) ∧ Below w.heap.size w w' := by
  by_cases hbig : 1048576 < n
  · go_enter Try.func4, Try.ntmps4
    go_wp2
    go_ret
    exact ⟨rfl, Below.refl _ _⟩
  by_cases hbig' : 1048576 < n'
  · go_enter Try.func4, Try.ntmps4
    go_wp2
    go_ret
    exact ⟨rfl, Below.refl _ _⟩
  go_enter Try.func4, Try.ntmps4
  go_wp2_with fail
  refine (DrawMatchBest_any _ _ _ _ _ h (by omega)).mono ?_
  rintro e w1 ⟨A1, m, c1, s, seen, tol, rfl, hm, hO1, hin, hsb, htb, hb1⟩
  have HI := Lib.hid hin
  clear hin hsb htb
  go_wp2_with fail
  refine (iMatchBest_any _ _ _ s _ _ _ (NSl.of_own hO1 HI.out)).mono ?_
  rintro e w2 ⟨rfl, hb2⟩
  have hO2 := hO1.below hb2
  have hT2 := Below.step hb1 hb2
  clear hO1 hb1 hb2
  go_wp2_with fail
  refine (sMatchBest_any _ _ _ s _ _ _ (NSl.of_own hO2 HI.out)).mono ?_
  rintro e w3 ⟨rfl, hb3⟩
  have hO3 := hO2.below hb3
  have hT3 := Below.step hT2 hb3
  clear hO2 hT2 hb3
  obtain ⟨R, hR⟩ : ∃ R, matchBest s seen tol = R := ⟨_, rfl⟩
  rw [hR]
  by_cases hneg : R < 0
  · have HO := Lib.hid hT3
    clear hR hO3 hT3
    go_wp2
    go_ret
    exact ⟨rfl, HO.out⟩
  obtain ⟨k, rfl⟩ := Int.eq_ofNat_of_zero_le (a := R) (by omega)
  obtain ⟨h1, h2, h3, h4⟩ := best_pos hR
  have HB := Lib.hid (And.intro h1 (And.intro h2 h3))
  clear hR hneg h1 h2 h3
  have i3 := NSl.of_own hO3 HI.out
  have HMY := Lib.hid (matchLines_yes HB.out.1 HB.out.2.1)
  go_wp2_with fail
  refine (iMatchLines_any _ _ _ s _ _ _ i3).mono ?_
  rintro e w4 ⟨A4, m4, c4, rfl, hM4, hb4⟩
  have i4 := (i3.below hb4).more hb4.size
  have l4 := LSl.of_own hM4 (matchLines_inL _ _ _)
  have hml : (matchLines s seen tol).length = m4 := by have := hM4.len; simpa using this
  have hm4 : m4 ≤ 144 := by rw [← hml]; exact matchLines_len _ _ _
  have hT4 := Below.step hT3 hb4
  clear hM4 hb4 hT3 hO3 i3
  go_wp2_with fail
  refine (iSchemeLines_any _ _ _ s _ i4).mono ?_
  rintro e w5 ⟨A5, n5, c5, rfl, hL5, hb5⟩
  have hl : (lines s).length = n5 := by have := hL5.len; simpa using this
  rw [hl] at h4
  obtain ⟨b, off, rfl, hbB, hkz, hc⟩ := (LSl.of_lines hL5).at_ h4
  obtain ⟨q1, q2, q3⟩ := hc k h4
  rw [gL_lm] at q1 q2 q3
  have i5 := (i4.below hb5).more hb5.size
  have l5 := (l4.below hb5).more hb5.size
  have hT5 := Below.step hT4 hb5
  obtain ⟨_, hX⟩ := best_in HB.out.2.2
  rw [← HMY.out] at hX
  obtain ⟨X, hX'⟩ : ∃ X, gX (lines s) k = X := ⟨_, rfl⟩
  rw [hX'] at q1 q2 q3 hX
  obtain ⟨M, hM⟩ : ∃ M, matchLines s seen tol = M := ⟨_, rfl⟩
  rw [hM] at hX l5 hml
  obtain ⟨t0, ht0, ht1⟩ := mem_gX hX
  have HT0 : Hid (∃ t, t < m4 ∧ gX M t = X) := ⟨t0, by omega, ht1⟩
  obtain ⟨x1, x2, x3⟩ := X
  unfold lm at q1 q2 q3
  dsimp only at q1 q2 q3
  have h4I : (k : Int) < (n5 : Int) := by omega
  clear hc hX' hM hX ht0 ht1 hL5 hb5 i4 l4 hT4 hkz hml HMY
  go_upto_region 10 with (fail)
  have hba : Below w5.heap.size w5 (w5.alloc (.cells #[.int .i64 x1, .int .i64 x2, .int .i64 x3] 42)) := (Below.refl _ _).alloc (Nat.le_refl _) _
  obtain ⟨e1, e2, e3⟩ := three_new w5 (.int .i64 x1) (.int .i64 x2) (.int .i64 x3) 42
  have hs6 : (w5.alloc (.cells #[.int .i64 x1, .int .i64 x2, .int .i64 x3] 42)).heap.size = w5.heap.size + 1 := by simp
  generalize w5.alloc (.cells #[.int .i64 x1, .int .i64 x2, .int .i64 x3] 42) = w6 at hba e1 e2 e3 hs6 ⊢
  have i6 := (i5.below hba).more hba.size
  have l6 := (l5.below hba).more hba.size
  have hT6 := Below.step hT5 hba
  clear i5 l5 hT5 hba
  go_wp2
  go_loopw [12, 13] (fun f i wr => FLRel M ⟨x1, x2, x3⟩ m4 w6 f i wr) (fun _ i _ => m4 - (intOf i).toNat)
  case atStart => exact ⟨0, false, Nat.zero_le _, rfl, rfl, (by constructor; intro h; cases h; rintro ⟨t, h, _⟩; omega), Below.refl _ _⟩
  case round =>
    obtain ⟨q, F, hq, rfl, rfl, hF, hb⟩ := hrel
    by_cases hqm : q < m4
    · obtain ⟨bb, offb, rfl, hbbB, _, hcb⟩ := l6.at_ hqm
      obtain ⟨r1, r2, r3⟩ := hcb q hqm
      rw [gL_lm] at r1 r2 r3
      obtain ⟨Y, hY⟩ : ∃ Y, gX M q = Y := ⟨_, rfl⟩
      rw [hY] at r1 r2 r3
      have HY := Lib.hid hY
      clear hY hcb
      obtain ⟨y1, y2, y3⟩ := Y
      unfold lm at r1 r2 r3
      dsimp only at r1 r2 r3
      replace r1 := (bcell hb _ _ hbbB).trans r1
      replace r2 := (bcell hb _ _ hbbB).trans r2
      replace r3 := (bcell hb _ _ hbbB).trans r3
      have f1 := (bcell hb _ _ (by omega)).trans e1
      have f2 := (bcell hb _ _ (by omega)).trans e2
      have f3 := (bcell hb _ _ (by omega)).trans e3
      have hqI : (q : Int) < (m4 : Int) := by omega
      cases F
      · by_cases hyx : (⟨y1, y2, y3⟩ : Line) = ⟨x1, x2, x3⟩
        · have HF2 : Hid (∃ t, t < q + 1 ∧ gX M t = ⟨x1, x2, x3⟩) := ⟨q, by omega, by rw [HY.out]; exact hyx⟩
          injection hyx with z1 z2 z3
          subst z1 z2 z3
          go_wp2
          go_quiet (fail)
          go_wp2
          go_roundw
          case rel => exact ⟨q + 1, true, by omega, by go_num, rfl, Lib.hid ⟨fun _ => HF2.out, fun _ => rfl⟩, below_drewN hb _⟩
          case measure => simp [intOf]; omega
        · have HF2 : Hid (¬ ∃ t, t < q + 1 ∧ gX M t = ⟨x1, x2, x3⟩) := by
            rintro ⟨t, g1, g2⟩
            by_cases e : t = q
            · rw [e, HY.out] at g2; exact absurd g2 hyx
            · exact absurd (hF.out.2 ⟨t, by omega, g2⟩) (by simp)
          have hne : (y1 == x1) = false ∨ ((y1 == x1) = true ∧ (y2 == x2) = false) ∨ ((y1 == x1) = true ∧ (y2 == x2) = true ∧ (y3 == x3) = false) := by
            by_cases z1 : y1 = x1
            · by_cases z2 : y2 = x2
              · by_cases z3 : y3 = x3
                · exact absurd (by rw [z1, z2, z3]) hyx
                · exact .inr (.inr (by simp [z1, z2, z3]))
              · exact .inr (.inl (by simp [z1, z2]))
            · exact .inl (by simp [z1])
          clear hyx
          rcases hne with g1 | ⟨g1, g2⟩ | ⟨g1, g2, g3⟩
          all_goals
            go_wp2
            go_quiet (fail)
            go_wp2
            go_roundw
            case rel => exact ⟨q + 1, false, by omega, by go_num, rfl, Lib.hid ⟨fun h => by simp at h, fun h => absurd h HF2.out⟩, below_drewN hb _⟩
            case measure => simp [intOf]; omega
      · have HF2 : Hid (∃ t, t < q + 1 ∧ gX M t = ⟨x1, x2, x3⟩) := by
          obtain ⟨t, g1, g2⟩ := hF.out.1 rfl
          exact ⟨t, by omega, g2⟩
        go_wp2
        go_quiet (fail)
        go_wp2
        go_roundw
        case rel => exact ⟨q + 1, true, by omega, by go_num, rfl, Lib.hid ⟨fun _ => HF2.out, fun _ => rfl⟩, below_drewN hb _⟩
        case measure => simp [intOf]; omega
    · obtain rfl : q = m4 := by omega
      obtain rfl : F = true := hF.out.2 HT0.out
      obtain ⟨m1, m2, m3, m4'⟩ := mOk_iff.1 HB.out.2.1
      obtain ⟨T, rfl⟩ := Int.eq_ofNat_of_zero_le m3
      obtain ⟨K, hKe⟩ : ∃ K, n' % (T + 1) = K := ⟨_, rfl⟩
      have hKn : K ≤ T := by have := Nat.mod_lt n' (show 0 < T + 1 by omega); omega
      have t2 : (n' : Int) % ((T : Int) + 1) = (K : Int) := by rw [← hKe]; simp
      have t1 : (n' : Int).tmod ((T : Int) + 1) = (K : Int) := by rw [Int.tmod_eq_emod_of_nonneg (by omega)]; exact t2
      have hnz : ((T : Int) + 1 == 0) = false := by simp; omega
      have hle := best_less (L := lines s) (seen := seen) (t := (K : Int)) (tol := (T : Int)) (by omega)
      rw [HB.out.2.2, ← matchBest_yes HB.out.1 (mOk_iff.2 (by omega))] at hle
      have i7 := (i6.below hb).more hb.size
      have hT7 := Below.step hT6 hb
      clear hKe i6 hT6 hb l6 e1 e2 e3
      go_wp2_with fail
      refine (iMatchBest_any _ _ _ s _ _ _ i7).mono ?_
      rintro e w8 ⟨rfl, hb8⟩
      have HT := Lib.hid (Below.step hT7 hb8)
      clear hT7 hb8 i7
      rcases hle with hle | hle
      all_goals
        rw [hle]
        clear hle
        go_wp2
        go_ret
        exact ⟨rfl, HT.out⟩
end Go.Proofs.Ytpkfpegilhadfab
