/- The walk of the law FnBlendsGap. -/
import Derived.Test.YtpfbjpognmjmmaaBlDraw
set_option linter.unusedVariables false
namespace Go.Proofs.Ytpfbjpognmjmmaa
open Go.RowKit Bl

set_option maxRecDepth 100000 in
set_option maxHeartbeats 4000000 in
theorem fnBlendsGap_walk (A : Option Addr) (n c : Nat) (bs : List Int) (w : World) (h : BSl w w.heap.size A n c bs) :
    Calls Try.prog 10 #[.slice A n c] w fun e w' => e = .returned (.bool true) ∧ Below w.heap.size w w' := by
  by_cases hbig : 1048576 < n
  · go_enter Try.func10, Try.ntmps10
    go_wp2
    go_ret
    exact ⟨rfl, Below.refl _ _⟩
  go_enter Try.func10, Try.ntmps10
  go_wp2_with fail
  refine (DrawBlendsOf_any _ _ _ _ _ h (by omega)).mono ?_
  rintro e w1 ⟨A1, m, c1, zs, wd, rfl, hD, hwd, hb1⟩
  have hm := hD.few
  have i1 := ISl.of_own hD.own hD.ini
  clear hD
  go_wp2_with fail
  refine (iBlendsOf_any _ _ _ _ wd _ i1 (by omega)).mono ?_
  rintro e w2 ⟨A2, m2, c2, rfl, hO2, hb2⟩
  have hT2 := Below.step hb1 hb2
  have i2 := (i1.below hb2).more hb2.size
  have hl2 : (blR zs wd).length = m2 := by obtain ⟨S, hS⟩ := hO2; exact hS.len
  have hl40 := blR_len zs wd
  have hm40 : m2 ≤ 40 := by omega
  clear i1 hb2 hb1
  go_wp2_with fail
  refine (sBlendsOf_any _ _ _ _ wd _ i2 (by omega)).mono ?_
  rintro e w3 ⟨A3, m3, c3, rfl, hO3, hb3⟩
  have hT3 := Below.step hT2 hb3
  have g3 := GSl.of_own (hO2.below hb3) (blR_in zs wd)
  have r3 := GSl.of_own hO3 (blR_in zs wd)
  clear i2 hb3 hT2 hO2 hO3
  rcases hok : blB zs wd with _ | _
  · go_wp2_with fail
    refine (sameGroups_same _ _ _ _ _ _ _ _ g3 r3 (by omega) (blR_small zs wd)).mono ?_
    rintro e w4 ⟨rfl, hb4⟩
    have hT4 := Below.step hT3 hb4
    have g4 := (g3.below hb4).more hb4.size
    have r4 := (r3.below hb4).more hb4.size
    clear g3 r3 hb4
    go_wp2_with fail
    refine (sameGroups_same _ _ _ _ _ _ _ _ g4 r4 (by omega) (blR_small zs wd)).mono ?_
    rintro e w5 ⟨rfl, hb5⟩
    have hT5 := Below.step hT4 hb5
    go_wp2
    go_ret
    exact ⟨rfl, hT5⟩
  obtain ⟨⟨_, hw0, hw1⟩, hgr⟩ := blB_parts hok
  obtain ⟨G, hGe⟩ : ∃ G, blR zs wd = G := ⟨_, rfl⟩
  have HNEAR : Hid (∀ i, i < m2 → 0 < (gG G i).length ∧ (gG G i).length ≤ 100 ∧ ∀ j, 0 < j → j < (gG G i).length → gI (gG G i) j - gI (gG G i) (j - 1) ≤ wd) := fun i hi => by
    have hmem : gG G i ∈ gr zs wd zs.length := by rw [← hgr, hGe]; exact gG_mem (by rw [← hGe, hl2]; exact hi)
    have h1 := (gr_grp zs wd zs.length).1.near _ hmem
    exact ⟨h1.1, blR_small zs wd _ (by rw [hgr]; exact hmem), h1.2⟩
  have HFAR : Hid (∀ i, 0 < i → i < m2 → wd < gI (gG G i) 0 - gI (gG G (i - 1)) ((gG G (i - 1)).length - 1)) := fun i h0 hi => by
    have := gr_far zs wd zs.length i h0 (by rw [← hgr, hl2]; exact hi)
    rw [← hgr, hGe] at this; exact this
  have HBD : Hid (∀ i j, i < m2 → j < (gG G i).length → 0 ≤ gI (gG G i) j ∧ gI (gG G i) j ≤ 200000) := fun i j hi hj => by
    have hmem : gG G i ∈ gr zs wd zs.length := by rw [← hgr, hGe]; exact gG_mem (by rw [← hGe, hl2]; exact hi)
    obtain ⟨a, ha, hp⟩ := (gr_grp zs wd zs.length).1.part _ hmem
    rw [hp j hj]
    have := blOk_at (blB_parts hok).1.1 (i := a + j) (by omega)
    unfold okAt at this; omega
  have HSM := Lib.hid (blR_small zs wd)
  rw [hGe] at g3 r3 hl2 HSM
  clear hGe hok hgr
  go_wp2_with fail
  refine (sameGroups_same _ _ _ _ _ _ _ _ g3 r3 (by omega) HSM.out).mono ?_
  rintro e w4 ⟨rfl, hb4⟩
  have hT4 := Below.step hT3 hb4
  have g4 := (g3.below hb4).more hb4.size
  clear g3 r3 hb4 hT3
  go_wp2
  go_loopw [9] (fun i wr => ∃ k : Nat, k ≤ m2 ∧ i = .int .i64 k ∧ Below w4.heap.size w4 wr) (fun i _ => m2 - (intOf i).toNat)
  case atStart => exact ⟨0, Nat.zero_le _, rfl, Below.refl _ _⟩
  case round =>
    obtain ⟨k, hk, rfl, hb⟩ := hrel
    by_cases hlt : k < m2
    · obtain ⟨b, off, rfl, hbB, hc⟩ := g4.at_ hlt
      obtain ⟨Ai, ci, q1, q2⟩ := hc k hlt
      have hkI : (k : Int) < (m2 : Int) := by omega
      obtain ⟨hg0, hg100, hnear⟩ := HNEAR.out k hlt
      obtain ⟨bi, oi, rfl, hbi, hci⟩ := q2.mem hg0
      have hbd := fun j hj => HBD.out k j hlt hj
      obtain ⟨g, hg⟩ : ∃ g, gG G k = g := ⟨_, rfl⟩
      have HG := Lib.hid hg
      rw [hg] at q1 hg0 hg100 hnear hci hbd
      obtain ⟨gl, hgle⟩ : ∃ gl, g.length = gl := ⟨_, rfl⟩
      have HGL := Lib.hid hgle
      rw [hgle] at q1 hg0 hg100 hnear hci hbd
      have HN := Lib.hid hnear
      have HCI := Lib.hid hci
      have HBDg := Lib.hid hbd
      have HC := Lib.hid hc
      clear hnear hci hbd hg hgle q2 hc
      obtain ⟨wo, rfl⟩ : ∃ wo : World, wo = wr := ⟨_, rfl⟩
      go_wp2
      go_loopw [10] (fun i wr => ∃ j : Nat, 1 ≤ j ∧ j ≤ gl ∧ i = .int .i64 j ∧ Below w4.heap.size w4 wr) (fun i _ => gl - (intOf i).toNat)
      case atStart => exact ⟨1, by omega, by omega, rfl, hb⟩
      case round =>
        obtain ⟨j, hj1, hj2, rfl, hb2⟩ := hrel
        have p1 := (bcell hb2 _ _ hbB).trans q1
        by_cases hjl : j < gl
        · have c1 := (bcell hb2 _ _ hbi).trans (HCI.out j hjl)
          have c2 := (bcell hb2 _ _ hbi).trans (HCI.out (j - 1) (by omega))
          have r1 := HBDg.out j hjl
          have r2 := HBDg.out (j - 1) (by omega)
          have hn := HN.out j (by omega) hjl
          have hjI : (j : Int) < (gl : Int) := by omega
          have v1 : IntKind.i64.wrap ((j : Int) - 1) = (j : Int) - 1 := IntWalk.i64_in _ (by omega)
          have v2 : ((j : Int) - 1).toNat = j - 1 := by omega
          have v3 : (0 : Int) ≤ (j : Int) - 1 := by omega
          have v3' : (1 : Int) ≤ (j : Int) := by omega
          have v4 : (j : Int) - 1 < (gl : Int) := by omega
          have v5 : IntKind.i64.wrap (gI g j - gI g (j - 1)) = gI g j - gI g (j - 1) := IntWalk.i64_in _ (by omega)
          have v6 : decide (wd < gI g j - gI g (j - 1)) = false := by simp; omega
          have v7 : ¬ (wd < gI g j - gI g (j - 1)) := by omega
          go_wp2
          go_quiet (fail)
          clear v1 v2 v3 v3' v4 v5 v6 hn
          go_wp2
          go_roundw
          case rel => exact ⟨j + 1, by omega, by omega, by go_num, below_drewN hb2 _⟩
          case measure => simp [intOf]; omega
        · clear hb
          by_cases hk0 : k = 0
          · have g0 : decide ((0 : Int) < (k : Int)) = false := by simp; omega
            have g0n : decide (0 < k) = false := by simp; omega
            clear hk0
            go_wp2
            go_quiet (fail)
            clear g0 g0n
            go_wp2
            go_roundw
            case rel => exact ⟨k + 1, by omega, by go_num, below_drewN hb2 _⟩
            case measure => simp [intOf]; omega
          · have g0 : decide ((0 : Int) < (k : Int)) = true := by simp; omega
            have g0n : decide (0 < k) = true := by simp; omega
            obtain ⟨Aj, cj, s1, s2⟩ := HC.out (k - 1) (by omega)
            obtain ⟨hf0, hf100, _⟩ := HNEAR.out (k - 1) (by omega)
            obtain ⟨bj, oj, rfl, hbj, hcj⟩ := s2.mem hf0
            have hfar := HFAR.out k (by omega) hlt
            rw [HG.out] at hfar
            have hbd2 := HBD.out (k - 1) ((gG G (k - 1)).length - 1) (by omega) (by omega)
            have t2 := (bcell hb2 _ _ hbj).trans (hcj ((gG G (k - 1)).length - 1) (by omega))
            have t1 := (bcell hb2 _ _ hbB).trans s1
            obtain ⟨f, hf⟩ : ∃ f, gG G (k - 1) = f := ⟨_, rfl⟩
            rw [hf] at t1 t2 hf0 hf100 hfar hbd2
            obtain ⟨fl, hfl⟩ : ∃ fl, f.length = fl := ⟨_, rfl⟩
            rw [hfl] at t1 t2 hf0 hf100 hfar hbd2
            have c0 := (bcell hb2 _ _ hbi).trans (HCI.out 0 (by omega))
            rw [Nat.add_zero] at c0
            have r0 := HBDg.out 0 (by omega)
            have v1 : IntKind.i64.wrap ((k : Int) - 1) = (k : Int) - 1 := IntWalk.i64_in _ (by omega)
            have v2 : ((k : Int) - 1).toNat = k - 1 := by omega
            have v3 : (0 : Int) ≤ (k : Int) - 1 := by omega
            have v3' : (1 : Int) ≤ (k : Int) := by omega
            have v4 : (k : Int) - 1 < (m2 : Int) := by omega
            have x1 : IntKind.i64.wrap ((fl : Int) - 1) = (fl : Int) - 1 := IntWalk.i64_in _ (by omega)
            have x2 : ((fl : Int) - 1).toNat = fl - 1 := by omega
            have x3 : (0 : Int) ≤ (fl : Int) - 1 := by omega
            have x3' : (1 : Int) ≤ (fl : Int) := by omega
            have x4 : (fl : Int) - 1 < (fl : Int) := by omega
            have x5 : (0 : Int) < (gl : Int) := by omega
            have x5' : 0 < gl := by omega
            have v5 : IntKind.i64.wrap (gI g 0 - gI f (fl - 1)) = gI g 0 - gI f (fl - 1) := IntWalk.i64_in _ (by omega)
            have v6 : decide (gI g 0 - gI f (fl - 1) ≤ wd) = false := by simp; omega
            clear hcj s1 s2 hf hfl hk0 hfar
            go_wp2
            go_quiet (fail)
            clear v1 v2 v3 v3' v4 v5 v6 x1 x2 x3 x3' x4 x5 x5' g0 g0n t1 t2 c0
            go_wp2
            go_roundw
            case rel => exact ⟨k + 1, by omega, by go_num, below_drewN hb2 _⟩
            case measure => simp [intOf]; omega
    · go_wp2
      go_ret
      exact ⟨rfl, hT4.trans (hb.mono hT4.size)⟩
end Go.Proofs.Ytpfbjpognmjmmaa
