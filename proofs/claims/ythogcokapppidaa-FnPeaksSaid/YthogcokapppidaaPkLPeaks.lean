/- The walk of the law FnPeaks. -/
import Derived.Test.YthogcokapppidaaPkHelp
namespace Go.Proofs.Ythogcokapppidaa
open Go.RowKit Pk

set_option maxRecDepth 100000 in
set_option maxHeartbeats 4000000 in
theorem fnPeaks_walk (A : Option Addr) (n c : Nat) (bs : List Int) (w : World) (h : BSl w w.heap.size A n c bs) :
    Calls Try.prog 9 #[.slice A n c] w fun e w' => e = .returned (.bool true) ∧ Below w.heap.size w w' := by
  by_cases hbig : 1048576 < n
  · go_enter Try.func9, Try.ntmps9
    go_wp2
    go_ret
    exact ⟨rfl, Below.refl _ _⟩
  have hn : n ≤ 16777216 := by omega
  go_enter Try.func9, Try.ntmps9
  go_wp2_with fail
  refine (DrawPeaksOf_any _ _ _ _ _ h hn).mono ?_
  rintro e w1 ⟨C, m, cc, zs, least, rfl, hD, hl, hb1⟩
  have hm := hD.few
  have i1 := ISl.of_own hD.own hD.inI
  have HZ := Lib.hid i1.len
  have hs1 := hb1.size
  obtain ⟨ps, hps⟩ : ∃ ps, peaksOf zs least = ps := ⟨_, rfl⟩
  have hpl : ps.length ≤ 200 := by rw [← hps]; exact peaksOf_len
  have hpi : Hid (∀ z ∈ ps, InI z) := by
    show ∀ z ∈ ps, InI z
    rw [← hps]; exact peaksOf_in
  have HP := Lib.hid hps
  clear hps
  go_wp2_with fail
  refine (iPeaksOf_of _ _ _ _ _ _ ps HP.out i1 (by omega)).mono ?_
  rintro e w2 ⟨P, pc, rfl, o2, hb2⟩
  have hs2 := hb2.size
  have hT2 := Below.step hb1 hb2
  have i2 := (i1.below hb2).more hs2
  go_wp2_with fail
  refine (sPeaksOf_of _ _ _ _ _ _ ps HP.out i2 (by omega)).mono ?_
  rintro e w3 ⟨Q, qc, rfl, o3, hb3⟩
  have hs3 := hb3.size
  have hT3 := Below.step hT2 hb3
  have i3 := (i2.below hb3).more hs3
  have p3 := own_below o2 hb3
  go_wp2_with fail
  refine (sameInts_same _ _ _ _ _ _ _ _ (ISl.of_own p3 hpi.out) (ISl.of_own o3 hpi.out) (by omega)).mono ?_
  rintro e w4 ⟨rfl, hb4⟩
  have hs4 := hb4.size
  have hT4 := Below.step hT3 hb4
  have i4 := (i3.below hb4).more hs4
  have p4 := own_below p3 hb4
  have q4 := own_below o3 hb4
  clear i2 i3 p3
  by_cases hz : ps.length = 0
  · have hz' : ((ps.length : Int) == 0) = true := by simpa using hz
    have HZ0 := Lib.hid hz
    clear hz
    go_wp2_with fail
    refine (sameInts_same _ _ _ _ _ _ _ _ (ISl.of_own p4 hpi.out) (ISl.of_own q4 hpi.out) (by omega)).mono ?_
    rintro e w5 ⟨rfl, hb5⟩
    go_wp2
    go_ret
    exact ⟨rfl, Below.step hT4 hb5⟩
  have hz' : ((ps.length : Int) == 0) = false := by simpa using hz
  have hz0 : 0 < ps.length := by omega
  obtain ⟨hok, hpk1, hpk2⟩ := peaks_parts HP.out hz0
  have HK1 := Lib.hid hpk1
  have HK2 := Lib.hid hpk2
  clear hz hpk1 hpk2
  have hm0 : 0 < m := by
    rcases Nat.eq_zero_or_pos m with h0 | h0
    · have := HK1.out; rw [HZ.out, h0] at this; have e := pks_len zs least 0; omega
    · exact h0
  have hql : ps.length ≤ m := by have := HK1.out; rw [HZ.out] at this; have e := pks_len zs least m; omega
  obtain ⟨b, off, rfl, hbB, hkz, hc⟩ := i4.at_ hm0
  obtain ⟨b', off', hPe, hbB', _, hc'⟩ := (ISl.of_own p4 hpi.out).at_ hz0
  subst hPe
  have HC := Lib.hid hc
  have HC' := Lib.hid hc'
  clear hc hc' hkz
  go_wp2_with fail
  go_loopw [7] (fun x wr => ∃ i : Nat, i ≤ ps.length ∧ x = .int .i64 i ∧ Below w4.heap.size w4 wr) (fun x _ => ps.length - (intOf x).toNat)
  case atStart => exact ⟨0, Nat.zero_le _, rfl, Below.refl _ _⟩
  case round =>
    obtain ⟨i, hi, rfl, hb⟩ := hrel
    by_cases hlt : i < ps.length
    · have hltI : (i : Int) < (ps.length : Int) := by omega
      have hpn := peak_nth (cs := zs) (l := least) (i := i) (by rw [← HK1.out]; exact hlt)
      obtain ⟨k, hke⟩ : ∃ k, nth (pks zs least zs.length) i = k := ⟨_, rfl⟩
      rw [hke, HZ.out] at hpn
      obtain ⟨hkm, hpeak⟩ := hpn
      have hx : gI ps i = (k : Int) := by rw [HK2.out, asInts_at, hke]
      have hp1 := (bcell hb _ _ hbB').trans (HC'.out i hlt)
      rw [hx] at hp1
      have h1 := (bcell hb _ _ hbB).trans (HC.out k hkm)
      have hkmI : (k : Int) < (m : Int) := by omega
      have HU := Lib.hid hpeak.up
      have HDN : Hid (k + 1 < m → gI zs (k + 1) ≤ gI zs k) := fun h => falls_next hpeak.down (by rw [HZ.out]; exact h)
      have t1 : decide (gI zs k < least) = false := by have := hpeak.high; simp; omega
      have HST : Hid (0 < i → ∃ k', gI ps (i - 1) = ((k' : Nat) : Int) ∧ k' + 1 < k) := by
        intro hi0
        have := peak_step (cs := zs) (l := least) (i := i - 1) (by rw [← HK1.out]; omega)
        rw [show i - 1 + 1 = i by omega, hke] at this
        exact ⟨_, by rw [HK2.out, asInts_at], this⟩
      clear hx hke hpeak
      by_cases hk0 : 0 < k
      · by_cases hn1 : k + 1 < m
        · by_cases hi0 : 0 < i
          · have a1 : (0 : Int) < (k : Int) := by omega
            have h2 := (bcell hb _ _ hbB).trans (HC.out (k - 1) (by omega))
            have v1 : IntKind.i64.wrap ((k : Int) - 1) = (k : Int) - 1 := IntWalk.i64_in _ (by omega)
            have v2 : ((k : Int) - 1).toNat = k - 1 := by omega
            have v3 : (0 : Int) ≤ (k : Int) - 1 := by omega
            have v4 : (k : Int) - 1 < (m : Int) := by omega
            have t2 : decide (gI zs k ≤ gI zs (k - 1)) = false := by have := HU.out; simp; omega
            have h3 := (bcell hb _ _ hbB).trans (HC.out (k + 1) (by omega))
            have v5 : IntKind.i64.wrap ((k : Int) + 1) = (k : Int) + 1 := IntWalk.i64_in _ (by omega)
            have v6 : ((k : Int) + 1).toNat = k + 1 := by omega
            have v7 : (0 : Int) ≤ (k : Int) + 1 := by omega
            have a2 : (k : Int) + 1 < (m : Int) := by omega
            have t3 : decide (gI zs k < gI zs (k + 1)) = false := by have := HDN.out hn1; simp; omega
            have a3 : (0 : Int) < (i : Int) := by omega
            obtain ⟨k', hk', hkk⟩ := HST.out hi0
            have h4 := (bcell hb _ _ hbB').trans (HC'.out (i - 1) (by omega))
            rw [hk'] at h4
            have v8 : IntKind.i64.wrap ((i : Int) - 1) = (i : Int) - 1 := IntWalk.i64_in _ (by omega)
            have v9 : ((i : Int) - 1).toNat = i - 1 := by omega
            have v10 : (0 : Int) ≤ (i : Int) - 1 := by omega
            have v11 : (i : Int) - 1 < (ps.length : Int) := by omega
            have v12 : IntKind.i64.wrap ((k' : Int) + 1) = (k' : Int) + 1 := IntWalk.i64_in _ (by omega)
            have t4 : decide ((k : Int) ≤ (k' : Int) + 1) = false := by simp; omega
            clear hk'
            go_wp2
            go_quiet (fail)
            clear v5 v1 v2 v6 v8 v9 v12
            go_wp2
            go_roundw
            case rel => exact ⟨i + 1, by omega, by go_num, below_drewN hb _⟩
            case measure => simp [intOf]; omega
          · have a1 : (0 : Int) < (k : Int) := by omega
            have h2 := (bcell hb _ _ hbB).trans (HC.out (k - 1) (by omega))
            have v1 : IntKind.i64.wrap ((k : Int) - 1) = (k : Int) - 1 := IntWalk.i64_in _ (by omega)
            have v2 : ((k : Int) - 1).toNat = k - 1 := by omega
            have v3 : (0 : Int) ≤ (k : Int) - 1 := by omega
            have v4 : (k : Int) - 1 < (m : Int) := by omega
            have t2 : decide (gI zs k ≤ gI zs (k - 1)) = false := by have := HU.out; simp; omega
            have h3 := (bcell hb _ _ hbB).trans (HC.out (k + 1) (by omega))
            have v5 : IntKind.i64.wrap ((k : Int) + 1) = (k : Int) + 1 := IntWalk.i64_in _ (by omega)
            have v6 : ((k : Int) + 1).toNat = k + 1 := by omega
            have v7 : (0 : Int) ≤ (k : Int) + 1 := by omega
            have a2 : (k : Int) + 1 < (m : Int) := by omega
            have t3 : decide (gI zs k < gI zs (k + 1)) = false := by have := HDN.out hn1; simp; omega
            have a3 : decide ((0 : Int) < (i : Int)) = false := by simp; omega
            go_wp2
            go_quiet (fail)
            clear v5 v1 v2 v6
            go_wp2
            go_roundw
            case rel => exact ⟨i + 1, by omega, by go_num, below_drewN hb _⟩
            case measure => simp [intOf]; omega
        · by_cases hi0 : 0 < i
          · have a1 : (0 : Int) < (k : Int) := by omega
            have h2 := (bcell hb _ _ hbB).trans (HC.out (k - 1) (by omega))
            have v1 : IntKind.i64.wrap ((k : Int) - 1) = (k : Int) - 1 := IntWalk.i64_in _ (by omega)
            have v2 : ((k : Int) - 1).toNat = k - 1 := by omega
            have v3 : (0 : Int) ≤ (k : Int) - 1 := by omega
            have v4 : (k : Int) - 1 < (m : Int) := by omega
            have t2 : decide (gI zs k ≤ gI zs (k - 1)) = false := by have := HU.out; simp; omega
            have v5 : IntKind.i64.wrap ((k : Int) + 1) = (k : Int) + 1 := IntWalk.i64_in _ (by omega)
            have a2 : decide ((k : Int) + 1 < (m : Int)) = false := by simp; omega
            have a3 : (0 : Int) < (i : Int) := by omega
            obtain ⟨k', hk', hkk⟩ := HST.out hi0
            have h4 := (bcell hb _ _ hbB').trans (HC'.out (i - 1) (by omega))
            rw [hk'] at h4
            have v8 : IntKind.i64.wrap ((i : Int) - 1) = (i : Int) - 1 := IntWalk.i64_in _ (by omega)
            have v9 : ((i : Int) - 1).toNat = i - 1 := by omega
            have v10 : (0 : Int) ≤ (i : Int) - 1 := by omega
            have v11 : (i : Int) - 1 < (ps.length : Int) := by omega
            have v12 : IntKind.i64.wrap ((k' : Int) + 1) = (k' : Int) + 1 := IntWalk.i64_in _ (by omega)
            have t4 : decide ((k : Int) ≤ (k' : Int) + 1) = false := by simp; omega
            clear hk'
            go_wp2
            go_quiet (fail)
            clear v5 v1 v2 v8 v9 v12
            go_wp2
            go_roundw
            case rel => exact ⟨i + 1, by omega, by go_num, below_drewN hb _⟩
            case measure => simp [intOf]; omega
          · have a1 : (0 : Int) < (k : Int) := by omega
            have h2 := (bcell hb _ _ hbB).trans (HC.out (k - 1) (by omega))
            have v1 : IntKind.i64.wrap ((k : Int) - 1) = (k : Int) - 1 := IntWalk.i64_in _ (by omega)
            have v2 : ((k : Int) - 1).toNat = k - 1 := by omega
            have v3 : (0 : Int) ≤ (k : Int) - 1 := by omega
            have v4 : (k : Int) - 1 < (m : Int) := by omega
            have t2 : decide (gI zs k ≤ gI zs (k - 1)) = false := by have := HU.out; simp; omega
            have v5 : IntKind.i64.wrap ((k : Int) + 1) = (k : Int) + 1 := IntWalk.i64_in _ (by omega)
            have a2 : decide ((k : Int) + 1 < (m : Int)) = false := by simp; omega
            have a3 : decide ((0 : Int) < (i : Int)) = false := by simp; omega
            go_wp2
            go_quiet (fail)
            clear v5 v1 v2
            go_wp2
            go_roundw
            case rel => exact ⟨i + 1, by omega, by go_num, below_drewN hb _⟩
            case measure => simp [intOf]; omega
      · by_cases hn1 : k + 1 < m
        · by_cases hi0 : 0 < i
          · have a1 : decide ((0 : Int) < (k : Int)) = false := by simp; omega
            have h3 := (bcell hb _ _ hbB).trans (HC.out (k + 1) (by omega))
            have v5 : IntKind.i64.wrap ((k : Int) + 1) = (k : Int) + 1 := IntWalk.i64_in _ (by omega)
            have v6 : ((k : Int) + 1).toNat = k + 1 := by omega
            have v7 : (0 : Int) ≤ (k : Int) + 1 := by omega
            have a2 : (k : Int) + 1 < (m : Int) := by omega
            have t3 : decide (gI zs k < gI zs (k + 1)) = false := by have := HDN.out hn1; simp; omega
            have a3 : (0 : Int) < (i : Int) := by omega
            obtain ⟨k', hk', hkk⟩ := HST.out hi0
            have h4 := (bcell hb _ _ hbB').trans (HC'.out (i - 1) (by omega))
            rw [hk'] at h4
            have v8 : IntKind.i64.wrap ((i : Int) - 1) = (i : Int) - 1 := IntWalk.i64_in _ (by omega)
            have v9 : ((i : Int) - 1).toNat = i - 1 := by omega
            have v10 : (0 : Int) ≤ (i : Int) - 1 := by omega
            have v11 : (i : Int) - 1 < (ps.length : Int) := by omega
            have v12 : IntKind.i64.wrap ((k' : Int) + 1) = (k' : Int) + 1 := IntWalk.i64_in _ (by omega)
            have t4 : decide ((k : Int) ≤ (k' : Int) + 1) = false := by simp; omega
            clear hk'
            go_wp2
            go_quiet (fail)
            clear v5 v6 v8 v9 v12
            go_wp2
            go_roundw
            case rel => exact ⟨i + 1, by omega, by go_num, below_drewN hb _⟩
            case measure => simp [intOf]; omega
          · have a1 : decide ((0 : Int) < (k : Int)) = false := by simp; omega
            have h3 := (bcell hb _ _ hbB).trans (HC.out (k + 1) (by omega))
            have v5 : IntKind.i64.wrap ((k : Int) + 1) = (k : Int) + 1 := IntWalk.i64_in _ (by omega)
            have v6 : ((k : Int) + 1).toNat = k + 1 := by omega
            have v7 : (0 : Int) ≤ (k : Int) + 1 := by omega
            have a2 : (k : Int) + 1 < (m : Int) := by omega
            have t3 : decide (gI zs k < gI zs (k + 1)) = false := by have := HDN.out hn1; simp; omega
            have a3 : decide ((0 : Int) < (i : Int)) = false := by simp; omega
            go_wp2
            go_quiet (fail)
            clear v5 v6
            go_wp2
            go_roundw
            case rel => exact ⟨i + 1, by omega, by go_num, below_drewN hb _⟩
            case measure => simp [intOf]; omega
        · by_cases hi0 : 0 < i
          · have a1 : decide ((0 : Int) < (k : Int)) = false := by simp; omega
            have v5 : IntKind.i64.wrap ((k : Int) + 1) = (k : Int) + 1 := IntWalk.i64_in _ (by omega)
            have a2 : decide ((k : Int) + 1 < (m : Int)) = false := by simp; omega
            have a3 : (0 : Int) < (i : Int) := by omega
            obtain ⟨k', hk', hkk⟩ := HST.out hi0
            have h4 := (bcell hb _ _ hbB').trans (HC'.out (i - 1) (by omega))
            rw [hk'] at h4
            have v8 : IntKind.i64.wrap ((i : Int) - 1) = (i : Int) - 1 := IntWalk.i64_in _ (by omega)
            have v9 : ((i : Int) - 1).toNat = i - 1 := by omega
            have v10 : (0 : Int) ≤ (i : Int) - 1 := by omega
            have v11 : (i : Int) - 1 < (ps.length : Int) := by omega
            have v12 : IntKind.i64.wrap ((k' : Int) + 1) = (k' : Int) + 1 := IntWalk.i64_in _ (by omega)
            have t4 : decide ((k : Int) ≤ (k' : Int) + 1) = false := by simp; omega
            clear hk'
            go_wp2
            go_quiet (fail)
            clear v5 v8 v9 v12
            go_wp2
            go_roundw
            case rel => exact ⟨i + 1, by omega, by go_num, below_drewN hb _⟩
            case measure => simp [intOf]; omega
          · have a1 : decide ((0 : Int) < (k : Int)) = false := by simp; omega
            have v5 : IntKind.i64.wrap ((k : Int) + 1) = (k : Int) + 1 := IntWalk.i64_in _ (by omega)
            have a2 : decide ((k : Int) + 1 < (m : Int)) = false := by simp; omega
            have a3 : decide ((0 : Int) < (i : Int)) = false := by simp; omega
            go_wp2
            go_quiet (fail)
            clear v5
            go_wp2
            go_roundw
            case rel => exact ⟨i + 1, by omega, by go_num, below_drewN hb _⟩
            case measure => simp [intOf]; omega
    · go_wp2
      go_ret
      exact ⟨rfl, Below.step hT4 hb⟩
end Go.Proofs.Ythogcokapppidaa
