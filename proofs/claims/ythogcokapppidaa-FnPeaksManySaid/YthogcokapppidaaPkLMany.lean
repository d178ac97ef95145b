/- The walk of the law FnPeaksMany. -/
import Derived.Test.YthogcokapppidaaPkHelp
namespace Go.Proofs.Ythogcokapppidaa
open Go.RowKit Pk

set_option maxRecDepth 100000 in
set_option maxHeartbeats 4000000 in
theorem fnPeaksMany_walk (A : Option Addr) (n c : Nat) (bs : List Int) (w : World) (h : BSl w w.heap.size A n c bs) :
    Calls Try.prog 11 #[.slice A n c] w fun e w' => e = .returned (.bool true) ∧ Below w.heap.size w w' := by
  by_cases hbig : 1048576 < n
  · go_enter Try.func11, Try.ntmps11
    go_wp2
    go_ret
    exact ⟨rfl, Below.refl _ _⟩
  have hn : n ≤ 16777216 := by omega
  go_enter Try.func11, Try.ntmps11
  go_wp2_with fail
  refine (DrawPeaksOf_any _ _ _ _ _ h hn).mono ?_
  rintro e w1 ⟨C, m, cc, zs, least, rfl, hD, hl, hb1⟩
  have hm := hD.few
  have i1 := ISl.of_own hD.own hD.inI
  have HZ := Lib.hid i1.len
  have hs1 := hb1.size
  obtain ⟨ps, hps⟩ : ∃ ps, peaksOf zs least = ps := ⟨_, rfl⟩
  have hpl : ps.length ≤ 200 := by rw [← hps]; exact peaksOf_len
  have hpi : Hid (∀ z ∈ ps, InI z) := by
    show ∀ z ∈ ps, InI z
    rw [← hps]; exact peaksOf_in
  have HP := Lib.hid hps
  clear hps
  go_wp2_with fail
  refine (iPeaksOf_of _ _ _ _ _ _ ps HP.out i1 (by omega)).mono ?_
  rintro e w2 ⟨P, pc, rfl, o2, hb2⟩
  have hs2 := hb2.size
  have hT2 := Below.step hb1 hb2
  have i2 := (i1.below hb2).more hs2
  go_wp2_with fail
  refine (sPeaksOf_of _ _ _ _ _ _ ps HP.out i2 (by omega)).mono ?_
  rintro e w3 ⟨Q, qc, rfl, o3, hb3⟩
  have hs3 := hb3.size
  have hT3 := Below.step hT2 hb3
  have i3 := (i2.below hb3).more hs3
  have p3 := own_below o2 hb3
  go_wp2_with fail
  refine (sameInts_same _ _ _ _ _ _ _ _ (ISl.of_own p3 hpi.out) (ISl.of_own o3 hpi.out) (by omega)).mono ?_
  rintro e w4 ⟨rfl, hb4⟩
  have hs4 := hb4.size
  have hT4 := Below.step hT3 hb4
  have i4 := (i3.below hb4).more hs4
  have p4 := own_below p3 hb4
  have q4 := own_below o3 hb4
  clear i2 i3 p3
  by_cases hz : ps.length = 0
  · have hz' : ((ps.length : Int) == 0) = true := by simpa using hz
    have HZ0 := Lib.hid hz
    clear hz
    go_wp2_with fail
    refine (sameInts_same _ _ _ _ _ _ _ _ (ISl.of_own p4 hpi.out) (ISl.of_own q4 hpi.out) (by omega)).mono ?_
    rintro e w5 ⟨rfl, hb5⟩
    go_wp2
    go_ret
    exact ⟨rfl, Below.step hT4 hb5⟩
  have hz' : ((ps.length : Int) == 0) = false := by simpa using hz
  have hz0 : 0 < ps.length := by omega
  obtain ⟨hok, hpk1, hpk2⟩ := peaks_parts HP.out hz0
  have HK1 := Lib.hid hpk1
  have HK2 := Lib.hid hpk2
  clear hz hpk1 hpk2
  have hm0 : 0 < m := by
    rcases Nat.eq_zero_or_pos m with h0 | h0
    · have := HK1.out; rw [HZ.out, h0] at this; have e := pks_len zs least 0; omega
    · exact h0
  have hmany : 2 * ps.length ≤ m + 1 := by have := peaks_many zs least; rw [← HK1.out, HZ.out] at this; exact this
  obtain ⟨b, off, rfl, hbB, hkz, hc⟩ := i4.at_ hm0
  obtain ⟨b', off', hPe, hbB', _, hc'⟩ := (ISl.of_own p4 hpi.out).at_ hz0
  subst hPe
  have HC := Lib.hid hc
  have HC' := Lib.hid hc'
  clear hc hc' hkz
  go_wp2_with fail
  go_loop [7] (fun x => ∃ i : Nat, 1 ≤ i ∧ i ≤ ps.length ∧ x = .int .i64 i) (fun x => ps.length - (intOf x).toNat)
  case atStart => exact ⟨1, Nat.le_refl _, by omega, rfl⟩
  case round =>
    obtain ⟨i, hi1, hi, rfl⟩ := hrel
    by_cases hlt : i < ps.length
    · have hpn := peak_nth (cs := zs) (l := least) (i := i) (by rw [← HK1.out]; exact hlt)
      have hpp := peak_nth (cs := zs) (l := least) (i := i - 1) (by rw [← HK1.out]; omega)
      have hord := nth_lt (pks_sorted zs least zs.length) (i := i - 1) (j := i) (by omega) (by rw [← HK1.out]; exact hlt)
      obtain ⟨q, hqe⟩ : ∃ k, nth (pks zs least zs.length) i = k := ⟨_, rfl⟩
      obtain ⟨p, hpe⟩ : ∃ k, nth (pks zs least zs.length) (i - 1) = k := ⟨_, rfl⟩
      rw [hqe, hpe] at hord
      rw [hqe] at hpn
      rw [hpe] at hpp
      have hbt := between hpp.2 hpn.2 hord hpn.1
      have hxq : gI ps i = (q : Int) := by rw [HK2.out, asInts_at, hqe]
      have hxp : gI ps (i - 1) = (p : Int) := by rw [HK2.out, asInts_at, hpe]
      have h1 := HC'.out i hlt
      rw [hxq] at h1
      have h2 := HC'.out (i - 1) (by omega)
      rw [hxp] at h2
      have hqm : q < m := by have := hpn.1; rw [HZ.out] at this; exact this
      have h3 := HC.out q hqm
      have h4 := HC.out p (by omega)
      have HBT := Lib.hid hbt
      clear hxq hxp hqe hpe hpn hpp hbt
      go_wp2
      go_loop [8, 9] (fun x y => ∃ (j : Nat) (lw : Int), p ≤ j ∧ j ≤ q ∧ y = .int .i64 j ∧ x = .int .i64 lw ∧ Hid (∀ t, p ≤ t → t < j → lw ≤ gI zs t)) (fun _ y => q - (intOf y).toNat)
      case atStart => exact ⟨p, gI zs p, Nat.le_refl _, by omega, rfl, rfl, fun t a b => by omega⟩
      case round =>
        obtain ⟨j, lw, hpj, hjq, rfl, rfl, hmin⟩ := hrel
        by_cases hjlt : j < q
        · have h5 := HC.out j (by omega)
          by_cases hmn : lw ≤ gI zs j
          · have hminv : min lw (gI zs j) = lw := by omega
            go_wp2
            go_round
            case rel =>
              refine ⟨j + 1, lw, by omega, by omega, by go_num, by first | rfl | (congr 1; split <;> omega), fun t a b => ?_⟩
              by_cases e : t = j
              · subst e; omega
              · exact hmin.out t a (by omega)
            case measure => simp [intOf]; omega
          · have hminv : min lw (gI zs j) = gI zs j := by omega
            go_wp2
            go_round
            case rel =>
              refine ⟨j + 1, gI zs j, by omega, by omega, by go_num, by first | rfl | (congr 1; split <;> omega), fun t a b => ?_⟩
              by_cases e : t = j
              · subst e; omega
              · have := hmin.out t a (by omega); omega
            case measure => simp [intOf]; omega
        · have hl1 : lw < gI zs p := by
            obtain ⟨_, _, t, a, b', c⟩ := HBT.out
            have := hmin.out t (by omega) (by omega); omega
          have hl2 : lw < gI zs q := by
            obtain ⟨a, b', _⟩ := HBT.out
            have := hmin.out (q - 1) (by omega) (by omega); omega
          go_wp2
          go_round
          case rel => exact ⟨i + 1, by omega, by omega, by go_num⟩
          case measure => simp [intOf]; omega
    · go_wp2
      go_ret
      exact ⟨ret_bool (by simp; omega), hT4⟩
end Go.Proofs.Ythogcokapppidaa
