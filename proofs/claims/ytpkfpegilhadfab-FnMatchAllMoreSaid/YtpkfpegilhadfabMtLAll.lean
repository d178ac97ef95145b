/- The walk of the law FnMatchAll: all are matched one by one. -/
import Derived.Test.YtpkfpegilhadfabMtDraw2
import Derived.Test.YtpkfpegilhadfabMtIn
import Derived.Test.YtpkfpegilhadfabMtLawP
set_option linter.unusedVariables false
namespace Go.Proofs.Ytpkfpegilhadfab
open Go.RowKit Lk Mt

set_option maxRecDepth 100000 in
set_option maxHeartbeats 4000000 in
theorem fnMatchAll_walk (A : Option Addr) (n c : Nat) (bs : List Int) (w : World) (h : BSl w w.heap.size A n c bs) :
    Calls Try.prog 7 #[.slice A n c] w fun e w' => e = .returned (.bool true) ∧ Below w.heap.size w w' := by
  by_cases hbig : 1048576 < n
  · go_enter Try.func7, Try.ntmps7
    go_wp2
    go_ret
    exact ⟨rfl, Below.refl _ _⟩
  go_enter Try.func7, Try.ntmps7
  go_wp2_with fail
  refine (DrawMatchAll_any _ _ _ _ _ h (by omega)).mono ?_
  rintro e w1 ⟨A1, m, c1, s, A2, n2, c2, zs, tol, rfl, hm, hn2, hO1, hin, hZ1, hzin, htb, hb1⟩
  have i1 := NSl.of_own hO1 hin
  have j1 := ISl.of_own hZ1 hzin
  clear hin hzin htb hO1 hZ1
  go_wp2_with fail
  refine (iMatchAll_any _ _ _ s _ _ _ zs tol _ i1 j1 (by omega)).mono ?_
  rintro e w2 ⟨A3, m3, c3, rfl, hr2, hb2⟩
  have i2 := (i1.below hb2).more hb2.size
  have j2 := (j1.below hb2).more hb2.size
  have r2 := ISl.of_own hr2 (matchAll_in s zs tol)
  have hT2 := Below.step hb1 hb2
  have hm3 : m3 ≤ 40 := by have := r2.len; have := matchAll_len s zs tol; omega
  clear hr2 hb1 hb2 i1 j1
  go_wp2_with fail
  refine (sMatchAll_any _ _ _ s _ _ _ zs tol _ i2 j2 (by omega)).mono ?_
  rintro e w3 ⟨A4, m4, c4, rfl, hq3, hb3⟩
  have i3 := (i2.below hb3).more hb3.size
  have j3 := (j2.below hb3).more hb3.size
  have r3 := (r2.below hb3).more hb3.size
  have q3 := ISl.of_own hq3 (matchAll_in s zs tol)
  have hT3 := Below.step hT2 hb3
  clear hq3 hT2 hb3 i2 j2 r2
  have hs : ∀ W, Below w3.heap.size w3 W → Calls Try.prog 31 #[.slice A3 m3 c3, .slice A4 m4 c4] W fun e w' => e = .returned (.bool true) ∧ Below W.heap.size W w' := fun W hW =>
    sameInts_same _ _ _ _ _ _ (matchAll s zs tol) W ((r3.below hW).more hW.size) ((q3.below hW).more hW.size) (by omega)
  obtain ⟨K, hK⟩ : ∃ K, allOk s zs tol = K := ⟨_, rfl⟩
  rw [hK]
  cases K
  · have HO := Lib.hid hT3
    clear i3 j3 r3 q3 hT3 hK
    go_wp2_with (go_at_call 31; first | (refine (hs _ (Below.refl _ _)).mono ?_; rintro e w4 ⟨rfl, hb4⟩) | (refine (hs _ hb4).mono ?_; rintro e w5 ⟨rfl, hb5⟩))
    go_ret
    exact ⟨rfl, HO.out.trans ((hb4.trans (hb5.mono hb4.size)).mono HO.out.size)⟩
  obtain ⟨a1, a2, a3, a4, a5⟩ := allOk_parts hK
  have HB := Lib.hid (And.intro a1 a5)
  have hZL := j3.len
  have hRL := r3.len
  rw [matchAll_yes hK] at r3 hRL
  rw [allL_len] at hRL
  have hmm : m3 = n2 := by omega
  subst hmm
  have HZL := Lib.hid hZL
  clear q3 hRL hZL a1 a2 a5 hK
  go_wp2_with (go_at_call 31; (refine (hs _ (Below.refl _ _)).mono ?_; rintro e w4 ⟨rfl, hb4⟩))
  have i4 := (i3.below hb4).more hb4.size
  have j4 := (j3.below hb4).more hb4.size
  have r4 := (r3.below hb4).more hb4.size
  have hT4 := Below.step hT3 hb4
  clear hs i3 j3 r3 hT3 hb4
  go_loopw [10] (fun i wr => ∃ k : Nat, k ≤ m3 ∧ i = .int .i64 k ∧ Below w4.heap.size w4 wr) (fun i _ => m3 - (intOf i).toNat)
  case atStart => exact ⟨0, Nat.zero_le _, rfl, Below.refl _ _⟩
  case round =>
    obtain ⟨k, hk, rfl, hb⟩ := hrel
    by_cases hlt : k < m3
    · obtain ⟨b, off, rfl, hbB, hkz, hc⟩ := r4.at_ hlt
      obtain ⟨b2, off2, rfl, hbB2, hkz2, hc2⟩ := j4.at_ hlt
      have p1 : ∀ g : Gw w4.heap.size w4, g.W.cell? ⟨b, off + k, none⟩ = some (.int .i64 (gI (allL (lines s) zs tol) k)) := fun g => g.cell hbB (hc k hlt)
      have p2 : ∀ g : Gw w4.heap.size w4, g.W.cell? ⟨b2, off2 + k, none⟩ = some (.int .i64 (gI zs k)) := fun g => g.cell hbB2 (hc2 k hlt)
      have hx := HB.out.2 k (by rw [HZL.out]; exact hlt)
      have hcl : ∀ g : Gw w4.heap.size w4, Calls Try.prog 17 #[.slice A1 m c1, .int .i64 (gI zs k), .int .i64 tol] g.W fun e w' => e = .returned (.int .i64 (gI (allL (lines s) zs tol) k)) ∧ Below g.W.heap.size g.W w' := fun g => by
        rw [allL_at (by rw [HZL.out]; exact hlt), ← matchBest_yes HB.out.1 (mOk_iff.2 (by omega))]
        exact iMatchBest_any _ _ _ s _ _ _ ((i4.below g.bel).more g.bel.size)
      obtain ⟨R, hR⟩ : ∃ R, gI (allL (lines s) zs tol) k = R := ⟨_, rfl⟩
      obtain ⟨Z, hZ⟩ : ∃ Z, gI zs k = Z := ⟨_, rfl⟩
      rw [hR] at p1
      rw [hZ] at p2
      simp only [hR, hZ] at hcl
      have hltI : (k : Int) < (m3 : Int) := by omega
      clear hc hc2 hx hR hZ
      go_upto_region 11 with (fail)
      have hnonempty := Gw.ne (Nat.le_refl w4.heap.size) hb
      refine wp_region_gw (Nat.le_refl w4.heap.size) hb (by kernel_rfl) (by kernel_rfl) ?_
      repeat (go_big_quiet_step ((go_at_call 17; exact Gw.of (hcl _))))
      refine wpQuiet_nil ?_
      intro wq hw'
      have hq := Gw.out hw'
      clear hw' hnonempty
      have HQ := Lib.hid hq
      clear hcl p1 p2 hq hb
      go_wp2
      go_roundw
      case rel => exact ⟨k + 1, by omega, by go_num, HQ.out⟩
      case measure => simp [intOf]; omega
    · have HO := Lib.hid (Below.step hT4 hb)
      clear hb hT4
      go_wp2
      go_ret
      exact ⟨rfl, HO.out⟩
end Go.Proofs.Ytpkfpegilhadfab
