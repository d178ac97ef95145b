/- Contracts of the functions that tell valid schemes, and of the small tests. -/
import Derived.Test.YtpkfpegilhadfaaMtBase
import Derived.Test.YtpkfpegilhadfaaQuiet
import Derived.Deep.Cut
namespace Go.Proofs.Ytpkfpegilhadfaa
open Go.RowKit Mt

def spin (j : Int) : Bool := inB j 0 24
set_option maxHeartbeats 400000 in
theorem iSpin_any (j : Int) (w : World) :
    Calls Try.prog 78 #[.int .i64 j] w fun e w' => e = .returned (.bool (spin j)) ∧ w = w' := by
  by_cases h1 : 0 ≤ j
  · by_cases h2 : j ≤ 24
    · go_enter Try.func78, Try.ntmps78
      go_wp2
      go_ret
      exact ⟨ret_bool (inB_t h1 h2).symm, rfl⟩
    · go_enter Try.func78, Try.ntmps78
      go_wp2
      go_ret
      exact ⟨ret_bool (inB_f (by omega)).symm, rfl⟩
  · go_enter Try.func78, Try.ntmps78
    go_wp2
    go_ret
    exact ⟨ret_bool (inB_f (by omega)).symm, rfl⟩
set_option maxHeartbeats 400000 in
theorem sSpin_any (j : Int) (w : World) :
    Calls Try.prog 75 #[.int .i64 j] w fun e w' => e = .returned (.bool (spin j)) ∧ w = w' := by
  go_enter Try.func75, Try.ntmps75
  go_wp2_with (go_at_call 67; refine (l6In_any _ _ _ _).mono ?_; rintro e w' ⟨rfl, rfl⟩)
  go_ret
  exact ⟨rfl, rfl⟩
/-- a node's numbers in their ranges -/
def nIn (e j : Int) : Bool := inB e 0 200000 && spin j
set_option maxHeartbeats 400000 in
theorem nodeValid_any (e j : Int) (o : Bool) (w : World) :
    Calls Try.prog 68 #[.agg #[.int .i64 e, .int .i64 j, .bool o]] w fun r w' => r = .returned (.bool (nIn e j)) ∧ Below w.heap.size w w' := by
  have hb : ∀ o, Below w.heap.size w (w.alloc o) := fun o => (Below.refl _ _).alloc (Nat.le_refl _) o
  by_cases h1 : 0 ≤ e
  · by_cases h2 : e ≤ 200000
    · have H := Lib.hid (inB_t h1 h2)
      go_enter Try.func68, Try.ntmps68
      go_wp2_with (go_at_call 78; refine (iSpin_any _ _).mono ?_; rintro e w' ⟨rfl, rfl⟩)
      go_ret
      exact ⟨ret_bool (by unfold nIn; rw [H.out]; rfl), hb _⟩
    · go_enter Try.func68, Try.ntmps68
      go_wp2_with fail
      go_ret
      exact ⟨ret_bool (by unfold nIn; rw [inB_f (by omega)]; rfl), hb _⟩
  · go_enter Try.func68, Try.ntmps68
    go_wp2_with fail
    go_ret
    exact ⟨ret_bool (by unfold nIn; rw [inB_f (by omega)]; rfl), hb _⟩
theorem nIn_iff {e j : Int} : nIn e j = true ↔ 0 ≤ e ∧ e ≤ 200000 ∧ 0 ≤ j ∧ j ≤ 24 := by simp [nIn, spin, inB]; omega

set_option maxHeartbeats 4000000 in
theorem iSchemeValid_any (A : Option Addr) (n c : Nat) (s : List Nd) (w : World) (h : NSl w w.heap.size A n c s) :
    Calls Try.prog 39 #[.slice A n c] w fun e w' => e = .returned (.bool (sOk s)) ∧ Below w.heap.size w w' := by
  have HL := Lib.hid h.len
  have hfew := h.few
  unfold maxLen at hfew
  by_cases m1 : n < 1
  · go_enter Try.func39, Try.ntmps39
    go_wp2
    go_ret
    exact ⟨ret_bool (sOk_no (.inl (by rw [HL.out]; exact m1))).symm, Below.refl _ _⟩
  by_cases m2 : 12 < n
  · go_enter Try.func39, Try.ntmps39
    go_wp2
    go_ret
    exact ⟨ret_bool (sOk_no (.inr (.inl (by rw [HL.out]; exact m2)))).symm, Below.refl _ _⟩
  obtain ⟨b, off, rfl, hbB, _, hc⟩ := h.at_ (k := 0) (by omega)
  obtain ⟨z1, z2, _⟩ := hc 0 (by omega)
  rw [Nat.zero_mul, Nat.add_zero] at z1 z2
  have HC := Lib.hid hc
  clear hc
  by_cases m3 : (gN s 0).e = 0
  case neg =>
    have m4 : ((gN s 0).e != 0) = true := by simpa using m3
    go_enter Try.func39, Try.ntmps39
    go_wp2
    go_ret
    exact ⟨ret_bool (sOk_no (.inr (.inr m3))).symm, Below.refl _ _⟩
  have M3 := Lib.hid m3
  rw [m3] at z1
  clear m3
  have hzI := (h.inAt 0).2
  unfold InI at hzI
  obtain ⟨Z, hZ⟩ : ∃ Z, (gN s 0).j = Z := ⟨_, rfl⟩
  have HZ := Lib.hid hZ
  rw [hZ] at z2 hzI
  clear hZ
  go_enter Try.func39, Try.ntmps39
  go_wp2
  go_loopw [22] (fun i wr => ∃ k : Nat, k ≤ n ∧ i = .int .i64 k ∧ Hid (∀ j, j < k → nOk s j) ∧ Below w.heap.size w wr) (fun i _ => n - (intOf i).toNat)
  case atStart => exact ⟨0, Nat.zero_le _, rfl, (fun j hj => by omega), Below.refl _ _⟩
  case round =>
    obtain ⟨k, hk, rfl, hok, hb⟩ := hrel
    by_cases hlt : k < n
    · obtain ⟨q1, q2, q3⟩ := HC.out k hlt
      have p1 := (bcell hb _ _ hbB).trans q1
      have p2 := (bcell hb _ _ hbB).trans q2
      have p3 := (bcell hb _ _ hbB).trans q3
      obtain ⟨E, hE⟩ : ∃ E, (gN s k).e = E := ⟨_, rfl⟩
      obtain ⟨J, hJ⟩ : ∃ J, (gN s k).j = J := ⟨_, rfl⟩
      obtain ⟨O, hO⟩ : ∃ O, (gN s k).o = O := ⟨_, rfl⟩
      have hJI := (h.inAt k).2
      unfold InI at hJI
      rw [hE] at p1
      rw [hJ] at p2 hJI
      rw [hO] at p3
      have HE := Lib.hid (And.intro hE hJ)
      clear hE hJ hO q1 q2 q3
      have HBAD : Hid (¬ nOk s k → sOk s = false) := fun hh => sOk_bad (by rw [HL.out]; exact hlt) hh
      go_upto_region 6 with (fail)
      obtain ⟨w1, hw1⟩ : ∃ w1, wr.alloc (.cells #[.int .i64 E, .int .i64 J, .bool O] 63) = w1 := ⟨_, rfl⟩
      rw [hw1]
      have hs1 : w1.heap.size = wr.heap.size + 1 := by rw [← hw1]; simp
      have hb1 : Below w.heap.size w w1 := by rw [← hw1]; exact hb.alloc hb.size _
      have e1 : ∀ g : Gw (wr.heap.size + 1) w1, g.W.cell? ⟨wr.heap.size, 0, none⟩ = some (.int .i64 E) := fun g => g.cell (by omega) (by rw [← hw1]; exact (three_new wr _ _ _ _).1)
      have e2 : ∀ g : Gw (wr.heap.size + 1) w1, g.W.cell? ⟨wr.heap.size, 1, none⟩ = some (.int .i64 J) := fun g => g.cell (by omega) (by rw [← hw1]; exact (three_new wr _ _ _ _).2.1)
      have e3 : ∀ g : Gw (wr.heap.size + 1) w1, g.W.cell? ⟨wr.heap.size, 2, none⟩ = some (.bool O) := fun g => g.cell (by omega) (by rw [← hw1]; exact (three_new wr _ _ _ _).2.2)
      have hzz := hb.size
      have r2 : ∀ g : Gw (wr.heap.size + 1) w1, g.W.cell? ⟨b, off + 1, none⟩ = some (.int .i64 Z) := fun g => g.cell (by omega) ((bcell hb1 _ _ hbB).trans z2)
      have hn1 : (0 : Int) < (n : Int) := by omega
      have hcall := fun W => nodeValid_any E J O W
      rcases hN : nIn E J with _ | _
      · simp only [hN] at hcall
        have HN := Lib.hid hN
        clear hN
        have hnonempty := Gw.ne (Nat.le_of_eq hs1.symm) (Below.refl (wr.heap.size + 1) w1)
        refine wp_region_gw (Nat.le_of_eq hs1.symm) (Below.refl (wr.heap.size + 1) w1) (by kernel_rfl) (by kernel_rfl) ?_
        repeat (go_big_quiet_step ((go_at_call 68; exact Gw.of (hcall _))))
        refine wpQuiet_nil ?_
        intro wq hw'
        have hq := Gw.out hw'
        clear hw' hnonempty
        have hend : Below w.heap.size w wq := hb1.trans (hq.mono (by omega))
        have HE2 := Lib.hid hend
        clear hcall e1 e2 e3 r2 hb1 hend
        go_wp2
        go_ret
        refine ⟨ret_bool (HBAD.out (fun hh => ?_)).symm, HE2.out⟩
        have h1 := HN.out
        have h2 : nIn E J = true := nIn_iff.2 (by have := HE.out; unfold nOk at hh; omega)
        rw [h1] at h2; cases h2
      simp only [hN] at hcall
      have hNI := nIn_iff.1 hN
      have HNI := Lib.hid hNI
      have hZ0 : 0 ≤ Z := by
        have h1 := HE.out
        have h2 := HZ.out
        by_cases hk0 : k = 0
        · rw [hk0] at h1; omega
        · have := hok.out 0 (by omega); unfold nOk at this; omega
      clear hN hNI
      obtain ⟨X, hX⟩ : ∃ X, J % 2 = X := ⟨_, rfl⟩
      obtain ⟨Y, hY⟩ : ∃ Y, Z % 2 = Y := ⟨_, rfl⟩
      have t1 : J.tmod 2 = X := by rw [Int.tmod_eq_emod_of_nonneg (by have := HNI.out; omega)]; exact hX
      have t2 : Z.tmod 2 = Y := by rw [Int.tmod_eq_emod_of_nonneg hZ0]; exact hY
      have HXY := Lib.hid (And.intro hX hY)
      clear hX hY hZ0
      have HPAR : Hid (X ≠ Y → ¬ nOk s k) := fun hne hh => by
        have h1 := HXY.out
        have h2 := HE.out
        have h3 := HZ.out
        unfold nOk at hh
        rw [h2.2, h3] at hh
        omega
      have hEI := HE.out.1
      have HEE := Lib.hid hEI
      clear hEI
      by_cases hxy : X = Y
      case neg =>
        have g1 : (X != Y) = true := by simpa using hxy
        have HX := Lib.hid hxy
        clear hxy
        have hnonempty := Gw.ne (Nat.le_of_eq hs1.symm) (Below.refl (wr.heap.size + 1) w1)
        refine wp_region_gw (Nat.le_of_eq hs1.symm) (Below.refl (wr.heap.size + 1) w1) (by kernel_rfl) (by kernel_rfl) ?_
        repeat (go_big_quiet_step ((go_at_call 68; exact Gw.of (hcall _))))
        refine wpQuiet_nil ?_
        intro wq hw'
        have hq := Gw.out hw'
        clear hw' hnonempty
        have hend : Below w.heap.size w wq := hb1.trans (hq.mono (by omega))
        have HE2 := Lib.hid hend
        clear hcall e1 e2 e3 r2 hb1 hend t1 t2 g1
        go_wp2
        go_ret
        exact ⟨ret_bool (HBAD.out (HPAR.out HX.out)).symm, HE2.out⟩
      have g1 : (X != Y) = false := by simpa using hxy
      have HX := Lib.hid hxy
      clear hxy
      by_cases hk0 : k = 0
      · have g0 : decide ((0 : Int) < (k : Int)) = false := by simp; omega
        have g0n : decide (0 < k) = false := by simp; omega
        have HK := Lib.hid hk0
        clear hk0
        have hnonempty := Gw.ne (Nat.le_of_eq hs1.symm) (Below.refl (wr.heap.size + 1) w1)
        refine wp_region_gw (Nat.le_of_eq hs1.symm) (Below.refl (wr.heap.size + 1) w1) (by kernel_rfl) (by kernel_rfl) ?_
        repeat (go_big_quiet_step ((go_at_call 68; exact Gw.of (hcall _))))
        refine wpQuiet_nil ?_
        intro wq hw'
        have hq := Gw.out hw'
        clear hw' hnonempty
        have hend : Below w.heap.size w wq := hb1.trans (hq.mono (by omega))
        have HE2 := Lib.hid hend
        clear hcall e1 e2 e3 r2 hb1 hend t1 t2 g1 g0 g0n
        go_wp2
        go_roundw
        case rel =>
          refine ⟨k + 1, by omega, by go_num, fun j hj => ?_, HE2.out⟩
          by_cases e : j = k
          · have h1 := HE.out
            have h2 := HZ.out
            have h3 := HNI.out
            have h4 := HXY.out
            have h5 := HX.out
            have h6 := HK.out
            rw [e]; unfold nOk; rw [h1.1, h1.2, h2]
            exact ⟨by omega, by omega, by omega, by omega, by omega, fun h => by omega⟩
          · exact hok.out j (by omega)
        case measure => simp [intOf]; omega
      have g0 : decide ((0 : Int) < (k : Int)) = true := by simp; omega
      have g0n : decide (0 < k) = true := by simp; omega
      have hk0p : 0 < k := by omega
      obtain ⟨P, hP⟩ : ∃ P, (gN s (k - 1)).e = P := ⟨_, rfl⟩
      have HP := Lib.hid hP
      have s1 : ∀ g : Gw (wr.heap.size + 1) w1, g.W.cell? ⟨b, off + (k - 1) * 3, none⟩ = some (.int .i64 P) := fun g => g.cell (by omega) ((bcell hb1 _ _ hbB).trans (by rw [← hP]; exact (HC.out (k - 1) (by omega)).1))
      have u1 : IntKind.i64.wrap ((k : Int) - 1) = (k : Int) - 1 := IntWalk.i64_in _ (by omega)
      have u2 : ((k : Int) - 1).toNat = k - 1 := by omega
      have u3 : (0 : Int) ≤ (k : Int) - 1 := by omega
      have u4 : (k : Int) - 1 < (n : Int) := by omega
      clear hk0 hP
      by_cases hle : E ≤ P
      · have g2 : decide (E ≤ P) = true := by simpa using hle
        have HLE := Lib.hid hle
        clear hle
        have hnonempty := Gw.ne (Nat.le_of_eq hs1.symm) (Below.refl (wr.heap.size + 1) w1)
        refine wp_region_gw (Nat.le_of_eq hs1.symm) (Below.refl (wr.heap.size + 1) w1) (by kernel_rfl) (by kernel_rfl) ?_
        repeat (go_big_quiet_step ((go_at_call 68; exact Gw.of (hcall _))))
        refine wpQuiet_nil ?_
        intro wq hw'
        have hq := Gw.out hw'
        clear hw' hnonempty
        have hend : Below w.heap.size w wq := hb1.trans (hq.mono (by omega))
        have HE2 := Lib.hid hend
        clear hcall e1 e2 e3 r2 hb1 hend t1 t2 g1 g0 g0n g2 s1 u1 u2 u3 u4
        go_wp2
        go_ret
        refine ⟨ret_bool (HBAD.out (fun hh => ?_)).symm, HE2.out⟩
        have h1 := HE.out
        have h2 := HP.out
        have h3 := HLE.out
        unfold nOk at hh
        have := hh.2.2.2.2.2 (by omega)
        omega
      · have g2 : decide (E ≤ P) = false := by simpa using hle
        have HLE := Lib.hid hle
        clear hle
        have hnonempty := Gw.ne (Nat.le_of_eq hs1.symm) (Below.refl (wr.heap.size + 1) w1)
        refine wp_region_gw (Nat.le_of_eq hs1.symm) (Below.refl (wr.heap.size + 1) w1) (by kernel_rfl) (by kernel_rfl) ?_
        repeat (go_big_quiet_step ((go_at_call 68; exact Gw.of (hcall _))))
        refine wpQuiet_nil ?_
        intro wq hw'
        have hq := Gw.out hw'
        clear hw' hnonempty
        have hend : Below w.heap.size w wq := hb1.trans (hq.mono (by omega))
        have HE2 := Lib.hid hend
        clear hcall e1 e2 e3 r2 hb1 hend t1 t2 g1 g0 g0n g2 s1 u1 u2 u3 u4
        go_wp2
        go_roundw
        case rel =>
          refine ⟨k + 1, by omega, by go_num, fun j hj => ?_, HE2.out⟩
          by_cases e : j = k
          · have h1 := HE.out
            have h2 := HZ.out
            have h3 := HNI.out
            have h4 := HXY.out
            have h5 := HX.out
            have h6 := HP.out
            have h7 := HLE.out
            rw [e]; unfold nOk; rw [h1.1, h1.2, h2, h6]
            exact ⟨by omega, by omega, by omega, by omega, by omega, fun h => by omega⟩
          · exact hok.out j (by omega)
        case measure => simp [intOf]; omega
    · go_wp2
      go_ret
      exact ⟨ret_bool (sOk_mk (by rw [HL.out]; omega) (by rw [HL.out]; omega) M3.out (fun i hi => hok.out i (by rw [HL.out] at hi; omega))).symm, hb⟩
set_option maxHeartbeats 4000000 in
theorem sSchemeValid_any (A : Option Addr) (n c : Nat) (s : List Nd) (w : World) (h : NSl w w.heap.size A n c s) :
    Calls Try.prog 54 #[.slice A n c] w fun e w' => e = .returned (.bool (sOk s)) ∧ Below w.heap.size w w' := by
  have HL := Lib.hid h.len
  have hfew := h.few
  unfold maxLen at hfew
  rcases hin : inB (n : Int) 1 12 with _ | _
  · have HI := Lib.hid (inB_no hin)
    go_enter Try.func54, Try.ntmps54
    go_wp2_with (go_at_call 67; refine (l6In_any _ _ _ _).mono ?_; rintro e w' ⟨rfl, rfl⟩)
    go_ret
    exact ⟨ret_bool (sOk_no (by have := HI.out; rw [HL.out]; omega)).symm, Below.refl _ _⟩
  have hm := inB_yes hin
  obtain ⟨b, off, rfl, hbB, _, hc⟩ := h.at_ (k := 0) (by omega)
  obtain ⟨z1, z2, _⟩ := hc 0 (by omega)
  rw [Nat.zero_mul, Nat.add_zero] at z1 z2
  have HC := Lib.hid hc
  clear hc
  by_cases m3 : (gN s 0).e = 0
  case neg =>
    have m4 : ((gN s 0).e != 0) = true := by simpa using m3
    go_enter Try.func54, Try.ntmps54
    go_wp2_with (go_at_call 67; refine (l6In_any _ _ _ _).mono ?_; rintro e w' ⟨rfl, rfl⟩)
    go_ret
    exact ⟨ret_bool (sOk_no (.inr (.inr m3))).symm, Below.refl _ _⟩
  have M3 := Lib.hid m3
  rw [m3] at z1
  clear m3
  have hzI := (h.inAt 0).2
  unfold InI at hzI
  obtain ⟨Z, hZ⟩ : ∃ Z, (gN s 0).j = Z := ⟨_, rfl⟩
  have HZ := Lib.hid hZ
  rw [hZ] at z2 hzI
  clear hZ
  go_enter Try.func54, Try.ntmps54
  go_wp2_with (go_at_call 67; refine (l6In_any _ _ _ _).mono ?_; rintro e w' ⟨rfl, rfl⟩)
  go_loopw [3] (fun i wr => ∃ k : Nat, k ≤ n ∧ i = .int .i64 k ∧ Hid (∀ j, j < k → nOk s j) ∧ Below w.heap.size w wr) (fun i _ => n - (intOf i).toNat)
  case atStart => exact ⟨0, Nat.zero_le _, rfl, (fun j hj => by omega), Below.refl _ _⟩
  case round =>
    obtain ⟨k, hk, rfl, hok, hb⟩ := hrel
    by_cases hlt : k < n
    · obtain ⟨E, hE⟩ : ∃ E, (gN s k).e = E := ⟨_, rfl⟩
      obtain ⟨J, hJ⟩ : ∃ J, (gN s k).j = J := ⟨_, rfl⟩
      have hJI := (h.inAt k).2
      unfold InI at hJI
      rw [hJ] at hJI
      have HE := Lib.hid (And.intro hE hJ)
      have e1 : ∀ g : Gw w.heap.size w, g.W.cell? ⟨b, off + k * 3, none⟩ = some (.int .i64 E) := fun g => g.cell hbB (by rw [← hE]; exact (HC.out k hlt).1)
      have e2 : ∀ g : Gw w.heap.size w, g.W.cell? ⟨b, off + k * 3 + 1, none⟩ = some (.int .i64 J) := fun g => g.cell hbB (by rw [← hJ]; exact (HC.out k hlt).2.1)
      have r2 : ∀ g : Gw w.heap.size w, g.W.cell? ⟨b, off + 1, none⟩ = some (.int .i64 Z) := fun g => g.cell hbB z2
      clear hE hJ
      have HBAD : Hid (¬ nOk s k → sOk s = false) := fun hh => sOk_bad (by rw [HL.out]; exact hlt) hh
      go_upto_region 6 with (fail)
      have hn1 : (0 : Int) < (n : Int) := by omega
      have hc1 := fun W => l6In_any E 0 200000 W
      have hc2 := fun W => sSpin_any J W
      rcases hN : inB E 0 200000 with _ | _
      · simp only [hN] at hc1
        have HN := Lib.hid (inB_no hN)
        clear hN
        have hnonempty := Gw.ne (Nat.le_refl w.heap.size) hb
        refine wp_region_gw (Nat.le_refl w.heap.size) hb (by kernel_rfl) (by kernel_rfl) ?_
        repeat (go_big_quiet_step ((go_at_call 67; exact Gw.same (hc1 _))))
        refine wpQuiet_nil ?_
        intro wq hw'
        have hq := Gw.out hw'
        clear hw' hnonempty
        have HE2 := Lib.hid hq
        clear hc1 hc2 e1 e2 r2 hq
        go_wp2
        go_ret
        refine ⟨ret_bool (HBAD.out (fun hh => ?_)).symm, HE2.out⟩
        have h1 := HN.out
        have h2 := HE.out
        unfold nOk at hh; omega
      simp only [hN] at hc1
      have HN := Lib.hid (inB_yes hN)
      clear hN
      rcases hS : spin J with _ | _
      · simp only [hS] at hc2
        have HS := Lib.hid (inB_no hS)
        clear hS
        have hnonempty := Gw.ne (Nat.le_refl w.heap.size) hb
        refine wp_region_gw (Nat.le_refl w.heap.size) hb (by kernel_rfl) (by kernel_rfl) ?_
        repeat (go_big_quiet_step ((first | (go_at_call 67; exact Gw.same (hc1 _)) | (go_at_call 75; exact Gw.same (hc2 _)))))
        refine wpQuiet_nil ?_
        intro wq hw'
        have hq := Gw.out hw'
        clear hw' hnonempty
        have HE2 := Lib.hid hq
        clear hc1 hc2 e1 e2 r2 hq
        go_wp2
        go_ret
        refine ⟨ret_bool (HBAD.out (fun hh => ?_)).symm, HE2.out⟩
        have h1 := HS.out
        have h2 := HE.out
        unfold nOk at hh; omega
      simp only [hS] at hc2
      have HS := Lib.hid (inB_yes hS)
      have hZ0 : 0 ≤ Z := by
        have h1 := HE.out
        have h2 := HZ.out
        have h3 := HS.out
        by_cases hk0 : k = 0
        · rw [hk0] at h1; omega
        · have := hok.out 0 (by omega); unfold nOk at this; omega
      clear hS
      obtain ⟨X, hX⟩ : ∃ X, J % 2 = X := ⟨_, rfl⟩
      obtain ⟨Y, hY⟩ : ∃ Y, Z % 2 = Y := ⟨_, rfl⟩
      have t1 : J.tmod 2 = X := by rw [Int.tmod_eq_emod_of_nonneg (by have := HS.out; omega)]; exact hX
      have t2 : Z.tmod 2 = Y := by rw [Int.tmod_eq_emod_of_nonneg hZ0]; exact hY
      have HXY := Lib.hid (And.intro hX hY)
      clear hX hY hZ0
      have HPAR : Hid (X ≠ Y → ¬ nOk s k) := fun hne hh => by
        have h1 := HXY.out
        have h2 := HE.out
        have h3 := HZ.out
        unfold nOk at hh
        rw [h2.2, h3] at hh
        omega
      by_cases hxy : X = Y
      case neg =>
        have g1 : (X != Y) = true := by simpa using hxy
        have HX := Lib.hid hxy
        clear hxy
        have hnonempty := Gw.ne (Nat.le_refl w.heap.size) hb
        refine wp_region_gw (Nat.le_refl w.heap.size) hb (by kernel_rfl) (by kernel_rfl) ?_
        repeat (go_big_quiet_step ((first | (go_at_call 67; exact Gw.same (hc1 _)) | (go_at_call 75; exact Gw.same (hc2 _)))))
        refine wpQuiet_nil ?_
        intro wq hw'
        have hq := Gw.out hw'
        clear hw' hnonempty
        have HE2 := Lib.hid hq
        clear hc1 hc2 e1 e2 r2 hq t1 t2 g1
        go_wp2
        go_ret
        exact ⟨ret_bool (HBAD.out (HPAR.out HX.out)).symm, HE2.out⟩
      have g1 : (X != Y) = false := by simpa using hxy
      have HX := Lib.hid hxy
      clear hxy
      have hnonempty := Gw.ne (Nat.le_refl w.heap.size) hb
      refine wp_region_gw (Nat.le_refl w.heap.size) hb (by kernel_rfl) (by kernel_rfl) ?_
      repeat (go_big_quiet_step ((first | (go_at_call 67; exact Gw.same (hc1 _)) | (go_at_call 75; exact Gw.same (hc2 _)))))
      refine wpQuiet_nil ?_
      intro wq hw'
      have hq := Gw.out hw'
      clear hw' hnonempty
      have hb2 := hq
      clear hc1 hc2 r2 hq hb t1 t2 g1
      have HOK : Hid ((0 < k → (gN s (k - 1)).e < E) → nOk s k) := fun h6 => by
        have h1 := HE.out
        have h2 := HZ.out
        have h3 := HN.out
        have h4 := HXY.out
        have h5 := HX.out
        have h7 := HS.out
        unfold nOk; rw [h1.1, h1.2, h2]
        exact ⟨by omega, by omega, by omega, by omega, by omega, h6⟩
      go_upto_region 8 with (fail)
      by_cases hk0 : k = 0
      · have g0 : decide ((0 : Int) < (k : Int)) = false := by simp; omega
        have g0n : decide (0 < k) = false := by simp; omega
        have HK := Lib.hid hk0
        clear hk0
        have hnonempty := Gw.ne (Nat.le_refl w.heap.size) hb2
        refine wp_region_gw (Nat.le_refl w.heap.size) hb2 (by kernel_rfl) (by kernel_rfl) ?_
        repeat (go_big_quiet_step ((fail)))
        refine wpQuiet_nil ?_
        intro wq hw'
        have hq := Gw.out hw'
        clear hw' hnonempty
        have HE2 := Lib.hid hq
        clear e1 e2 hq g0 g0n
        go_wp2
        go_roundw
        case rel =>
          refine ⟨k + 1, by omega, by go_num, fun j hj => ?_, HE2.out⟩
          by_cases e : j = k
          · rw [e]; exact HOK.out (fun h => by have := HK.out; omega)
          · exact hok.out j (by omega)
        case measure => simp [intOf]; omega
      have g0 : decide ((0 : Int) < (k : Int)) = true := by simp; omega
      have g0n : decide (0 < k) = true := by simp; omega
      have hk0p : 0 < k := by omega
      obtain ⟨P, hP⟩ : ∃ P, (gN s (k - 1)).e = P := ⟨_, rfl⟩
      have HP := Lib.hid hP
      have s1 : ∀ g : Gw w.heap.size w, g.W.cell? ⟨b, off + (k - 1) * 3, none⟩ = some (.int .i64 P) := fun g => g.cell hbB (by rw [← hP]; exact (HC.out (k - 1) (by omega)).1)
      have u1 : IntKind.i64.wrap ((k : Int) - 1) = (k : Int) - 1 := IntWalk.i64_in _ (by omega)
      have u2 : ((k : Int) - 1).toNat = k - 1 := by omega
      have u3 : (0 : Int) ≤ (k : Int) - 1 := by omega
      have u4 : (k : Int) - 1 < (n : Int) := by omega
      clear hk0 hP
      by_cases hle : E ≤ P
      · have g2 : decide (E ≤ P) = true := by simpa using hle
        have HLE := Lib.hid hle
        clear hle
        have hnonempty := Gw.ne (Nat.le_refl w.heap.size) hb2
        refine wp_region_gw (Nat.le_refl w.heap.size) hb2 (by kernel_rfl) (by kernel_rfl) ?_
        repeat (go_big_quiet_step ((fail)))
        refine wpQuiet_nil ?_
        intro wq hw'
        have hq := Gw.out hw'
        clear hw' hnonempty
        have HE2 := Lib.hid hq
        clear e1 e2 hq g0 g0n g2 s1 u1 u2 u3 u4
        go_wp2
        go_ret
        refine ⟨ret_bool (HBAD.out (fun hh => ?_)).symm, HE2.out⟩
        have h1 := HE.out
        have h2 := HP.out
        have h3 := HLE.out
        unfold nOk at hh
        have := hh.2.2.2.2.2 (by omega)
        omega
      · have g2 : decide (E ≤ P) = false := by simpa using hle
        have HLE := Lib.hid hle
        clear hle
        have hnonempty := Gw.ne (Nat.le_refl w.heap.size) hb2
        refine wp_region_gw (Nat.le_refl w.heap.size) hb2 (by kernel_rfl) (by kernel_rfl) ?_
        repeat (go_big_quiet_step ((fail)))
        refine wpQuiet_nil ?_
        intro wq hw'
        have hq := Gw.out hw'
        clear hw' hnonempty
        have HE2 := Lib.hid hq
        clear e1 e2 hq g0 g0n g2 s1 u1 u2 u3 u4
        go_wp2
        go_roundw
        case rel =>
          refine ⟨k + 1, by omega, by go_num, fun j hj => ?_, HE2.out⟩
          by_cases e : j = k
          · rw [e]; exact HOK.out (fun h => by have := HP.out; have := HLE.out; omega)
          · exact hok.out j (by omega)
        case measure => simp [intOf]; omega
    · go_wp2
      go_ret
      exact ⟨ret_bool (sOk_mk (by rw [HL.out]; omega) (by rw [HL.out]; omega) M3.out (fun i hi => hok.out i (by rw [HL.out] at hi; omega))).symm, hb⟩
end Go.Proofs.Ytpkfpegilhadfaa
