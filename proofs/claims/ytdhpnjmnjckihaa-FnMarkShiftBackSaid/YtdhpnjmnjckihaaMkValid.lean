/- Contracts of the two functions that tell valid marks. -/
import Derived.Test.YtdhpnjmnjckihaaMkBase
set_option linter.unusedVariables false
namespace Go.Proofs.Ytdhpnjmnjckihaa
open Go.RowKit Mk

set_option maxHeartbeats 4000000 in
theorem iMarksValid_any (A : Option Addr) (n c : Nat) (ls : List Mrk) (w : World) (h : MSl w w.heap.size A n c ls) :
    Calls Try.prog 10 #[.slice A n c] w fun e w' => e = .returned (.bool (mkOk ls)) ∧ Below w.heap.size w w' := by
  have HL := Lib.hid h.len
  have hfew := h.few
  unfold maxLen at hfew
  by_cases m1 : n < 2
  · go_enter Try.func10, Try.ntmps10
    go_wp2
    go_ret
    exact ⟨ret_bool (mkOk_no (.inl (by rw [HL.out]; exact m1))).symm, Below.refl _ _⟩
  by_cases m2 : 10 < n
  · go_enter Try.func10, Try.ntmps10
    go_wp2
    go_ret
    exact ⟨ret_bool (mkOk_no (.inr (by rw [HL.out]; exact m2))).symm, Below.refl _ _⟩
  go_enter Try.func10, Try.ntmps10
  go_wp2
  go_loopw [15] (fun i wr => ∃ k : Nat, k ≤ n ∧ i = .int .i64 k ∧ Hid (∀ j, j < k → okM ls j) ∧ Below w.heap.size w wr) (fun i _ => n - (intOf i).toNat)
  case atStart => exact ⟨0, Nat.zero_le _, rfl, (fun j hj => by omega), Below.refl _ _⟩
  case round =>
    obtain ⟨k, hk, rfl, hok, hb⟩ := hrel
    by_cases hlt : k < n
    · obtain ⟨b, off, rfl, hbB, hkz, hc⟩ := h.at_ hlt
      obtain ⟨q1, q2⟩ := hc k hlt
      obtain ⟨r1, r2⟩ := hc (k - 1) (by omega)
      have p1 := (bcell hb _ _ hbB).trans q1
      have p2 := (bcell hb _ _ hbB).trans q2
      have HB : Hid (∀ o, Below w.heap.size w (wr.alloc o)) := fun o => hb.alloc hb.size o
      have HBAD : Hid (¬ okM ls k → mkOk ls = false) := fun hh => mkOk_bad (by rw [HL.out]; exact hlt) hh
      by_cases f1 : (gM ls k).p < 0
      · clear q1 q2 r1 r2 hc
        go_wp2
        go_ret
        exact ⟨ret_bool (HBAD.out (fun hh => by unfold okM at hh; omega)).symm, HB.out _⟩
      by_cases f2 : 100000 < (gM ls k).p
      · clear q1 q2 r1 r2 hc
        go_wp2
        go_ret
        exact ⟨ret_bool (HBAD.out (fun hh => by unfold okM at hh; omega)).symm, HB.out _⟩
      by_cases f3 : (gM ls k).n < 0
      · clear q1 q2 r1 r2 hc
        go_wp2
        go_ret
        exact ⟨ret_bool (HBAD.out (fun hh => by unfold okM at hh; omega)).symm, HB.out _⟩
      by_cases f4 : 200000 < (gM ls k).n
      · clear q1 q2 r1 r2 hc
        go_wp2
        go_ret
        exact ⟨ret_bool (HBAD.out (fun hh => by unfold okM at hh; omega)).symm, HB.out _⟩
      have HF : Hid (0 ≤ (gM ls k).p ∧ (gM ls k).p ≤ 100000 ∧ 0 ≤ (gM ls k).n ∧ (gM ls k).n ≤ 200000) := ⟨by omega, by omega, by omega, by omega⟩
      by_cases hk0 : k = 0
      · have g0 : decide ((0 : Int) < (k : Int)) = false := by simp; omega
        have g0n : decide (0 < k) = false := by simp; omega
        have HK := Lib.hid hk0
        clear q1 q2 r1 r2 hc hk0
        go_wp2
        go_quiet (fail)
        clear g0 g0n
        go_wp2
        go_roundw
        case rel =>
          refine ⟨k + 1, by omega, by go_num, fun j hj => ?_, below_drewN (HB.out _) _⟩
          by_cases e : j = k
          · have := HF.out; have := HK.out; rw [e]; unfold okM; exact ⟨by omega, by omega, by omega, by omega, fun _ => by omega⟩
          · exact hok.out j (by omega)
        case measure => simp [intOf]; omega
      · have g0 : decide ((0 : Int) < (k : Int)) = true := by simp; omega
        have g0n : decide (0 < k) = true := by simp; omega
        have hk0p : 0 < k := by omega
        have s1 : ∀ o : Obj, (wr.alloc o).cell? ⟨b, off + (k - 1) * 2, none⟩ = some (.int .i64 (gM ls (k - 1)).p) := fun o => (bcell (HB.out o) _ _ hbB).trans r1
        have s2 : ∀ o : Obj, (wr.alloc o).cell? ⟨b, off + (k - 1) * 2 + 1, none⟩ = some (.int .i64 (gM ls (k - 1)).n) := fun o => (bcell (HB.out o) _ _ hbB).trans r2
        have u1 : IntKind.i64.wrap ((k : Int) - 1) = (k : Int) - 1 := IntWalk.i64_in _ (by omega)
        have u2 : ((k : Int) - 1).toNat = k - 1 := by omega
        have u3 : (0 : Int) ≤ (k : Int) - 1 := by omega
        have u4 : (k : Int) - 1 < (n : Int) := by omega
        clear q1 q2 r1 r2 hc hk0
        by_cases e1 : (gM ls k).p ≤ (gM ls (k - 1)).p
        · have g1 : decide ((gM ls k).p ≤ (gM ls (k - 1)).p) = true := by simpa using e1
          go_wp2
          go_quiet (fail)
          clear u1 u2 u3 u4 s1 s2 g1
          go_wp2
          go_ret
          exact ⟨ret_bool (HBAD.out (fun hh => by unfold okM at hh; have := hh.2.2.2.2 (by omega); omega)).symm, below_drewN (HB.out _) _⟩
        · have g1 : decide ((gM ls k).p ≤ (gM ls (k - 1)).p) = false := by simpa using e1
          by_cases e2 : (gM ls k).n ≤ (gM ls (k - 1)).n
          · have g2 : decide ((gM ls k).n ≤ (gM ls (k - 1)).n) = true := by simpa using e2
            go_wp2
            go_quiet (fail)
            clear u1 u2 u3 u4 s1 s2 g1 g2
            go_wp2
            go_ret
            exact ⟨ret_bool (HBAD.out (fun hh => by unfold okM at hh; have := hh.2.2.2.2 (by omega); omega)).symm, below_drewN (HB.out _) _⟩
          · have g2 : decide ((gM ls k).n ≤ (gM ls (k - 1)).n) = false := by simpa using e2
            have HE : Hid ((gM ls (k - 1)).p < (gM ls k).p ∧ (gM ls (k - 1)).n < (gM ls k).n) := ⟨by omega, by omega⟩
            go_wp2
            go_quiet (fail)
            clear u1 u2 u3 u4 s1 s2 g1 g2
            go_wp2
            go_roundw
            case rel =>
              refine ⟨k + 1, by omega, by go_num, fun j hj => ?_, below_drewN (HB.out _) _⟩
              by_cases e : j = k
              · have hf := HF.out; rw [e]; unfold okM; exact ⟨hf.1, hf.2.1, hf.2.2.1, hf.2.2.2, fun _ => HE.out⟩
              · exact hok.out j (by omega)
            case measure => simp [intOf]; omega
    · go_wp2
      go_ret
      exact ⟨ret_bool (mkOk_mk (by rw [HL.out]; omega) (by rw [HL.out]; omega) (fun i hi => hok.out i (by rw [HL.out] at hi; omega))).symm, hb⟩

set_option maxHeartbeats 4000000 in
theorem sMarksValid_any (A : Option Addr) (n c : Nat) (ls : List Mrk) (w : World) (h : MSl w w.heap.size A n c ls) :
    Calls Try.prog 8 #[.slice A n c] w fun e w' => e = .returned (.bool (mkOk ls)) ∧ Below w.heap.size w w' := by
  have HL := Lib.hid h.len
  have hfew := h.few
  unfold maxLen at hfew
  rcases hin : inB (n : Int) 2 10 with _ | _
  · have HI := Lib.hid (inB_no hin)
    go_enter Try.func8, Try.ntmps8
    go_wp2_with (go_at_call 19; refine (l6In_any _ _ _ _).mono ?_; rintro e w' ⟨rfl, rfl⟩)
    go_ret
    exact ⟨ret_bool (mkOk_no (by rw [HL.out]; have := HI.out; omega)).symm, Below.refl _ _⟩
  have hm := inB_yes hin
  go_enter Try.func8, Try.ntmps8
  go_wp2_with (go_at_call 19; refine (l6In_any _ _ _ _).mono ?_; rintro e w' ⟨rfl, rfl⟩)
  go_loopw [3] (fun i wr => ∃ k : Nat, k ≤ n ∧ i = .int .i64 k ∧ Hid (∀ j, j < k → okM ls j) ∧ Below w.heap.size w wr) (fun i _ => n - (intOf i).toNat)
  case atStart => exact ⟨0, Nat.zero_le _, rfl, (fun j hj => by omega), Below.refl _ _⟩
  case round =>
    obtain ⟨k, hk, rfl, hok, hb⟩ := hrel
    clear hin
    by_cases hlt : k < n
    · obtain ⟨b, off, rfl, hbB, hkz, hc⟩ := h.at_ hlt
      obtain ⟨q1, q2⟩ := hc k hlt
      obtain ⟨r1, r2⟩ := hc (k - 1) (by omega)
      have p1 := (bcell hb _ _ hbB).trans q1
      have p2 := (bcell hb _ _ hbB).trans q2
      have s1 := (bcell hb _ _ hbB).trans r1
      have s2 := (bcell hb _ _ hbB).trans r2
      have HBAD : Hid (¬ okM ls k → mkOk ls = false) := fun hh => mkOk_bad (by rw [HL.out]; exact hlt) hh
      have hltI : (k : Int) < (n : Int) := by omega
      clear q1 q2 r1 r2 hc
      rcases h1 : inB (gM ls k).p 0 100000 with _ | _
      · have H1 := Lib.hid (inB_no h1)
        go_wp2_with (go_at_call 19; refine (l6In_any _ _ _ _).mono ?_; rintro e w' ⟨rfl, rfl⟩)
        go_ret
        exact ⟨ret_bool (HBAD.out (fun hh => by have := H1.out; unfold okM at hh; omega)).symm, hb⟩
      have H1 := Lib.hid (inB_yes h1)
      rcases h2 : inB (gM ls k).n 0 200000 with _ | _
      · have H2 := Lib.hid (inB_no h2)
        go_wp2_with (go_at_call 19; refine (l6In_any _ _ _ _).mono ?_; rintro e w' ⟨rfl, rfl⟩)
        go_ret
        exact ⟨ret_bool (HBAD.out (fun hh => by have := H2.out; unfold okM at hh; omega)).symm, hb⟩
      have H2 := Lib.hid (inB_yes h2)
      by_cases hk0 : k = 0
      · have g0 : decide ((0 : Int) < (k : Int)) = false := by simp; omega
        have g0n : decide (0 < k) = false := by simp; omega
        have HK := Lib.hid hk0
        clear hk0
        go_wp2_with (go_at_call 19; refine (l6In_any _ _ _ _).mono ?_; rintro e w' ⟨rfl, rfl⟩)
        go_quiet (fail)
        clear g0 g0n
        go_wp2
        go_roundw
        case rel =>
          refine ⟨k + 1, by omega, by go_num, fun j hj => ?_, below_drewN hb _⟩
          by_cases e : j = k
          · have := H1.out; have := H2.out; have := HK.out; rw [e]; unfold okM; exact ⟨by omega, by omega, by omega, by omega, fun _ => by omega⟩
          · exact hok.out j (by omega)
        case measure => simp [intOf]; omega
      · have g0 : decide ((0 : Int) < (k : Int)) = true := by simp; omega
        have g0n : decide (0 < k) = true := by simp; omega
        have hk0p : 0 < k := by omega
        have u1 : IntKind.i64.wrap ((k : Int) - 1) = (k : Int) - 1 := IntWalk.i64_in _ (by omega)
        have u2 : ((k : Int) - 1).toNat = k - 1 := by omega
        have u3 : (0 : Int) ≤ (k : Int) - 1 := by omega
        have u4 : (k : Int) - 1 < (n : Int) := by omega
        clear hk0
        by_cases e1 : (gM ls k).p ≤ (gM ls (k - 1)).p
        · have g1 : decide ((gM ls k).p ≤ (gM ls (k - 1)).p) = true := by simpa using e1
          go_wp2_with (go_at_call 19; refine (l6In_any _ _ _ _).mono ?_; rintro e w' ⟨rfl, rfl⟩)
          go_quiet (fail)
          clear u1 u2 u3 u4 g1
          go_wp2
          go_ret
          exact ⟨ret_bool (HBAD.out (fun hh => by unfold okM at hh; have := hh.2.2.2.2 (by omega); omega)).symm, below_drewN hb _⟩
        · have g1 : decide ((gM ls k).p ≤ (gM ls (k - 1)).p) = false := by simpa using e1
          by_cases e2 : (gM ls k).n ≤ (gM ls (k - 1)).n
          · have g2 : decide ((gM ls k).n ≤ (gM ls (k - 1)).n) = true := by simpa using e2
            go_wp2_with (go_at_call 19; refine (l6In_any _ _ _ _).mono ?_; rintro e w' ⟨rfl, rfl⟩)
            go_quiet (fail)
            clear u1 u2 u3 u4 g1 g2
            go_wp2
            go_ret
            exact ⟨ret_bool (HBAD.out (fun hh => by unfold okM at hh; have := hh.2.2.2.2 (by omega); omega)).symm, below_drewN hb _⟩
          · have g2 : decide ((gM ls k).n ≤ (gM ls (k - 1)).n) = false := by simpa using e2
            have HE : Hid ((gM ls (k - 1)).p < (gM ls k).p ∧ (gM ls (k - 1)).n < (gM ls k).n) := ⟨by omega, by omega⟩
            go_wp2_with (go_at_call 19; refine (l6In_any _ _ _ _).mono ?_; rintro e w' ⟨rfl, rfl⟩)
            go_quiet (fail)
            clear u1 u2 u3 u4 g1 g2
            go_wp2
            go_roundw
            case rel =>
              refine ⟨k + 1, by omega, by go_num, fun j hj => ?_, below_drewN hb _⟩
              by_cases e : j = k
              · have := H1.out; have := H2.out; rw [e]; unfold okM; exact ⟨by omega, by omega, by omega, by omega, fun _ => HE.out⟩
              · exact hok.out j (by omega)
            case measure => simp [intOf]; omega
    · go_wp2
      go_ret
      exact ⟨ret_bool (mkOk_mk (by rw [HL.out]; omega) (by rw [HL.out]; omega) (fun i hi => hok.out i (by rw [HL.out] at hi; omega))).symm, hb⟩
end Go.Proofs.Ytdhpnjmnjckihaa
