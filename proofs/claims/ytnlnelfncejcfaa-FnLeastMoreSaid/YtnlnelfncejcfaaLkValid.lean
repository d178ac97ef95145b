/- Contracts of the two functions that tell valid links. -/
import Derived.Test.YtnlnelfncejcfaaLkBase
namespace Go.Proofs.Ytnlnelfncejcfaa
open Go.RowKit Lk

/-- what abs returns, the least int let in -/
def AbsRes (n : Int) (w : World) (e : Ending) (w' : World) : Prop := ∃ r, e = .returned (.int .i64 r) ∧ (r = (n.natAbs : Int) ∨ (n < 0 ∧ r < 0)) ∧ w = w'
set_option maxHeartbeats 400000 in
theorem iabs_all (n : Int) (w : World) (h : InI n) : Calls Try.prog 16 #[.int .i64 n] w (AbsRes n w) := by
  unfold InI at h
  by_cases hm : n = -9223372036854775808
  · subst hm
    go_enter Try.func16, Try.ntmps16
    go_wp2
    all_goals
      go_ret
      exact ⟨_, rfl, .inr ⟨by decide, by first | decide | (unfold wrap64; decide) | (unfold wrap64; omega)⟩, rfl⟩
  · go_enter Try.func16, Try.ntmps16
    go_wp2
    all_goals
      go_ret
      exact ⟨_, rfl, .inl (by omega), rfl⟩

set_option maxHeartbeats 4000000 in
theorem linksValid_any (many : Int) (A : Option Addr) (n c : Nat) (ls : List Link) (w : World) (h : LSl w w.heap.size A n c ls) (hn : n ≤ 16777216) :
    Calls Try.prog 10 #[.int .i64 many, .slice A n c] w fun e w' => e = .returned (.bool (lsOk many ls)) ∧ Below w.heap.size w w' := by
  have HL := Lib.hid h.len
  by_cases m1 : many < 1
  · go_enter Try.func10, Try.ntmps10
    go_wp2
    go_ret
    exact ⟨ret_bool (lsOk_no (.inl m1)).symm, Below.refl _ _⟩
  by_cases m2 : 12 < many
  · go_enter Try.func10, Try.ntmps10
    go_wp2
    go_ret
    exact ⟨ret_bool (lsOk_no (.inr (.inl m2))).symm, Below.refl _ _⟩
  by_cases m3 : 30 < n
  · go_enter Try.func10, Try.ntmps10
    go_wp2
    go_ret
    exact ⟨ret_bool (lsOk_no (.inr (.inr (by rw [HL.out]; exact m3)))).symm, Below.refl _ _⟩
  go_enter Try.func10, Try.ntmps10
  go_wp2
  go_loopw [20] (fun i wr => ∃ k : Nat, k ≤ n ∧ i = .int .i64 k ∧ Hid (∀ j, j < k → lOk many (gL ls j)) ∧ Below w.heap.size w wr) (fun i _ => n - (intOf i).toNat)
  case atStart => exact ⟨0, Nat.zero_le _, rfl, (fun j hj => by omega), Below.refl _ _⟩
  case round =>
    obtain ⟨k, hk, rfl, hok, hb⟩ := hrel
    by_cases hlt : k < n
    · obtain ⟨b, off, rfl, hbB, hkz, hc⟩ := h.at_ hlt
      obtain ⟨q1, q2, q3⟩ := hc k hlt
      have p1 := (bcell hb _ _ hbB).trans q1
      have p2 := (bcell hb _ _ hbB).trans q2
      have p3 := (bcell hb _ _ hbB).trans q3
      have hI := (h.inAt k).2.2
      have hb2 : ∀ o, Below w.heap.size w (wr.alloc o) := fun o => hb.alloc hb.size o
      have HB := Lib.hid hb2
      have HBAD : Hid (¬ lOk many (gL ls k) → lsOk many ls = false) := fun hh => lsOk_bad (by rw [HL.out]; exact hlt) hh
      clear q1 q2 q3 hc hb2
      by_cases f1 : (gL ls k).f < 0
      · go_wp2
        go_ret
        exact ⟨ret_bool (HBAD.out (fun hh => by unfold lOk at hh; omega)).symm, HB.out _⟩
      by_cases f2 : many ≤ (gL ls k).f
      · go_wp2
        go_ret
        exact ⟨ret_bool (HBAD.out (fun hh => by unfold lOk at hh; omega)).symm, HB.out _⟩
      by_cases f3 : (gL ls k).t < 0
      · go_wp2
        go_ret
        exact ⟨ret_bool (HBAD.out (fun hh => by unfold lOk at hh; omega)).symm, HB.out _⟩
      by_cases f4 : many ≤ (gL ls k).t
      · go_wp2
        go_ret
        exact ⟨ret_bool (HBAD.out (fun hh => by unfold lOk at hh; omega)).symm, HB.out _⟩
      by_cases f5 : (gL ls k).d < -200000 ∨ 200000 < (gL ls k).d
      · have HF := Lib.hid f5
        clear f5
        go_wp2_with fail
        refine (iabs_all _ _ hI).mono ?_
        rintro e w1 ⟨r, rfl, hr, rfl⟩
        have hr2 : 200000 < r ∨ (r ≤ 200000 ∧ (gL ls k).d < -200000) := by have := HF.out; omega
        clear hr
        rcases hr2 with hr2 | ⟨hr2, hr3⟩
        · go_wp2
          go_ret
          exact ⟨ret_bool (HBAD.out (fun hh => by have := HF.out; unfold lOk at hh; omega)).symm, HB.out _⟩
        · go_wp2
          go_ret
          exact ⟨ret_bool (HBAD.out (fun hh => by have := HF.out; unfold lOk at hh; omega)).symm, HB.out _⟩
      · have f6 : -200000 ≤ (gL ls k).d := by omega
        have f7 : (gL ls k).d ≤ 200000 := by omega
        have f8 : (((gL ls k).d.natAbs : Nat) : Int) ≤ 200000 := by omega
        clear f5
        go_wp2_with fail
        refine (iabs_any _ _ (by omega) (by omega)).mono ?_
        rintro e w1 ⟨rfl, rfl⟩
        go_wp2
        go_roundw
        case rel =>
          refine ⟨k + 1, by omega, by go_num, fun j hj => ?_, HB.out _⟩
          by_cases e : j = k
          · rw [e]; unfold lOk; omega
          · exact hok.out j (by omega)
        case measure => simp [intOf]; omega
    · go_wp2
      go_ret
      exact ⟨ret_bool (lsOk_mk (by omega) (by omega) (by rw [HL.out]; omega) (fun i hi => hok.out i (by rw [HL.out] at hi; omega))).symm, hb⟩

set_option maxHeartbeats 4000000 in
theorem l34Valid_any (many : Int) (A : Option Addr) (n c : Nat) (ls : List Link) (w : World) (h : LSl w w.heap.size A n c ls) (hn : n ≤ 16777216) :
    Calls Try.prog 14 #[.int .i64 many, .slice A n c] w fun e w' => e = .returned (.bool (lsOk many ls)) ∧ Below w.heap.size w w' := by
  have HL := Lib.hid h.len
  rcases hin : inB many 1 12 with _ | _
  · have HI := Lib.hid (inB_no hin)
    go_enter Try.func14, Try.ntmps14
    go_wp2_with (go_at_call 17; refine (l6In_any _ _ _ _).mono ?_; rintro e w' ⟨rfl, rfl⟩)
    go_ret
    exact ⟨ret_bool (lsOk_no (by have := HI.out; omega)).symm, Below.refl _ _⟩
  have hm := inB_yes hin
  by_cases m3 : 30 < n
  · go_enter Try.func14, Try.ntmps14
    go_wp2_with (go_at_call 17; refine (l6In_any _ _ _ _).mono ?_; rintro e w' ⟨rfl, rfl⟩)
    go_ret
    exact ⟨ret_bool (lsOk_no (.inr (.inr (by rw [HL.out]; exact m3)))).symm, Below.refl _ _⟩
  go_enter Try.func14, Try.ntmps14
  go_wp2_with (go_at_call 17; refine (l6In_any _ _ _ _).mono ?_; rintro e w' ⟨rfl, rfl⟩)
  go_loopw [5] (fun i wr => ∃ k : Nat, k ≤ n ∧ i = .int .i64 k ∧ Hid (∀ j, j < k → lOk many (gL ls j)) ∧ Below w.heap.size w wr) (fun i _ => n - (intOf i).toNat)
  case atStart => exact ⟨0, Nat.zero_le _, rfl, (fun j hj => by omega), Below.refl _ _⟩
  case round =>
    obtain ⟨k, hk, rfl, hok, hb⟩ := hrel
    by_cases hlt : k < n
    · obtain ⟨b, off, rfl, hbB, hkz, hc⟩ := h.at_ hlt
      obtain ⟨q1, q2, q3⟩ := hc k hlt
      have p1 := (bcell hb _ _ hbB).trans q1
      have p2 := (bcell hb _ _ hbB).trans q2
      have p3 := (bcell hb _ _ hbB).trans q3
      have hb2 : ∀ o, Below w.heap.size w (wr.alloc o) := fun o => hb.alloc hb.size o
      have HB := Lib.hid hb2
      have HBAD : Hid (¬ lOk many (gL ls k) → lsOk many ls = false) := fun hh => lsOk_bad (by rw [HL.out]; exact hlt) hh
      clear q1 q2 q3 hc hb2
      rcases h1 : inB (gL ls k).f 0 (many - 1) with _ | _
      · have H1 := Lib.hid (inB_no h1)
        go_wp2_with (go_at_call 17; refine (l6In_any _ _ _ _).mono ?_; rintro e w' ⟨rfl, rfl⟩)
        go_ret
        exact ⟨ret_bool (HBAD.out (fun hh => by have := H1.out; unfold lOk at hh; omega)).symm, HB.out _⟩
      have H1 := Lib.hid (inB_yes h1)
      rcases h2 : inB (gL ls k).t 0 (many - 1) with _ | _
      · have H2 := Lib.hid (inB_no h2)
        go_wp2_with (go_at_call 17; refine (l6In_any _ _ _ _).mono ?_; rintro e w' ⟨rfl, rfl⟩)
        go_ret
        exact ⟨ret_bool (HBAD.out (fun hh => by have := H2.out; unfold lOk at hh; omega)).symm, HB.out _⟩
      have H2 := Lib.hid (inB_yes h2)
      rcases h3 : inB (gL ls k).d (-200000) 200000 with _ | _
      · have H3 := Lib.hid (inB_no h3)
        go_wp2_with (go_at_call 17; refine (l6In_any _ _ _ _).mono ?_; rintro e w' ⟨rfl, rfl⟩)
        go_ret
        exact ⟨ret_bool (HBAD.out (fun hh => by have := H3.out; unfold lOk at hh; omega)).symm, HB.out _⟩
      have H3 := Lib.hid (inB_yes h3)
      go_wp2_with (go_at_call 17; refine (l6In_any _ _ _ _).mono ?_; rintro e w' ⟨rfl, rfl⟩)
      go_roundw
      case rel =>
        refine ⟨k + 1, by omega, by go_num, fun j hj => ?_, HB.out _⟩
        by_cases e : j = k
        · have a1 := H1.out
          have a2 := H2.out
          have a3 := H3.out
          rw [e]; unfold lOk; omega
        · exact hok.out j (by omega)
      case measure => simp [intOf]; omega
    · go_wp2
      go_ret
      exact ⟨ret_bool (lsOk_mk (by omega) (by omega) (by rw [HL.out]; omega) (fun i hi => hok.out i (by rw [HL.out] at hi; omega))).symm, hb⟩
end Go.Proofs.Ytnlnelfncejcfaa
