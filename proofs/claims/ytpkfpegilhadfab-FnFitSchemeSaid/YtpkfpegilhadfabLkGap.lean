/- Contracts of the functions that tell how far energies are from links. -/
import Derived.Test.YtpkfpegilhadfabLkValid
import Derived.Test.YtpkfpegilhadfabLkLawP
namespace Go.Proofs.Ytpkfpegilhadfab
open Go.RowKit Lk

/-- energies and links among which the gap is reckoned -/
structure GapOk (n : Nat) (ls : List Link) (e : List Int) : Prop where
  inn : ∀ i, i < ls.length → (0 ≤ (gL ls i).f ∧ (gL ls i).f < n) ∧ (0 ≤ (gL ls i).t ∧ (gL ls i).t < n) ∧ (-200000 ≤ (gL ls i).d ∧ (gL ls i).d ≤ 200000)
  small : ∀ i, -10000000 ≤ gI e i ∧ gI e i ≤ 10000000
theorem gapOk_of {many : Int} {n : Nat} {ls : List Link} {e : List Int} (h : lsOk many ls = true) (hn : many = n) (he : ∀ i, i < e.length → -10000000 ≤ gI e i ∧ gI e i ≤ 10000000) : GapOk n ls e := by
  refine ⟨fun i hi => ?_, fun i => ?_⟩
  · have := lsOk_at h hi
    unfold lOk at this; omega
  · by_cases hi : i < e.length
    · exact he i hi
    · rw [gI_ge (by omega)]; omega

set_option maxHeartbeats 2000000 in
theorem gapOf_any (A : Option Addr) (n c : Nat) (ls : List Link) (A' : Option Addr) (m c' : Nat) (es : List Int) (w : World) (h : LSl w w.heap.size A n c ls) (h' : ISl w w.heap.size A' m c' es) (hn : n ≤ 16777216) (hm : m ≤ 16777216) (hg : GapOk m ls es) :
    Calls Try.prog 48 #[.slice A n c, .slice A' m c'] w fun e w' => e = .returned (.int .i64 (gapF ls es)) ∧ Below w.heap.size w w' := by
  have HL := Lib.hid h.len
  go_enter Try.func48, Try.ntmps48
  go_wp2
  go_loopw [5, 10] (fun g i wr => ∃ k : Nat, k ≤ n ∧ i = .int .i64 k ∧ g = .int .i64 (gp ls es k) ∧ Below w.heap.size w wr) (fun _ i _ => n - (intOf i).toNat)
  case atStart => exact ⟨0, Nat.zero_le _, rfl, rfl, Below.refl _ _⟩
  case round =>
    obtain ⟨k, hk, rfl, rfl, hb⟩ := hrel
    by_cases hlt : k < n
    · obtain ⟨b, off, rfl, hbB, hkz, hc⟩ := h.at_ hlt
      obtain ⟨q1, q2, q3⟩ := hc k hlt
      have p1 := (bcell hb _ _ hbB).trans q1
      have p2 := (bcell hb _ _ hbB).trans q2
      have p3 := (bcell hb _ _ hbB).trans q3
      have hin := hg.inn k (by rw [HL.out]; exact hlt)
      obtain ⟨⟨i1, i2⟩, ⟨i3, i4⟩, i5, i6⟩ := hin
      have hm0 : 0 < m := by omega
      obtain ⟨b', off', rfl, hbB', _, hc'⟩ := h'.at_ hm0
      have e1 := hg.small (gL ls k).f.toNat
      have e2 := hg.small (gL ls k).t.toNat
      have hb2 : ∀ o, Below w.heap.size w (wr.alloc o) := fun o => hb.alloc hb.size o
      have r1 := fun o => (bcell (hb2 o) _ _ hbB').trans (hc' (gL ls k).f.toNat (by omega))
      have r2 := fun o => (bcell (hb2 o) _ _ hbB').trans (hc' (gL ls k).t.toNat (by omega))
      have HB := Lib.hid hb2
      have HM : Hid (gp ls es (k + 1) = max (gp ls es k) ((offL es (gL ls k)).natAbs : Int)) := rfl
      obtain ⟨X, hX⟩ : ∃ X, offL es (gL ls k) = X := ⟨_, rfl⟩
      rw [hX] at HM
      unfold offL at hX
      obtain ⟨F, hF⟩ : ∃ F, (gL ls k).f = F := ⟨_, rfl⟩
      obtain ⟨T, hT⟩ : ∃ F, (gL ls k).t = F := ⟨_, rfl⟩
      obtain ⟨D, hD⟩ : ∃ F, (gL ls k).d = F := ⟨_, rfl⟩
      rw [hF, hT, hD] at hX
      rw [hF] at r1 e1 i1 i2 p1
      rw [hT] at r2 e2 i3 i4 p2
      rw [hD] at i5 i6 p3
      obtain ⟨E1, hE1⟩ : ∃ E, gI es F.toNat = E := ⟨_, rfl⟩
      obtain ⟨E2, hE2⟩ : ∃ E, gI es T.toNat = E := ⟨_, rfl⟩
      rw [hE1, hE2] at hX
      rw [hE1] at r1 e1
      rw [hE2] at r2 e2
      have u1 : IntKind.i64.wrap (E2 - E1) = E2 - E1 := IntWalk.i64_in _ (by omega)
      have u2 : IntKind.i64.wrap (E2 - E1 - D) = X := by rw [IntWalk.i64_in _ (by omega), hX]
      have x1 : -4000000000000000000 ≤ X := by omega
      have x2 : X ≤ 4000000000000000000 := by omega
      have hlt' : (k : Int) < (n : Int) := by omega
      clear q1 q2 q3 hc hc' hF hT hD hE1 hE2 hX hb2 e1 e2 i5 i6
      go_wp2
      go_quiet ((go_at_call 68; exact quiet_left (iabs_any _ _ x1 x2)))
      clear u1 u2
      go_wp2
      all_goals
        go_roundw
        case rel => exact ⟨k + 1, by omega, by go_num, by rw [HM.out]; first | rfl | (congr 1; first | (split <;> omega) | omega), below_drewN (HB.out _) _⟩
        case measure => simp [intOf]; omega
    · go_wp2
      go_ret
      obtain rfl : k = n := by omega
      exact ⟨ret_int (by unfold gapF; rw [HL.out]), hb⟩


theorem linksGap_no {many : Int} {ls : List Link} {e : List Int} (h : ¬ (lsOk many ls = true ∧ (e.length : Int) = many ∧ eOk e)) : linksGap many ls e = -1 := if_neg h
theorem linksGap_yes {many : Int} {ls : List Link} {e : List Int} (h1 : lsOk many ls = true) (h2 : (e.length : Int) = many) (h3 : eOk e) : linksGap many ls e = gapF ls e := if_pos ⟨h1, h2, h3⟩


end Go.Proofs.Ytpkfpegilhadfab
