/- Contracts of the reference's BlendMean. -/
import Derived.Test.YtpfbjpognmjmmaaBlWalks
namespace Go.Proofs.Ytpfbjpognmjmmaa
open Go.RowKit Bl

set_option maxHeartbeats 2000000 in
theorem sBlendMean_some (A : Option Addr) (n c : Nat) (zs : List Int) (a d : Nat) (w : World) (h : ISl w w.heap.size A n c zs) (hok : meanOk zs = true) (hr : ratOf (tot zs zs.length).toNat zs.length = some (a, d)) :
    Calls Try.prog 18 #[.slice A n c] w fun e w' => e = .returned (.tuple #[.agg #[.int .i64 (a : Int), .int .i64 (d : Int)], .bool true]) ∧ Below w.heap.size w w' := by
  have HL := Lib.hid h.len
  unfold meanOk at hok; simp at hok
  obtain ⟨⟨h0, h40⟩, hin⟩ := hok
  rw [HL.out] at h0 h40 hin hr
  have HI := Lib.hid hin
  have HR := Lib.hid hr
  clear hr
  go_enter Try.func18, Try.ntmps18
  go_wp2
  go_loop [4, 5] (fun v i => ∃ k : Nat, k ≤ n ∧ i = .int .i64 k ∧ v = .int .i64 (tot zs k)) (fun _ i => n - (intOf i).toNat)
  case atStart => exact ⟨0, Nat.zero_le _, rfl, rfl⟩
  case round =>
    obtain ⟨k, hk, rfl, rfl⟩ := hrel
    have ht := tot_bd (zs := zs) (k := k) (fun i hi => HI.out i (by omega))
    by_cases hlt : k < n
    · obtain ⟨b, off, rfl, hbB, hkz, hc⟩ := h.at_ hlt
      have h1 : (w.alloc (.cells #[.int .i64 0, .int .i64 0] 33)).cell? ⟨b, off + k, none⟩ = _ := (bcell ((Below.refl w.heap.size w).alloc (Nat.le_refl _) _) _ _ hbB).trans (hc k hlt)
      have hg := HI.out k hlt
      have HT : Hid (tot zs (k + 1) = tot zs k + gI zs k) := rfl
      have hib : inB (gI zs k) 0 200000 = true := inB_t hg.1 hg.2
      clear hc
      go_wp2_with (go_at_call 34; refine (l6In_any _ _ _ _).mono ?_; rintro e w' ⟨rfl, rfl⟩)
      go_round
      case rel => exact ⟨k + 1, by omega, by go_num, by rw [HT.out]⟩
      case measure => simp [intOf]; omega
    · obtain rfl : k = n := by omega
      obtain ⟨u, hu⟩ := Int.eq_ofNat_of_zero_le ht.1
      have HU := Lib.hid hu
      have hub : u ≤ 8000000 := by omega
      have hrr : ratOf u k = some (a, d) := by have := HR.out; rw [hu] at this; simpa using this
      have HRR := Lib.hid hrr
      rw [hu]
      clear hu hrr
      go_wp2_with fail
      refine (sRatOf_some u k a d _ (by omega) (by omega) HRR.out).mono ?_
      rintro e w5 ⟨rfl, hb5⟩
      have hq1 : w5.heap[w.heap.size]? = some (.cells #[.int .i64 0, .int .i64 0] 33 (0, 0)) := by
        rw [hb5.block w.heap.size (by simp)]
        exact heap_alloc_new w _
      have f1 := frozen_of_row w5 w.heap.size 0 _ _ hq1
      have f2 := frozen_of_row w5 w.heap.size 1 _ _ hq1
      have d1 : w5.cell? ⟨w.heap.size, 0, none⟩ = some (.int .i64 0) := (cell_of_row w5 _ 0 _ _ _ hq1).trans rfl
      have d2 : w5.cell? ⟨w.heap.size, 1, none⟩ = some (.int .i64 0) := (cell_of_row w5 _ 1 _ _ _ hq1).trans rfl
      have HB : Below w.heap.size w w5 := ((Below.refl _ _).alloc (Nat.le_refl _) _).trans (hb5.mono (B' := w.heap.size) (by simp))
      clear hb5 hq1
      go_wp2
      exact bodyPost_ret (v := .tuple #[.agg #[.int .i64 (a : Int), .int .i64 (d : Int)], .bool true]) (by simp [results, Try.results18, go_sem, d1, d2]) rfl ⟨rfl, (HB.setCell (Nat.le_refl _) _).setCell (Nat.le_refl _) _⟩

set_option maxHeartbeats 2000000 in
theorem sBlendMean_no (A : Option Addr) (n c : Nat) (zs : List Int) (w : World) (h : ISl w w.heap.size A n c zs) (hn : n ≤ 16777216) (hok : meanOk zs = false) :
    Calls Try.prog 18 #[.slice A n c] w fun e w' => e = .returned (.tuple #[.agg #[.int .i64 0, .int .i64 0], .bool false]) ∧ Below w.heap.size w w' := by
  have HL := Lib.hid h.len
  have hb0 := (Below.refl w.heap.size w).alloc (Nat.le_refl _) (.cells #[.int .i64 0, .int .i64 0] 33)
  have HI : Hid (n = 0 ∨ 40 < n ∨ ¬ inR zs n) := by
    show n = 0 ∨ 40 < n ∨ ¬ inR zs n
    unfold meanOk at hok
    rw [HL.out] at hok
    by_cases hi : inR zs n
    · simp [hi] at hok; omega
    · exact .inr (.inr hi)
  clear hok
  go_enter Try.func18, Try.ntmps18
  go_wp2
  go_loop [4, 5] (fun v i => ∃ k : Nat, k ≤ n ∧ k ≤ 40 ∧ i = .int .i64 k ∧ v = .int .i64 (tot zs k) ∧ Hid (inR zs k)) (fun _ i => n - (intOf i).toNat)
  case atStart => exact ⟨0, Nat.zero_le _, by omega, rfl, rfl, fun i hi => by omega⟩
  case round =>
    obtain ⟨k, hk, hk40, rfl, rfl, hin⟩ := hrel
    have ht := tot_bd hin.out
    by_cases hlt : k < n
    · obtain ⟨b, off, rfl, hbB, hkz, hc⟩ := h.at_ hlt
      have h1 : (w.alloc (.cells #[.int .i64 0, .int .i64 0] 33)).cell? ⟨b, off + k, none⟩ = _ := (bcell ((Below.refl w.heap.size w).alloc (Nat.le_refl _) _) _ _ hbB).trans (hc k hlt)
      have HT : Hid (tot zs (k + 1) = tot zs k + gI zs k) := rfl
      clear hc
      rcases hib : inB (gI zs k) 0 200000 with _ | _
      · go_wp2_with (go_at_call 34; refine (l6In_any _ _ _ _).mono ?_; rintro e w' ⟨rfl, rfl⟩)
        exact bodyPost_ret (v := .tuple #[.agg #[.int .i64 0, .int .i64 0], .bool false]) (by simp [results, Try.results18, go_sem]) rfl ⟨rfl, hb0⟩
      · have HB := inB_yes hib
        by_cases c2 : 40 ≤ k
        · go_wp2_with (go_at_call 34; refine (l6In_any _ _ _ _).mono ?_; rintro e w' ⟨rfl, rfl⟩)
          exact bodyPost_ret (v := .tuple #[.agg #[.int .i64 0, .int .i64 0], .bool false]) (by simp [results, Try.results18, go_sem]) rfl ⟨rfl, hb0⟩
        · go_wp2_with (go_at_call 34; refine (l6In_any _ _ _ _).mono ?_; rintro e w' ⟨rfl, rfl⟩)
          go_round
          case rel => exact ⟨k + 1, by omega, by omega, by go_num, by rw [HT.out], inR_succ hin.out (by omega) (by omega)⟩
          case measure => simp [intOf]; omega
    · have h0 : n = 0 := by
        have := HI.out
        rcases this with h | h | h
        · exact h
        · omega
        · exact absurd hin.out (by rw [show k = n by omega]; exact h)
      obtain rfl : k = 0 := by omega
      subst h0
      go_wp2_with fail
      refine (sRatOf_zero 0 _).mono ?_
      rintro e w5 ⟨rfl, hb5⟩
      have hq1 : w5.heap[w.heap.size]? = some (.cells #[.int .i64 0, .int .i64 0] 33 (0, 0)) := by
        rw [hb5.block w.heap.size (by simp)]
        exact heap_alloc_new w _
      have f1 := frozen_of_row w5 w.heap.size 0 _ _ hq1
      have f2 := frozen_of_row w5 w.heap.size 1 _ _ hq1
      have d1 : w5.cell? ⟨w.heap.size, 0, none⟩ = some (.int .i64 0) := (cell_of_row w5 _ 0 _ _ _ hq1).trans rfl
      have d2 : w5.cell? ⟨w.heap.size, 1, none⟩ = some (.int .i64 0) := (cell_of_row w5 _ 1 _ _ _ hq1).trans rfl
      have HB : Below w.heap.size w w5 := ((Below.refl _ _).alloc (Nat.le_refl _) _).trans (hb5.mono (B' := w.heap.size) (by simp))
      clear hb5 hq1
      go_wp2
      exact bodyPost_ret (v := .tuple #[.agg #[.int .i64 0, .int .i64 0], .bool false]) (by simp [results, Try.results18, go_sem, d1, d2]) rfl ⟨rfl, (HB.setCell (Nat.le_refl _) _).setCell (Nat.le_refl _) _⟩
end Go.Proofs.Ytpfbjpognmjmmaa
