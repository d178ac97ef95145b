/- Contracts of PeakCenter. -/
import Derived.Test.YtddchlfhjiimcaaPkWalks
import Derived.Test.YtddchlfhjiimcaaPkCenPlain
import Derived.Test.YtddchlfhjiimcaaRat
namespace Go.Proofs.Ytddchlfhjiimcaa
open Go.RowKit Pk

set_option maxRecDepth 100000 in
set_option maxHeartbeats 8000000 in
theorem iPeakCenter_ok (A : Option Addr) (n c : Nat) (zs : List Int) (k g : Nat) (x y : Int) (b : Bool) (w : World) (h : ISl w w.heap.size A n c zs) (hok : cOk zs = true) (hk : k < n) (hg : g ≤ 200)
    (hr : (∃ p d : Nat, x = p ∧ y = d ∧ b = true ∧ ratOf (cW zs k g) (cT zs k g) = some (p, d)) ∨ (cT zs k g = 0 ∧ x = 0 ∧ y = 0 ∧ b = false)) :
    Calls Try.prog 11 #[.slice A n c, .int .i64 k, .int .i64 g] w fun e w' => e = .returned (.tuple #[.agg #[.int .i64 x, .int .i64 y], .bool b]) ∧ Below w.heap.size w w' := by
  have HL := Lib.hid h.len
  have hs := cOk_len hok
  rw [HL.out] at hs
  have hn : n ≤ 16777216 := by omega
  have hbA := (Below.refl w.heap.size w).alloc (Nat.le_refl _) (.cells #[.int .i64 0, .int .i64 0] 32)
  have HR := Lib.hid hr
  obtain ⟨bb, off, rfl, hbB, hkz, hc⟩ := h.at_ hk
  have HC := Lib.hid hc
  obtain ⟨lo, hlo⟩ : ∃ lo, cLo k g = lo := ⟨_, rfl⟩
  obtain ⟨hi, hhi⟩ : ∃ hi, cHi k g n = hi := ⟨_, rfl⟩
  have hlk : lo ≤ k := by rw [← hlo]; exact cLo_le
  have hhb : k < hi ∧ hi ≤ n := by rw [← hhi]; exact cHi_le hk
  have HW : Hid (cW zs k g = wS (cN zs) lo hi ∧ cT zs k g = tS (cN zs) lo hi) := by
    show cW zs k g = _ ∧ cT zs k g = _
    unfold cW cT; rw [HL.out, hlo, hhi]; exact ⟨rfl, rfl⟩
  have hlo2 : lo = k - g := by rw [← hlo]; rfl
  have hhi2 : (k + g ≤ n - 1 ∧ hi = k + g + 1) ∨ (n ≤ k + g ∧ hi = n) := by rw [← hhi]; unfold cHi; split <;> omega
  have HLO := Lib.hid hlo2
  have hcases : (((k : Int) + g < (n : Int) - 1 ∧ hi ≤ k + g + 1 ∧ k + g + 1 ≤ hi) ∨ ((n : Int) - 1 < (k : Int) + g ∧ hi ≤ n ∧ n ≤ hi) ∨ ((k : Int) + g ≤ (n : Int) - 1 ∧ (n : Int) - 1 ≤ (k : Int) + g ∧ hi ≤ n ∧ n ≤ hi)) ∧ ((g < k ∧ (0 : Int) < (k : Int) - g) ∨ (k < g ∧ (k : Int) - g < 0) ∨ (k ≤ g ∧ g ≤ k)) := by omega
  clear hr hc hkz hlo hhi hlo2 hhi2
  obtain ⟨⟨q1, q2, q3⟩ | ⟨q1, q2, q3⟩ | ⟨q0, q1, q2, q3⟩, ⟨q4, q5⟩ | ⟨q4, q5⟩ | ⟨q4, q5⟩⟩ := hcases
  all_goals
    go_enter Try.func11, Try.ntmps11
    go_wp2_with (go_at_call 20; refine (countsValid_any _ _ _ w.heap.size _ _ (h.below hbA) hn).mono ?_; rintro e w' ⟨rfl, rfl⟩)
    go_loop [8, 9, 10] (fun u v q => ∃ t : Nat, lo ≤ t ∧ t ≤ hi ∧ q = .int .i64 t ∧ u = .int .i64 (wS (cN zs) lo t) ∧ v = .int .i64 (tS (cN zs) lo t)) (fun _ _ q => hi - (intOf q).toNat)
    case atStart => exact ⟨lo, Nat.le_refl _, by omega, by first | rfl | (congr 1; have := HLO.out; omega), by rw [wS_lo _ (Nat.le_refl _)]; rfl, by rw [tS_lo _ (Nat.le_refl _)]; rfl⟩
    case round =>
      obtain ⟨t, ht, hth, rfl, rfl, rfl⟩ := hrel
      have hwb := wS_bd (f := cN zs) (lo := lo) (cN_le hok) t (by omega)
      have htb := tS_bd (f := cN zs) (lo := lo) (cN_le hok) t
      by_cases hlt : t < hi
      · have h1 := (bcell hbA _ _ hbB).trans (HC.out t (by omega))
        have hgt := cOk_at hok t
        have hmul : 0 ≤ (t : Int) * gI zs t ∧ (t : Int) * gI zs t ≤ 200 * 9999 := by
          have hm : (t : Int) * gI zs t = ((t * cN zs t : Nat) : Int) := by rw [cN_eq hok t]; simp
          have hle : t * cN zs t ≤ 200 * 9999 := Nat.mul_le_mul (by omega) (cN_le hok t)
          rw [hm]; omega
        obtain ⟨hm0, hm1⟩ := hmul
        have HWS : Hid (((wS (cN zs) lo (t + 1) : Nat) : Int) = (wS (cN zs) lo t : Int) + (t : Int) * gI zs t) := by
          show ((wS (cN zs) lo (t + 1) : Nat) : Int) = _
          rw [wS_step _ ht, cN_eq hok t]; simp
        have HTS : Hid (((tS (cN zs) lo (t + 1) : Nat) : Int) = (tS (cN zs) lo t : Int) + gI zs t) := by
          show ((tS (cN zs) lo (t + 1) : Nat) : Int) = _
          rw [tS_step _ ht, cN_eq hok t]; simp
        have hcond : (t : Int) < (hi : Int) := by omega
        go_wp2
        all_goals
          go_round
          case rel => exact ⟨t + 1, by omega, by omega, by go_num, by rw [HWS.out], by rw [HTS.out]⟩
          case measure => simp [intOf]; omega
      · obtain rfl : t = hi := by omega
        obtain ⟨u, hu⟩ : ∃ u, wS (cN zs) lo t = u := ⟨_, rfl⟩
        obtain ⟨v, hv⟩ : ∃ v, tS (cN zs) lo t = v := ⟨_, rfl⟩
        have HRR : Hid ((∃ p d : Nat, x = p ∧ y = d ∧ b = true ∧ ratOf u v = some (p, d)) ∨ (v = 0 ∧ x = 0 ∧ y = 0 ∧ b = false)) := by
          have := HR.out
          rw [HW.out.1, HW.out.2, hu, hv] at this
          exact this
        rw [hu] at hwb ⊢
        rw [hv] at htb ⊢
        have hcont : Calls Try.prog 24 #[.int .i64 (u : Int), .int .i64 (v : Int)] (w.alloc (.cells #[.int .i64 0, .int .i64 0] 32)) fun e w' => e = .returned (.tuple #[.agg #[.int .i64 x, .int .i64 y], .bool b]) ∧ Below (w.alloc (.cells #[.int .i64 0, .int .i64 0] 32)).heap.size (w.alloc (.cells #[.int .i64 0, .int .i64 0] 32)) w' := by
          rcases HRR.out with ⟨p, d, rfl, rfl, rfl, hr⟩ | ⟨rfl, rfl, rfl, rfl⟩
          · exact iRatOf_some u v p d _ (by omega) (by omega) hr
          · exact iRatOf_zero u _
        have HCON := Lib.hid hcont
        clear hcont hu hv
        go_wp2_with fail
        refine Calls.mono HCON.out ?_
        rintro e w5 ⟨rfl, hb5⟩
        have hq1 : w5.heap[w.heap.size]? = some (.cells #[.int .i64 0, .int .i64 0] 32 (0, 0)) := by
          rw [hb5.block w.heap.size (by simp)]
          exact heap_alloc_new w _
        have f1 := frozen_of_row w5 w.heap.size 0 _ _ hq1
        have f2 := frozen_of_row w5 w.heap.size 1 _ _ hq1
        have d1 : w5.cell? ⟨w.heap.size, 0, none⟩ = some (.int .i64 0) := (cell_of_row w5 _ 0 _ _ _ hq1).trans rfl
        have d2 : w5.cell? ⟨w.heap.size, 1, none⟩ = some (.int .i64 0) := (cell_of_row w5 _ 1 _ _ _ hq1).trans rfl
        have HB : Below w.heap.size w w5 := ((Below.refl _ _).alloc (Nat.le_refl _) _).trans (hb5.mono (B' := w.heap.size) (by simp))
        clear hb5 hq1
        go_wp2
        exact bodyPost_ret (v := .tuple #[.agg #[.int .i64 x, .int .i64 y], .bool b]) (by simp [results, Try.results11, go_sem, d1, d2]) rfl ⟨rfl, (HB.setCell (Nat.le_refl _) _).setCell (Nat.le_refl _) _⟩
end Go.Proofs.Ytddchlfhjiimcaa
