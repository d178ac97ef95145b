/- PeakCenter with its result under names. -/
import Derived.Test.YtddchlfhjiimcaaPkCenterI
import Derived.Test.YtddchlfhjiimcaaPkCenterS
namespace Go.Proofs.Ytddchlfhjiimcaa
open Go.RowKit Pk

theorem ratOf_small {u v : Nat} (hv : v ≠ 0) (hu : u ≤ 1000000000) (hv2 : v ≤ 1000000000) : ∃ a d, ratOf u v = some (a, d) := by
  have hg : 0 < Nat.gcd u v := Nat.gcd_pos_of_pos_right _ (by omega)
  have h1 : u / Nat.gcd u v ≤ u := Nat.div_le_self _ _
  have h2 : v / Nat.gcd u v ≤ v := Nat.div_le_self _ _
  have h3 : 1 ≤ v / Nat.gcd u v := Nat.div_pos (Nat.gcd_le_right _ (by omega)) hg
  have h4 : Nat.gcd (u / Nat.gcd u v) (v / Nat.gcd u v) = 1 := Nat.coprime_div_gcd_div_gcd hg
  have hr : ratV (u / Nat.gcd u v) (v / Nat.gcd u v) = true := by unfold ratV; simp [h4]; omega
  exact ⟨_, _, by unfold ratOf; rw [if_neg hv, if_pos hr]⟩

/-- what the center is -/
def CenIs (zs : List Int) (a g : Int) (x y : Int) (b : Bool) : Prop :=
  (∃ k q : Nat, cOk zs = true ∧ a = (k : Int) ∧ k < zs.length ∧ g = (q : Int) ∧ q ≤ 200 ∧
    ((∃ p d : Nat, x = p ∧ y = d ∧ b = true ∧ ratOf (cW zs k q) (cT zs k q) = some (p, d)) ∨ (cT zs k q = 0 ∧ x = 0 ∧ y = 0 ∧ b = false))) ∨
  ((cOk zs = false ∨ a < 0 ∨ (zs.length : Int) ≤ a ∨ g < 0 ∨ 200 < g) ∧ x = 0 ∧ y = 0 ∧ b = false)
theorem cW_bd {zs : List Int} {k q : Nat} (h : cOk zs = true) (hk : k < zs.length) : cW zs k q ≤ 399960000 ∧ cT zs k q ≤ 1999800 := by
  have hl := cOk_len h
  have hh := cHi_le (k := k) (h := q) (n := zs.length) hk
  have h1 := wS_bd (f := cN zs) (lo := cLo k q) (cN_le h) (cHi k q zs.length) (by omega)
  have h2 := tS_bd (f := cN zs) (lo := cLo k q) (cN_le h) (cHi k q zs.length)
  unfold cW cT; omega
theorem cenIs_ex (zs : List Int) (a g : Int) : ∃ x y b, CenIs zs a g x y b := by
  by_cases hc : cOk zs = true ∧ 0 ≤ a ∧ a < zs.length ∧ 0 ≤ g ∧ g ≤ 200
  · obtain ⟨h1, h2, h3, h4, h5⟩ := hc
    obtain ⟨k, rfl⟩ := Int.eq_ofNat_of_zero_le h2
    obtain ⟨q, rfl⟩ := Int.eq_ofNat_of_zero_le h4
    have hb := cW_bd (q := q) h1 (show k < zs.length by omega)
    by_cases hz : cT zs k q = 0
    · exact ⟨0, 0, false, .inl ⟨k, q, h1, rfl, by omega, rfl, by omega, .inr ⟨hz, rfl, rfl, rfl⟩⟩⟩
    · obtain ⟨p, d, e⟩ := ratOf_small (u := cW zs k q) hz (by omega) (by omega)
      exact ⟨p, d, true, .inl ⟨k, q, h1, rfl, by omega, rfl, by omega, .inl ⟨p, d, rfl, rfl, rfl, e⟩⟩⟩
  · refine ⟨0, 0, false, .inr ⟨?_, rfl, rfl, rfl⟩⟩
    rcases h1 : cOk zs with _ | _
    · exact .inl rfl
    · exact .inr (by have : ¬ (0 ≤ a ∧ a < zs.length ∧ 0 ≤ g ∧ g ≤ 200) := fun h => hc ⟨h1, h⟩; omega)

set_option maxHeartbeats 2000000 in
theorem iPeakCenter_no (A : Option Addr) (n c : Nat) (zs : List Int) (a g : Int) (w : World) (h : ISl w w.heap.size A n c zs) (hn : n ≤ 16777216)
    (hr : cOk zs = false ∨ a < 0 ∨ (n : Int) ≤ a ∨ g < 0 ∨ 200 < g) :
    Calls Try.prog 11 #[.slice A n c, .int .i64 a, .int .i64 g] w fun e w' => e = .returned (.tuple #[.agg #[.int .i64 0, .int .i64 0], .bool false]) ∧ Below w.heap.size w w' := by
  have hbA := (Below.refl w.heap.size w).alloc (Nat.le_refl _) (.cells #[.int .i64 0, .int .i64 0] 32)
  rcases hok : cOk zs with _ | _
  · clear hr

    go_enter Try.func11, Try.ntmps11
    go_wp2_with (go_at_call 20; refine (countsValid_any _ _ _ w.heap.size _ _ (h.below hbA) hn).mono ?_; rintro e w' ⟨rfl, rfl⟩)
    exact bodyPost_ret (v := .tuple #[.agg #[.int .i64 0, .int .i64 0], .bool false]) (by simp [results, Try.results11, go_sem]) rfl ⟨rfl, hbA⟩
  · have hr' : a < 0 ∨ (n : Int) ≤ a ∨ g < 0 ∨ 200 < g := by rcases hr with h | h; (rw [hok] at h; cases h); exact h
    clear hr
    by_cases c1 : 0 ≤ a ∧ a < (n : Int)
    · obtain ⟨c2, c3⟩ := c1

      by_cases c4 : g < 0
      · go_enter Try.func11, Try.ntmps11
        go_wp2_with (go_at_call 20; refine (countsValid_any _ _ _ w.heap.size _ _ (h.below hbA) hn).mono ?_; rintro e w' ⟨rfl, rfl⟩)
        exact bodyPost_ret (v := .tuple #[.agg #[.int .i64 0, .int .i64 0], .bool false]) (by simp [results, Try.results11, go_sem]) rfl ⟨rfl, hbA⟩
      · have c5 : 200 < g := by omega
        go_enter Try.func11, Try.ntmps11
        go_wp2_with (go_at_call 20; refine (countsValid_any _ _ _ w.heap.size _ _ (h.below hbA) hn).mono ?_; rintro e w' ⟨rfl, rfl⟩)
        exact bodyPost_ret (v := .tuple #[.agg #[.int .i64 0, .int .i64 0], .bool false]) (by simp [results, Try.results11, go_sem]) rfl ⟨rfl, hbA⟩
    · clear hr'

      by_cases c4 : a < 0
      · clear c1
        go_enter Try.func11, Try.ntmps11
        go_wp2_with (go_at_call 20; refine (countsValid_any _ _ _ w.heap.size _ _ (h.below hbA) hn).mono ?_; rintro e w' ⟨rfl, rfl⟩)
        exact bodyPost_ret (v := .tuple #[.agg #[.int .i64 0, .int .i64 0], .bool false]) (by simp [results, Try.results11, go_sem]) rfl ⟨rfl, hbA⟩
      · have c5 : (n : Int) ≤ a := by omega
        clear c1
        go_enter Try.func11, Try.ntmps11
        go_wp2_with (go_at_call 20; refine (countsValid_any _ _ _ w.heap.size _ _ (h.below hbA) hn).mono ?_; rintro e w' ⟨rfl, rfl⟩)
        exact bodyPost_ret (v := .tuple #[.agg #[.int .i64 0, .int .i64 0], .bool false]) (by simp [results, Try.results11, go_sem]) rfl ⟨rfl, hbA⟩

/-- what the center is, called with a result under names -/
theorem iPeakCenter_is (A : Option Addr) (n c : Nat) (zs : List Int) (a g : Int) (x y : Int) (b : Bool) (w : World) (hx : CenIs zs a g x y b) (h : ISl w w.heap.size A n c zs) (hn : n ≤ 16777216) :
    Calls Try.prog 11 #[.slice A n c, .int .i64 a, .int .i64 g] w fun e w' => e = .returned (.tuple #[.agg #[.int .i64 x, .int .i64 y], .bool b]) ∧ Below w.heap.size w w' := by
  rcases hx with ⟨k, q, ho, rfl, hk, rfl, hq, hr⟩ | ⟨hr, rfl, rfl, rfl⟩
  · exact iPeakCenter_ok A n c zs k q x y b w h ho (by rw [← h.len]; exact hk) hq hr
  · exact iPeakCenter_no A n c zs a g w h hn (by rw [h.len] at hr; exact hr)

set_option maxHeartbeats 2000000 in
theorem sPeakCenter_no (A : Option Addr) (n c : Nat) (zs : List Int) (a g : Int) (w : World) (h : ISl w w.heap.size A n c zs) (hn : n ≤ 16777216)
    (hr : cOk zs = false ∨ a < 0 ∨ (n : Int) ≤ a ∨ g < 0 ∨ 200 < g) :
    Calls Try.prog 12 #[.slice A n c, .int .i64 a, .int .i64 g] w fun e w' => e = .returned (.tuple #[.agg #[.int .i64 0, .int .i64 0], .bool false]) ∧ Below w.heap.size w w' := by
  have hbA := (Below.refl w.heap.size w).alloc (Nat.le_refl _) (.cells #[.int .i64 0, .int .i64 0] 32)
  rcases hok : cOk zs with _ | _
  · clear hr

    go_enter Try.func12, Try.ntmps12
    go_wp2_with (first | (go_at_call 21; refine (l36Valid_any _ _ _ w.heap.size _ _ (h.below hbA) hn).mono ?_; rintro e w' ⟨rfl, rfl⟩) | (go_at_call 25; refine (l6In_any _ _ _ _).mono ?_; rintro e w' ⟨rfl, rfl⟩))
    exact bodyPost_ret (v := .tuple #[.agg #[.int .i64 0, .int .i64 0], .bool false]) (by simp [results, Try.results12, go_sem]) rfl ⟨rfl, hbA⟩
  · have hr' : a < 0 ∨ (n : Int) ≤ a ∨ g < 0 ∨ 200 < g := by rcases hr with h | h; (rw [hok] at h; cases h); exact h
    clear hr
    by_cases c1 : 0 ≤ a ∧ a < (n : Int)
    · obtain ⟨c2, c3⟩ := c1
      have e1 : inB a 0 ((n : Int) - 1) = true := inB_t (by omega) (by omega)
      have e2 : inB g 0 200 = false := inB_f (by omega)
      by_cases c4 : g < 0
      · go_enter Try.func12, Try.ntmps12
        go_wp2_with (first | (go_at_call 21; refine (l36Valid_any _ _ _ w.heap.size _ _ (h.below hbA) hn).mono ?_; rintro e w' ⟨rfl, rfl⟩) | (go_at_call 25; refine (l6In_any _ _ _ _).mono ?_; rintro e w' ⟨rfl, rfl⟩))
        exact bodyPost_ret (v := .tuple #[.agg #[.int .i64 0, .int .i64 0], .bool false]) (by simp [results, Try.results12, go_sem]) rfl ⟨rfl, hbA⟩
      · have c5 : 200 < g := by omega
        go_enter Try.func12, Try.ntmps12
        go_wp2_with (first | (go_at_call 21; refine (l36Valid_any _ _ _ w.heap.size _ _ (h.below hbA) hn).mono ?_; rintro e w' ⟨rfl, rfl⟩) | (go_at_call 25; refine (l6In_any _ _ _ _).mono ?_; rintro e w' ⟨rfl, rfl⟩))
        exact bodyPost_ret (v := .tuple #[.agg #[.int .i64 0, .int .i64 0], .bool false]) (by simp [results, Try.results12, go_sem]) rfl ⟨rfl, hbA⟩
    · clear hr'
      have e1 : inB a 0 ((n : Int) - 1) = false := inB_f (by omega)
      by_cases c4 : a < 0
      · clear c1
        go_enter Try.func12, Try.ntmps12
        go_wp2_with (first | (go_at_call 21; refine (l36Valid_any _ _ _ w.heap.size _ _ (h.below hbA) hn).mono ?_; rintro e w' ⟨rfl, rfl⟩) | (go_at_call 25; refine (l6In_any _ _ _ _).mono ?_; rintro e w' ⟨rfl, rfl⟩))
        exact bodyPost_ret (v := .tuple #[.agg #[.int .i64 0, .int .i64 0], .bool false]) (by simp [results, Try.results12, go_sem]) rfl ⟨rfl, hbA⟩
      · have c5 : (n : Int) ≤ a := by omega
        clear c1
        go_enter Try.func12, Try.ntmps12
        go_wp2_with (first | (go_at_call 21; refine (l36Valid_any _ _ _ w.heap.size _ _ (h.below hbA) hn).mono ?_; rintro e w' ⟨rfl, rfl⟩) | (go_at_call 25; refine (l6In_any _ _ _ _).mono ?_; rintro e w' ⟨rfl, rfl⟩))
        exact bodyPost_ret (v := .tuple #[.agg #[.int .i64 0, .int .i64 0], .bool false]) (by simp [results, Try.results12, go_sem]) rfl ⟨rfl, hbA⟩

/-- what the center is, called with a result under names -/
theorem sPeakCenter_is (A : Option Addr) (n c : Nat) (zs : List Int) (a g : Int) (x y : Int) (b : Bool) (w : World) (hx : CenIs zs a g x y b) (h : ISl w w.heap.size A n c zs) (hn : n ≤ 16777216) :
    Calls Try.prog 12 #[.slice A n c, .int .i64 a, .int .i64 g] w fun e w' => e = .returned (.tuple #[.agg #[.int .i64 x, .int .i64 y], .bool b]) ∧ Below w.heap.size w w' := by
  rcases hx with ⟨k, q, ho, rfl, hk, rfl, hq, hr⟩ | ⟨hr, rfl, rfl, rfl⟩
  · exact sPeakCenter_ok A n c zs k q x y b w h ho (by rw [← h.len]; exact hk) hq hr
  · exact sPeakCenter_no A n c zs a g w h hn (by rw [h.len] at hr; exact hr)

end Go.Proofs.Ytddchlfhjiimcaa
