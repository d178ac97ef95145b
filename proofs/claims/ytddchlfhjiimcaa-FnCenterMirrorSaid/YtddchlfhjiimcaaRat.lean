/- Contracts of the functions on rationals, at numerators and denominators that are not negative. -/
import Derived.Test.YtddchlfhjiimcaaBase
namespace Go.Proofs.Ytddchlfhjiimcaa
open Go.RowKit

/-- is a fraction of natural numbers a valid rational -/
def ratV (a d : Nat) : Bool := decide (1 ≤ d ∧ d ≤ 1000000000 ∧ a ≤ 1000000000 ∧ Nat.gcd a d = 1)
/-- the rational that equals u divided by v -/
def ratOf (u v : Nat) : Option (Nat × Nat) :=
  if v = 0 then none else if ratV (u / Nat.gcd u v) (v / Nat.gcd u v) = true then some (u / Nat.gcd u v, v / Nat.gcd u v) else none

theorem ratOf_some {u v a d : Nat} (h : ratOf u v = some (a, d)) : v ≠ 0 ∧ a = u / Nat.gcd u v ∧ d = v / Nat.gcd u v ∧ ratV a d = true := by
  unfold ratOf at h
  split at h
  · cases h
  · next hv =>
    split at h
    · next hr => injection h with h; injection h with h1 h2; subst h1; subst h2; exact ⟨hv, rfl, rfl, hr⟩
    · cases h
theorem ratOf_none {u v : Nat} (h : ratOf u v = none) : v = 0 ∨ (v ≠ 0 ∧ ratV (u / Nat.gcd u v) (v / Nat.gcd u v) = false) := by
  unfold ratOf at h
  split at h
  · exact .inl ‹_›
  · split at h
    · cases h
    · next hv hr => exact .inr ⟨hv, by simpa using hr⟩
theorem ratV_parts {a d : Nat} (h : ratV a d = true) : 1 ≤ d ∧ d ≤ 1000000000 ∧ a ≤ 1000000000 ∧ Nat.gcd a d = 1 := by simpa [ratV] using h

set_option maxHeartbeats 400000 in
theorem iabs_nat (n : Nat) (w : World) (hn : n ≤ 4000000000000000000) :
    Calls Try.prog 32 #[.int .i64 (n : Int)] w fun e w' => e = .returned (.int .i64 (n : Int)) ∧ w = w' := by
  go_enter Try.func32, Try.ntmps32
  go_wp2
  go_ret
  exact ⟨ret_int (by omega), rfl⟩

set_option maxHeartbeats 1000000 in
theorem divisor_nat (u v : Nat) (w : World) (hu : u ≤ 4000000000000000000) (hv : v ≤ 4000000000000000000) :
    Calls Try.prog 29 #[.int .i64 (u : Int), .int .i64 (v : Int)] w fun e w' => e = .returned (.int .i64 (Nat.gcd u v : Int)) ∧ ∃ k, w' = w.drewN k := by
  go_enter Try.func29, Try.ntmps29
  go_wp2_with fail
  refine (iabs_nat u _ hu).mono ?_
  rintro e w1 ⟨rfl, rfl⟩
  go_wp2_with fail
  refine (iabs_nat v _ hv).mono ?_
  rintro e w1 ⟨rfl, rfl⟩
  go_wp2_with fail
  go_loopw [0, 1] (fun x y wr => ∃ a b : Nat, x = .int .i64 a ∧ y = .int .i64 b ∧ Hid (Nat.gcd a b = Nat.gcd u v) ∧ a ≤ 4000000000000000000 ∧ b ≤ 4000000000000000000 ∧ ∃ k, wr = w.drewN k) (fun _ y _ => (intOf y).toNat)
  case atStart => exact ⟨u, v, rfl, rfl, rfl, hu, hv, 0, rfl⟩
  case round =>
    obtain ⟨a, b, rfl, rfl, hg, ha, hb, kk, rfl⟩ := hrel
    by_cases hb0 : b = 0
    · have hb0' : ((b : Int) != 0) = false := by simp; omega
      have HB := Lib.hid hb0
      clear hb0
      go_wp2
      go_ret
      refine ⟨ret_int ?_, kk, rfl⟩
      rw [← hg.out, HB.out, Nat.gcd_zero_right]
    · have hb0' : ((b : Int) != 0) = true := by simp; omega
      have hb1 : 1 ≤ b := by omega
      have hb2 : (1 : Int) ≤ (b : Int) := by omega
      have t1 : (a : Int).tmod (b : Int) = ((a % b : Nat) : Int) := by rw [Int.tmod_eq_emod_of_nonneg (by omega)]; omega
      have hlt : a % b < b := Nat.mod_lt _ hb1
      have HG : Hid (Nat.gcd b (a % b) = Nat.gcd u v) := by show Nat.gcd b (a % b) = _; rw [← hg.out, Nat.gcd_comm b, ← Nat.gcd_rec, Nat.gcd_comm]
      obtain ⟨q, hq⟩ : ∃ q, a % b = q := ⟨_, rfl⟩
      rw [hq] at t1 hlt HG
      have hnz : ((b : Int) == 0) = false := by simp; omega
      clear hq hb0
      go_wp2
      go_quiet (fail)
      clear t1
      go_wp2
      go_roundw
      case rel => exact ⟨b, q, rfl, rfl, HG, hb, by omega, _, World.drewN_drewN _ _ _⟩
      case measure => simp [intOf]; omega

set_option maxHeartbeats 1000000 in
theorem iRatValid_nat (a d : Nat) (w : World) (ha : a ≤ 4000000000000000000) (hd : d ≤ 4000000000000000000) :
    Calls Try.prog 27 #[.agg #[.int .i64 (a : Int), .int .i64 (d : Int)]] w fun e w' => e = .returned (.bool (ratV a d)) ∧ Below w.heap.size w w' := by
  have hb0 := (Below.refl w.heap.size w).alloc (Nat.le_refl _) (.cells #[.int .i64 (a : Int), .int .i64 (d : Int)] 32)
  by_cases h1 : 1 ≤ d ∧ d ≤ 1000000000 ∧ a ≤ 1000000000
  · obtain ⟨h1, h2, h3⟩ := h1
    rcases hg : decide (Nat.gcd a d = 1) with _ | _
    · have hg' : ((Nat.gcd a d : Int) == 1) = false := by simp at hg ⊢; omega
      have HV : Hid (ratV a d = false) := by show ratV a d = false; simp at hg; simp [ratV, hg]
      clear hg
      go_enter Try.func27, Try.ntmps27
      go_wp2_with fail
      refine (divisor_nat a d _ ha hd).mono ?_
      rintro e w1 ⟨rfl, k, rfl⟩
      go_wp2
      go_ret
      exact ⟨ret_bool HV.out.symm, below_drewN hb0 _⟩
    · have hg' : ((Nat.gcd a d : Int) == 1) = true := by simp at hg ⊢; omega
      have HV : Hid (ratV a d = true) := by show ratV a d = true; simp at hg; simp [ratV, hg, h1, h2, h3]
      clear hg
      go_enter Try.func27, Try.ntmps27
      go_wp2_with fail
      refine (divisor_nat a d _ ha hd).mono ?_
      rintro e w1 ⟨rfl, k, rfl⟩
      go_wp2
      go_ret
      exact ⟨ret_bool HV.out.symm, below_drewN hb0 _⟩
  · have HV : Hid (ratV a d = false) := by show ratV a d = false; simp [ratV]; intro x y z; omega
    by_cases c1 : 1 ≤ d
    · by_cases c2 : d ≤ 1000000000
      · have c3 : 1000000000 < a := by omega
        clear h1
        go_enter Try.func27, Try.ntmps27
        go_wp2
        go_ret
        exact ⟨ret_bool HV.out.symm, hb0⟩
      · clear h1
        go_enter Try.func27, Try.ntmps27
        go_wp2
        go_ret
        exact ⟨ret_bool HV.out.symm, hb0⟩
    · clear h1
      go_enter Try.func27, Try.ntmps27
      go_wp2
      go_ret
      exact ⟨ret_bool HV.out.symm, hb0⟩

theorem two_heap1 (w : World) (k : Nat) (c1 c2 : Array Value) (t : TypeId) : (((w.alloc (.cells c1 t)).drewN k).alloc (.cells c2 t)).heap[w.heap.size]? = some (.cells c1 t (0, 0)) := by
  have h1 := Below.heap_alloc ((w.alloc (.cells c1 t)).drewN k) (.cells c2 t) w.heap.size (by have := (below_drewN (Below.refl 0 (w.alloc (.cells c1 t))) k).size; simp at *)
  rw [h1, (below_drewN (Below.refl (w.heap.size + 1) (w.alloc (.cells c1 t))) k).block _ (by omega)]
  exact heap_alloc_new w _
theorem two_heap2 (w : World) (k : Nat) (c1 c2 : Array Value) (t : TypeId) : (((w.alloc (.cells c1 t)).drewN k).alloc (.cells c2 t)).heap[w.heap.size + 1]? = some (.cells c2 t (0, 0)) := by
  have := heap_alloc_new ((w.alloc (.cells c1 t)).drewN k) (.cells c2 t)
  simpa using this
theorem two_below (w : World) (k : Nat) (c1 c2 : Array Value) (t1 t2 : TypeId) : Below w.heap.size w (((w.alloc (.cells c1 t1)).drewN k).alloc (.cells c2 t2)) :=
  (below_drewN ((Below.refl _ _).alloc (Nat.le_refl _) _) _).alloc (by simp) _

set_option maxHeartbeats 2000000 in
theorem iRatOf_some (u v a d : Nat) (w : World) (hu : u ≤ 4000000000000000000) (hv : v ≤ 4000000000000000000) (h : ratOf u v = some (a, d)) :
    Calls Try.prog 24 #[.int .i64 (u : Int), .int .i64 (v : Int)] w fun e w' => e = .returned (.tuple #[.agg #[.int .i64 (a : Int), .int .i64 (d : Int)], .bool true]) ∧ Below w.heap.size w w' := by
  obtain ⟨hv0, hae, hde, hr⟩ := ratOf_some h
  have hv0' : ((v : Int) == 0) = false := by simp; omega
  have hgp : 1 ≤ Nat.gcd u v := Nat.gcd_pos_of_pos_right _ (by omega)
  have hgl : Nat.gcd u v ≤ v := Nat.gcd_le_right _ (by omega)
  have hal : a ≤ u := by rw [hae]; exact Nat.div_le_self _ _
  have hdl : d ≤ v := by rw [hde]; exact Nat.div_le_self _ _
  have hvp : 1 ≤ v := by omega
  obtain ⟨g, hg⟩ : ∃ g, Nat.gcd u v = g := ⟨_, rfl⟩
  rw [hg] at hae hde hgp hgl
  have e1 : (u : Int) / (g : Int) = (a : Int) := by rw [hae]; omega
  have e2 : (v : Int) / (g : Int) = (d : Int) := by rw [hde]; omega
  have t1 : (u : Int).tdiv (g : Int) = (a : Int) := by rw [Int.tdiv_eq_ediv_of_nonneg (by omega), e1]
  have t2 : (v : Int).tdiv (g : Int) = (d : Int) := by rw [Int.tdiv_eq_ediv_of_nonneg (by omega), e2]
  have HGG := Lib.hid hg
  have w1 : IntKind.i64.wrap (a : Int) = (a : Int) := IntWalk.i64_in _ (by omega)
  have w2 : IntKind.i64.wrap (d : Int) = (d : Int) := IntWalk.i64_in _ (by omega)
  have hgz : ((g : Int) == 0) = false := by simp; omega
  clear hae hde h hv0
  go_enter Try.func24, Try.ntmps24
  go_wp2_with fail
  refine (divisor_nat u v _ hu hv).mono ?_
  rintro e w3 ⟨rfl, k, rfl⟩
  go_wp2_with fail
  go_region
  all_goals
    go_wp2_with fail
    refine (iRatValid_nat a d _ (by omega) (by omega)).mono ?_
    rintro e w5 ⟨rfl, hb5⟩
    have hq1 : w5.heap[w.heap.size]? = some (.cells #[.int .i64 0, .int .i64 0] 32 (0, 0)) := by
      rw [hb5.block w.heap.size (by simp <;> omega)]
      exact two_heap1 w _ _ _ _
    have hq2 : w5.heap[w.heap.size + 1]? = some (.cells #[.int .i64 (a : Int), .int .i64 (d : Int)] 32 (0, 0)) := by
      rw [hb5.block (w.heap.size + 1) (by simp <;> omega)]
      exact two_heap2 w _ _ _ _
    have f1 := frozen_of_row w5 w.heap.size 0 _ _ hq1
    have f2 := frozen_of_row w5 w.heap.size 1 _ _ hq1
    have d1 : w5.cell? ⟨w.heap.size, 0, none⟩ = some (.int .i64 0) := (cell_of_row w5 _ 0 _ _ _ hq1).trans rfl
    have d2 : w5.cell? ⟨w.heap.size, 1, none⟩ = some (.int .i64 0) := (cell_of_row w5 _ 1 _ _ _ hq1).trans rfl
    have d3 : w5.cell? ⟨w.heap.size + 1, 0, none⟩ = some (.int .i64 (a : Int)) := (cell_of_row w5 _ 0 _ _ _ hq2).trans rfl
    have d4 : w5.cell? ⟨w.heap.size + 1, 1, none⟩ = some (.int .i64 (d : Int)) := (cell_of_row w5 _ 1 _ _ _ hq2).trans rfl
    have HB : Below w.heap.size w w5 := (two_below w _ _ _ _ _).trans (hb5.mono (B' := w.heap.size) (by simp <;> omega))
    clear hb5 hq1 hq2
    go_wp2
    exact bodyPost_ret (v := .tuple #[.agg #[.int .i64 (a : Int), .int .i64 (d : Int)], .bool true]) (by simp [results, Try.results24, go_sem, d1, d2]) rfl ⟨rfl, (HB.setCell (Nat.le_refl _) _).setCell (Nat.le_refl _) _⟩

set_option maxHeartbeats 1000000 in
theorem iRatOf_zero (u : Nat) (w : World) :
    Calls Try.prog 24 #[.int .i64 (u : Int), .int .i64 0] w fun e w' => e = .returned (.tuple #[.agg #[.int .i64 0, .int .i64 0], .bool false]) ∧ Below w.heap.size w w' := by
  go_enter Try.func24, Try.ntmps24
  go_wp2
  exact bodyPost_ret (v := .tuple #[.agg #[.int .i64 0, .int .i64 0], .bool false]) (by simp [results, Try.results24, go_sem]) rfl ⟨rfl, (Below.refl _ _).alloc (Nat.le_refl _) _⟩

set_option maxHeartbeats 400000 in
theorem l1Abs_nat (n : Nat) (w : World) (_hn : n ≤ 4000000000000000000) :
    Calls Try.prog 34 #[.int .i64 (n : Int)] w fun e w' => e = .returned (.int .i64 (n : Int)) ∧ w = w' := by
  go_enter Try.func34, Try.ntmps34
  go_wp2
  go_ret
  exact ⟨rfl, rfl⟩

set_option maxHeartbeats 1000000 in
theorem l1Gcd_nat (u v : Nat) (w : World) (hu : u ≤ 4000000000000000000) (hv : v ≤ 4000000000000000000) :
    Calls Try.prog 33 #[.int .i64 (u : Int), .int .i64 (v : Int)] w fun e w' => e = .returned (.int .i64 (Nat.gcd u v : Int)) ∧ w = w' := by
  go_enter Try.func33, Try.ntmps33
  go_wp2
  go_loop [0, 1] (fun x y => ∃ a b : Nat, x = .int .i64 a ∧ y = .int .i64 b ∧ Hid (Nat.gcd a b = Nat.gcd u v) ∧ a ≤ 4000000000000000000 ∧ b ≤ 4000000000000000000) (fun _ y => (intOf y).toNat)
  case atStart => exact ⟨u, v, rfl, rfl, rfl, hu, hv⟩
  case round =>
    obtain ⟨a, b, rfl, rfl, hg, ha, hb⟩ := hrel
    by_cases hb0 : b = 0
    · have hb0' : ((b : Int) != 0) = false := by simp; omega
      have HB := Lib.hid hb0
      clear hb0
      go_wp2
      go_ret
      refine ⟨ret_int ?_, rfl⟩
      rw [← hg.out, HB.out, Nat.gcd_zero_right]
    · have hb0' : ((b : Int) != 0) = true := by simp; omega
      have hb1 : 1 ≤ b := by omega
      have hb2 : (1 : Int) ≤ (b : Int) := by omega
      have t1 : (a : Int) % (b : Int) = ((a % b : Nat) : Int) := by omega
      have hlt : a % b < b := Nat.mod_lt _ hb1
      have HG : Hid (Nat.gcd b (a % b) = Nat.gcd u v) := by show Nat.gcd b (a % b) = _; rw [← hg.out, Nat.gcd_comm b, ← Nat.gcd_rec, Nat.gcd_comm]
      obtain ⟨q, hq⟩ : ∃ q, a % b = q := ⟨_, rfl⟩
      rw [hq] at t1 hlt HG
      have hnz : ((b : Int) == 0) = false := by simp; omega
      have HT := Lib.hid t1
      clear hq hb0 t1
      go_wp2
      go_round
      case rel => exact ⟨b, q, rfl, by rw [HT.out], HG, hb, by omega⟩
      case measure => simp only [intOf]; rw [HT.out]; simp; omega

set_option maxHeartbeats 1000000 in
theorem sRatValid_yes (a d : Nat) (w : World) (hr : ratV a d = true) :
    Calls Try.prog 35 #[.agg #[.int .i64 (a : Int), .int .i64 (d : Int)]] w fun e w' => e = .returned (.bool true) ∧ Below w.heap.size w w' := by
  have hb0 := (Below.refl w.heap.size w).alloc (Nat.le_refl _) (.cells #[.int .i64 (a : Int), .int .i64 (d : Int)] 32)
  obtain ⟨h1, h2, h3, hg⟩ := ratV_parts hr
  have i1 : inB (d : Int) 1 1000000000 = true := inB_t (by omega) (by omega)
  have i2 : inB (a : Int) (-1000000000) 1000000000 = true := inB_t (by omega) (by omega)
  have hg' : ((Nat.gcd a d : Int) == 1) = true := by rw [hg]; rfl
  clear hg
  go_enter Try.func35, Try.ntmps35
  go_wp2_with (go_at_call 25; refine (l6In_any _ _ _ _).mono ?_; rintro e w' ⟨rfl, rfl⟩)
  go_quiet (first | (go_at_call 34; exact quiet_left (l1Abs_nat a _ (by omega))) | (go_at_call 33; exact quiet_left (l1Gcd_nat a d _ (by omega) (by omega))))
  go_wp2
  go_ret
  exact ⟨rfl, below_drewN hb0 _⟩
set_option maxHeartbeats 2000000 in
theorem l1Make_some (u v a d : Nat) (w : World) (hu : u ≤ 4000000000000000000) (hv : v ≤ 4000000000000000000) (h : ratOf u v = some (a, d)) :
    Calls Try.prog 30 #[.int .i64 (u : Int), .int .i64 (v : Int)] w fun e w' => e = .returned (.tuple #[.agg #[.int .i64 (a : Int), .int .i64 (d : Int)], .bool true]) ∧ Below w.heap.size w w' := by
  obtain ⟨hv0, hae, hde, hr⟩ := ratOf_some h
  have hv0' : ((v : Int) == 0) = false := by simp; omega
  have hgp : 1 ≤ Nat.gcd u v := Nat.gcd_pos_of_pos_right _ (by omega)
  have hgl : Nat.gcd u v ≤ v := Nat.gcd_le_right _ (by omega)
  have hal : a ≤ u := by rw [hae]; exact Nat.div_le_self _ _
  have hdl : d ≤ v := by rw [hde]; exact Nat.div_le_self _ _
  have hvp : 1 ≤ v := by omega
  obtain ⟨g, hg⟩ : ∃ g, Nat.gcd u v = g := ⟨_, rfl⟩
  rw [hg] at hae hde hgp hgl
  have e1 : (u : Int) / (g : Int) = (a : Int) := by rw [hae]; omega
  have e2 : (v : Int) / (g : Int) = (d : Int) := by rw [hde]; omega
  have t1 : (u : Int).tdiv (g : Int) = (a : Int) := by rw [Int.tdiv_eq_ediv_of_nonneg (by omega), e1]
  have t2 : (v : Int).tdiv (g : Int) = (d : Int) := by rw [Int.tdiv_eq_ediv_of_nonneg (by omega), e2]
  have HGG := Lib.hid hg
  have w1 : IntKind.i64.wrap (a : Int) = (a : Int) := IntWalk.i64_in _ (by omega)
  have w2 : IntKind.i64.wrap (d : Int) = (d : Int) := IntWalk.i64_in _ (by omega)
  have hgz : ((g : Int) == 0) = false := by simp; omega
  have HRV := Lib.hid hr
  clear hae hde h hv0 hr
  go_enter Try.func30, Try.ntmps30
  go_wp2_with fail
  refine (l1Abs_nat u _ hu).mono ?_
  rintro e w3 ⟨rfl, rfl⟩
  go_wp2_with fail
  refine (l1Abs_nat v _ hv).mono ?_
  rintro e w3 ⟨rfl, rfl⟩
  go_wp2_with fail
  refine (l1Gcd_nat u v _ hu hv).mono ?_
  rintro e w3 ⟨rfl, rfl⟩
  go_wp2_with fail
  go_region
  all_goals
    go_wp2_with fail
    refine (sRatValid_yes a d _ HRV.out).mono ?_
    rintro e w5 ⟨rfl, hb5⟩
    have hq1 : w5.heap[w.heap.size]? = some (.cells #[.int .i64 0, .int .i64 0] 32 (0, 0)) := by
      rw [hb5.block w.heap.size (by simp <;> omega)]
      exact two_heap1 w 1 _ _ _
    have hq2 : w5.heap[w.heap.size + 1]? = some (.cells #[.int .i64 (a : Int), .int .i64 (d : Int)] 32 (0, 0)) := by
      rw [hb5.block (w.heap.size + 1) (by simp <;> omega)]
      exact two_heap2 w 1 _ _ _
    have f1 := frozen_of_row w5 w.heap.size 0 _ _ hq1
    have f2 := frozen_of_row w5 w.heap.size 1 _ _ hq1
    have d1 : w5.cell? ⟨w.heap.size, 0, none⟩ = some (.int .i64 0) := (cell_of_row w5 _ 0 _ _ _ hq1).trans rfl
    have d2 : w5.cell? ⟨w.heap.size, 1, none⟩ = some (.int .i64 0) := (cell_of_row w5 _ 1 _ _ _ hq1).trans rfl
    have d3 : w5.cell? ⟨w.heap.size + 1, 0, none⟩ = some (.int .i64 (a : Int)) := (cell_of_row w5 _ 0 _ _ _ hq2).trans rfl
    have d4 : w5.cell? ⟨w.heap.size + 1, 1, none⟩ = some (.int .i64 (d : Int)) := (cell_of_row w5 _ 1 _ _ _ hq2).trans rfl
    have HB : Below w.heap.size w w5 := (two_below w 1 _ _ _ _).trans (hb5.mono (B' := w.heap.size) (by simp <;> omega))
    clear hb5 hq1 hq2
    go_wp2
    exact bodyPost_ret (v := .tuple #[.agg #[.int .i64 (a : Int), .int .i64 (d : Int)], .bool true]) (by simp [results, Try.results30, go_sem, d1, d2]) rfl ⟨rfl, (HB.setCell (Nat.le_refl _) _).setCell (Nat.le_refl _) _⟩

set_option maxHeartbeats 1000000 in
theorem sRatOf_some (u v a d : Nat) (w : World) (hu : u ≤ 4000000000000000000) (hv : v ≤ 4000000000000000000) (h : ratOf u v = some (a, d)) :
    Calls Try.prog 26 #[.int .i64 (u : Int), .int .i64 (v : Int)] w fun e w' => e = .returned (.tuple #[.agg #[.int .i64 (a : Int), .int .i64 (d : Int)], .bool true]) ∧ Below w.heap.size w w' := by
  have hv0 := (ratOf_some h).1
  have hv0' : ((v : Int) == 0) = false := by simp; omega
  have i1 : inB (u : Int) (-4000000000000000000) 4000000000000000000 = true := inB_t (by omega) (by omega)
  have i2 : inB (v : Int) (-4000000000000000000) 4000000000000000000 = true := inB_t (by omega) (by omega)
  have HH := Lib.hid h
  clear hv0 h
  go_enter Try.func26, Try.ntmps26
  go_wp2_with (go_at_call 25; refine (l6In_any _ _ _ _).mono ?_; rintro e w' ⟨rfl, rfl⟩)
  refine (l1Make_some u v a d _ hu hv HH.out).mono ?_
  rintro e w5 ⟨rfl, hb5⟩
  have hq1 : w5.heap[w.heap.size]? = some (.cells #[.int .i64 0, .int .i64 0] 32 (0, 0)) := by
    rw [hb5.block w.heap.size (by simp)]
    exact heap_alloc_new w _
  have f1 := frozen_of_row w5 w.heap.size 0 _ _ hq1
  have f2 := frozen_of_row w5 w.heap.size 1 _ _ hq1
  have d1 : w5.cell? ⟨w.heap.size, 0, none⟩ = some (.int .i64 0) := (cell_of_row w5 _ 0 _ _ _ hq1).trans rfl
  have d2 : w5.cell? ⟨w.heap.size, 1, none⟩ = some (.int .i64 0) := (cell_of_row w5 _ 1 _ _ _ hq1).trans rfl
  have HB : Below w.heap.size w w5 := ((Below.refl _ _).alloc (Nat.le_refl _) _).trans (hb5.mono (B' := w.heap.size) (by simp))
  clear hb5 hq1
  go_wp2
  exact bodyPost_ret (v := .tuple #[.agg #[.int .i64 (a : Int), .int .i64 (d : Int)], .bool true]) (by simp [results, Try.results26, go_sem, d1, d2]) rfl ⟨rfl, (HB.setCell (Nat.le_refl _) _).setCell (Nat.le_refl _) _⟩

set_option maxHeartbeats 1000000 in
theorem sRatOf_zero (u : Nat) (w : World) :
    Calls Try.prog 26 #[.int .i64 (u : Int), .int .i64 0] w fun e w' => e = .returned (.tuple #[.agg #[.int .i64 0, .int .i64 0], .bool false]) ∧ Below w.heap.size w w' := by
  go_enter Try.func26, Try.ntmps26
  go_wp2
  exact bodyPost_ret (v := .tuple #[.agg #[.int .i64 0, .int .i64 0], .bool false]) (by simp [results, Try.results26, go_sem]) rfl ⟨rfl, (Below.refl _ _).alloc (Nat.le_refl _) _⟩
end Go.Proofs.Ytddchlfhjiimcaa
