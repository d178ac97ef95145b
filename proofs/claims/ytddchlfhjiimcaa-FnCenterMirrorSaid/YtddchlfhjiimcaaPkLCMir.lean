/- The walk of the law FnCenterMirror. -/
import Derived.Test.YtddchlfhjiimcaaPkCenMir
import Derived.Deep.RegionWith
set_option linter.unusedVariables false
namespace Go.Proofs.Ytddchlfhjiimcaa
open Go.RowKit Pk

set_option maxHeartbeats 400000 in
theorem whole_is (n : Int) (x : Nat) (w : World) (h : n = (x : Int)) :
    Calls Try.prog 15 #[.int .i64 n] w fun e w' => e = .returned (.agg #[.int .i64 (x : Int), .int .i64 1]) ∧ w' = w.alloc (.cells #[.int .i64 (x : Int), .int .i64 1] 32) := by
  subst h
  go_enter Try.func15, Try.ntmps15
  go_wp2
  exact bodyPost_ret (v := .agg #[.int .i64 (x : Int), .int .i64 1]) (by simp [results, Try.results15, go_sem]) rfl ⟨rfl, rfl⟩
set_option maxRecDepth 100000 in
set_option maxHeartbeats 8000000 in
theorem fnCenterMirror_walk (A : Option Addr) (n c : Nat) (bs : List Int) (w : World) (h : BSl w w.heap.size A n c bs) :
    Calls Try.prog 4 #[.slice A n c] w fun e w' => e = .returned (.bool true) ∧ Below w.heap.size w w' := by
  by_cases hbig : 1048576 < n
  · go_enter Try.func4, Try.ntmps4
    go_wp2
    go_ret
    exact ⟨rfl, Below.refl _ _⟩
  have hn : n ≤ 16777216 := by omega
  go_enter Try.func4, Try.ntmps4
  go_wp2_with fail
  refine (DrawPeakCenter_any _ _ _ _ _ h hn).mono ?_
  rintro e w1 ⟨C, m, cc, zs, at1, half, rfl, hD, hat, hhalf, hb1⟩
  have hm := hD.few
  have i1 := ISl.of_own hD.own hD.inI
  have HZ := Lib.hid i1.len
  have hs1 := hb1.size
  obtain ⟨x, y, b, hme⟩ := cenIs_ex zs at1 half
  go_wp2_with fail
  refine (iPeakCenter_is _ _ _ _ at1 half x y b _ hme i1 (by omega)).mono ?_
  rintro e w2 ⟨rfl, hb2⟩
  have hT2 := Below.step hb1 hb2
  have hsz2 := hb2.size
  obtain ⟨O1, hO1⟩ : ∃ O, Obj.cells #[Value.int .i64 x, Value.int .i64 y] 32 = O := ⟨_, rfl⟩
  have ha2 := (Below.refl w2.heap.size w2).alloc (Nat.le_refl _) O1
  have hT2' := Below.step hT2 ha2
  have i2 := ((i1.below hb2).more hb2.size).below ha2
  have o2 := own_below (own_below hD.own hb2) ha2
  have hn2 := heap_alloc_new w2 O1
  have hs2 : (w2.alloc O1).heap.size = w2.heap.size + 1 := by simp
  obtain ⟨w3, hw3⟩ : ∃ W, w2.alloc O1 = W := ⟨_, rfl⟩
  rw [hw3] at hT2' hn2 hs2 i2 o2
  rw [← hO1] at hn2 hw3
  have hs2' : w2.heap.size < w3.heap.size := by omega
  clear hs2 hO1 ha2
  go_wp2_with fail
  clear hw3
  refine (sPeakCenter_is _ _ _ _ at1 half x y b _ hme (i2.more (by omega)) (by omega)).mono ?_
  rintro e w4 ⟨rfl, hb4⟩
  have hT4 := Below.step hT2' hb4
  have hs4 := hb4.size
  have i4 := (i2.more (show w2.heap.size ≤ w3.heap.size by omega)).below hb4
  have o4 := own_below o2 hb4
  have hn4 := (hb4.block w2.heap.size (by omega)).trans hn2
  have c41 := (cell_of_row w4 w2.heap.size 0 _ _ _ hn4).trans rfl
  have c42 := (cell_of_row w4 w2.heap.size 1 _ _ _ hn4).trans rfl
  have hlt4 : w2.heap.size < w4.heap.size := by omega
  rcases b with _ | _
  · clear i4 o4 hn4 hn2
    go_wp2
    go_ret
    exact ⟨rfl, Below.step hT4 ((Below.refl _ _).alloc (Nat.le_refl _) _)⟩
  obtain ⟨k, q, hok, rfl, hkm, rfl, hq, hcase⟩ : ∃ k q : Nat, cOk zs = true ∧ at1 = (k : Int) ∧ k < m ∧ half = (q : Int) ∧ q ≤ 200 ∧ ∃ p d : Nat, x = p ∧ y = d ∧ ratOf (cW zs k q) (cT zs k q) = some (p, d) := by
    rcases hme with ⟨k, q, h1, h2, h3, h4, h5, h6⟩ | ⟨_, _, _, hb⟩
    · rcases h6 with ⟨p, d, e1, e2, _, e4⟩ | ⟨_, _, _, hb⟩
      · exact ⟨k, q, h1, h2, by rw [← HZ.out]; exact h3, h4, h5, p, d, e1, e2, e4⟩
      · cases hb
    · cases hb
  obtain ⟨p, d, rfl, rfl, hrat⟩ := hcase
  have HRAT := Lib.hid hrat
  have hm0 : 0 < m := by omega
  obtain ⟨O2, hO2⟩ : ∃ O, Obj.cells #[Value.int .i64 (p : Int), Value.int .i64 (d : Int)] 32 = O := ⟨_, rfl⟩
  have ha4 := (Below.refl w4.heap.size w4).alloc (Nat.le_refl _) O2
  have hT5 := Below.step hT4 ha4
  have i5 := ((i4.more (show w3.heap.size ≤ w4.heap.size by omega)).below ha4)
  have hn5 := (ha4.block w2.heap.size (by omega)).trans hn4
  have hs5 : (w4.alloc O2).heap.size = w4.heap.size + 1 := by simp
  obtain ⟨w5, hw5⟩ : ∃ W, w4.alloc O2 = W := ⟨_, rfl⟩
  have hm5 := heap_alloc_new w4 O2
  rw [hw5] at hT5 i5 hn5 hs5 hm5
  rw [← hO2] at hw5 hm5
  have d51 : w5.cell? ⟨w2.heap.size, 0, none⟩ = some (.int .i64 (p : Int)) := (cell_of_row w5 _ 0 _ _ _ hn5).trans rfl
  have d52 : w5.cell? ⟨w2.heap.size, 1, none⟩ = some (.int .i64 (d : Int)) := (cell_of_row w5 _ 1 _ _ _ hn5).trans rfl
  have d53 : w5.cell? ⟨w4.heap.size, 0, none⟩ = some (.int .i64 (p : Int)) := (cell_of_row w5 _ 0 _ _ _ hm5).trans rfl
  have d54 : w5.cell? ⟨w4.heap.size, 1, none⟩ = some (.int .i64 (d : Int)) := (cell_of_row w5 _ 1 _ _ _ hm5).trans rfl
  have hs5' : w4.heap.size < w5.heap.size := by omega
  have hs5'' : w2.heap.size < w5.heap.size := by omega
  clear hs5 hO2 ha4 hrat hme hn4 hn2 i4 i2 o2 o4 hm5
  have hlm := cOk_len hok
  rw [HZ.out] at hlm
  have hkz : k < zs.length := by rw [HZ.out]; exact hkm
  obtain ⟨hmT, hmW⟩ := cen_mirror (q := q) hkz
  have hbd := cW_bd (q := q) (cOk_rev hok) (show zs.length - 1 - k < zs.reverse.length by rw [List.length_reverse]; omega)
  have hT0 : cT zs k q ≠ 0 := (ratOf_some HRAT.out).1
  obtain ⟨p', d', hr'⟩ := ratOf_small (u := cW zs.reverse (zs.length - 1 - k) q) (v := cT zs.reverse (zs.length - 1 - k) q) (by rw [hmT]; exact hT0) (by omega) (by omega)
  obtain ⟨M, hM⟩ : ∃ M, zs.length - 1 = M := ⟨_, rfl⟩
  have hMe : (m : Int) - 1 = (M : Int) := by have := HZ.out; omega
  have hMb : M ≤ 1000 := by have := HZ.out; omega
  have hc2 : CenIs zs.reverse ((m : Int) - 1 - (k : Int)) (q : Int) (p' : Int) (d' : Int) true := .inl ⟨zs.length - 1 - k, q, cOk_rev hok, by rw [HZ.out]; omega, by rw [List.length_reverse]; omega, rfl, hq, .inl ⟨p', d', rfl, rfl, rfl, hr'⟩⟩
  rw [hmT] at hr'
  have hmW2 : cW zs.reverse (zs.length - 1 - k) q + cW zs k q = M * cT zs k q := by rw [← hM]; exact hmW
  have HV1 : Hid (ratV p d = true) := (ratOf_some HRAT.out).2.2.2
  have HV2 : Hid (ratV p' d' = true) := (ratOf_some hr').2.2.2
  have HSUM : Hid (ratOf (p' * d + p * d') (d' * d) = some (M, 1)) := ratOf_sum HRAT.out hr' hmW2 hMb
  have HC2 := Lib.hid hc2
  have HMe := Lib.hid hMe
  clear hmT hmW hmW2 hbd hT0 hr' hM hc2 hMe
  go_wp2_with fail
  clear hw5
  refine (mirrored_any _ _ _ _ _ (i5.more (by omega)) (by omega)).mono ?_
  rintro e w6 ⟨D, dc, rfl, o6, hb6⟩
  have hT6 := Below.step hT5 hb6
  have hs6 := hb6.size
  have hini : Hid (∀ z ∈ zs.reverse, InI z) := by
    intro z hz
    exact hD.inI z (List.mem_reverse.1 hz)
  have j6 := ISl.of_own o6 hini.out
  have hn6 := (hb6.block w2.heap.size (by omega)).trans hn5
  go_wp2_with fail
  refine (iPeakCenter_is _ _ _ _ ((m : Int) - 1 - (k : Int)) (q : Int) _ _ true _ HC2.out j6 (by omega)).mono ?_
  rintro e w7 ⟨rfl, hb7⟩
  have hT7 := Below.step hT6 hb7
  have hs7 := hb7.size
  have hn7 := (hb7.block w2.heap.size (by omega)).trans hn6
  obtain ⟨O3, hO3⟩ : ∃ O, Obj.cells #[Value.int .i64 (p' : Int), Value.int .i64 (d' : Int)] 32 = O := ⟨_, rfl⟩
  have ha7 := (Below.refl w7.heap.size w7).alloc (Nat.le_refl _) O3
  have hT8 := Below.step hT7 ha7
  have hn8 := (ha7.block w2.heap.size (by omega)).trans hn7
  have hm8 := heap_alloc_new w7 O3
  have hs8 : (w7.alloc O3).heap.size = w7.heap.size + 1 := by simp
  obtain ⟨w8, hw8⟩ : ∃ W, w7.alloc O3 = W := ⟨_, rfl⟩
  rw [hw8] at hT8 hn8 hs8 hm8
  rw [← hO3] at hw8 hm8
  have hs8' : w7.heap.size < w8.heap.size := by omega
  have d81 : w8.cell? ⟨w2.heap.size, 0, none⟩ = some (.int .i64 (p : Int)) := (cell_of_row w8 _ 0 _ _ _ hn8).trans rfl
  have d82 : w8.cell? ⟨w2.heap.size, 1, none⟩ = some (.int .i64 (d : Int)) := (cell_of_row w8 _ 1 _ _ _ hn8).trans rfl
  have d83 : w8.cell? ⟨w7.heap.size, 0, none⟩ = some (.int .i64 (p' : Int)) := (cell_of_row w8 _ 0 _ _ _ hm8).trans rfl
  have d84 : w8.cell? ⟨w7.heap.size, 1, none⟩ = some (.int .i64 (d' : Int)) := (cell_of_row w8 _ 1 _ _ _ hm8).trans rfl
  clear hs8 hO3 ha7 hn5 hn6 hn7 hn8 hm8 i5 j6 o6
  go_wp2_with fail
  clear hw8
  refine (ratAdd_some p' d' p d M 1 _ HV2.out HV1.out HSUM.out).mono ?_
  rintro e w9 ⟨rfl, hb9⟩
  have hT9 := Below.step hT8 hb9
  have hs9 := hb9.size
  clear d81 d82 d83 d84 d51 d52 d53 d54
  have u1 : IntKind.i64.wrap ((m : Int) - 1) = (m : Int) - 1 := IntWalk.i64_in _ (by omega)
  go_wp2_with fail
  go_region_with (go_at_call 15; refine (whole_is _ M _ HMe.out).mono ?_; rintro e w' ⟨rfl, rfl⟩)
  all_goals
    clear u1
    go_wp2
    go_ret
    exact ⟨rfl, Below.step hT9 (by first | exact (((Below.refl _ _).alloc (Nat.le_refl _) _).drew).alloc (by simp) _ | exact (((Below.refl _ _).alloc (Nat.le_refl _) _).alloc (by simp) _).drew)⟩
end Go.Proofs.Ytddchlfhjiimcaa
