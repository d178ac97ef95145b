/- The walk of the law FnCenterTwice. -/
import Derived.Test.YthogcokapppidabPkHelp
import Derived.Test.YthogcokapppidabPkCenterNo
import Derived.Deep.RegionHeld3
namespace Go.Proofs.Ythogcokapppidab
open Go.RowKit Pk

theorem ratOf_twice (u v : Nat) : ratOf (2 * u) (2 * v) = ratOf u v := by
  unfold ratOf
  rw [Nat.gcd_mul_left, Nat.mul_div_mul_left _ _ (by omega), Nat.mul_div_mul_left _ _ (by omega)]
  by_cases h : v = 0
  · simp [h]
  · rw [if_neg h, if_neg (by omega)]
theorem wS_twice {f g : Nat → Nat} (h : ∀ i, g i = 2 * f i) (lo q : Nat) : wS g lo q = 2 * wS f lo q ∧ tS g lo q = 2 * tS f lo q := by
  induction q with
  | zero => exact ⟨rfl, rfl⟩
  | succ q ih =>
    unfold wS tS; rw [ih.1, ih.2, h q]
    split
    · exact ⟨by rw [Nat.mul_left_comm]; omega, by omega⟩
    · exact ⟨by omega, by omega⟩
theorem c_twice {zs : List Int} (h : cOk zs = true) (k q : Nat) : cW (zs.map (2 * ·)) k q = 2 * cW zs k q ∧ cT (zs.map (2 * ·)) k q = 2 * cT zs k q := by
  unfold cW cT
  rw [List.length_map]
  exact wS_twice (fun i => by unfold cN; rw [g_twice]; have := cOk_at h i; omega) _ _

set_option maxRecDepth 100000 in
set_option maxHeartbeats 8000000 in
theorem fnCenterTwice_walk (A : Option Addr) (n c : Nat) (bs : List Int) (w : World) (h : BSl w w.heap.size A n c bs) :
    Calls Try.prog 10 #[.slice A n c] w fun e w' => e = .returned (.bool true) ∧ Below w.heap.size w w' := by
  by_cases hbig : 1048576 < n
  · go_enter Try.func10, Try.ntmps10
    go_wp2
    go_ret
    exact ⟨rfl, Below.refl _ _⟩
  have hn : n ≤ 16777216 := by omega
  go_enter Try.func10, Try.ntmps10
  go_wp2_with fail
  refine (DrawPeakCenter_any _ _ _ _ _ h hn).mono ?_
  rintro e w1 ⟨C, m, cc, zs, at1, half, rfl, hD, hat, hhalf, hb1⟩
  have hm := hD.few
  have i1 := ISl.of_own hD.own hD.inI
  have HZ := Lib.hid i1.len
  have hs1 := hb1.size
  obtain ⟨x, y, b, hme⟩ := cenIs_ex zs at1 half
  go_wp2_with fail
  refine (iPeakCenter_is _ _ _ _ at1 half x y b _ hme i1 (by omega)).mono ?_
  rintro e w2 ⟨rfl, hb2⟩
  have hT2 := Below.step hb1 hb2
  have hsz2 := hb2.size
  obtain ⟨O1, hO1⟩ : ∃ O, Obj.cells #[Value.int .i64 x, Value.int .i64 y] 32 = O := ⟨_, rfl⟩
  have ha2 := (Below.refl w2.heap.size w2).alloc (Nat.le_refl _) O1
  have hT2' := Below.step hT2 ha2
  have i2 := ((i1.below hb2).more hb2.size).below ha2
  have o2 := own_below (own_below hD.own hb2) ha2
  have hn2 := heap_alloc_new w2 O1
  have hs2 : (w2.alloc O1).heap.size = w2.heap.size + 1 := by simp
  obtain ⟨w3, hw3⟩ : ∃ W, w2.alloc O1 = W := ⟨_, rfl⟩
  rw [hw3] at hT2' hn2 hs2 i2 o2
  rw [← hO1] at hn2 hw3
  have hs2' : w2.heap.size < w3.heap.size := by omega
  clear hs2 hO1 ha2
  go_wp2_with fail
  clear hw3
  refine (sPeakCenter_is _ _ _ _ at1 half x y b _ hme (i2.more (by omega)) (by omega)).mono ?_
  rintro e w4 ⟨rfl, hb4⟩
  have hT4 := Below.step hT2' hb4
  have hs4 := hb4.size
  have i4 := (i2.more (show w2.heap.size ≤ w3.heap.size by omega)).below hb4
  have o4 := own_below o2 hb4
  have hn4 := (hb4.block w2.heap.size (by omega)).trans hn2
  have c41 := (cell_of_row w4 w2.heap.size 0 _ _ _ hn4).trans rfl
  have c42 := (cell_of_row w4 w2.heap.size 1 _ _ _ hn4).trans rfl
  have hlt4 : w2.heap.size < w4.heap.size := by omega
  rcases b with _ | _
  · clear i4 o4 hn4 hn2
    go_wp2
    go_ret
    exact ⟨rfl, Below.step hT4 ((Below.refl _ _).alloc (Nat.le_refl _) _)⟩
  obtain ⟨k, q, hok, rfl, hkm, rfl, hq, hcase⟩ : ∃ k q : Nat, cOk zs = true ∧ at1 = (k : Int) ∧ k < m ∧ half = (q : Int) ∧ q ≤ 200 ∧ ∃ p d : Nat, x = p ∧ y = d ∧ ratOf (cW zs k q) (cT zs k q) = some (p, d) := by
    rcases hme with ⟨k, q, h1, h2, h3, h4, h5, h6⟩ | ⟨_, _, _, hb⟩
    · rcases h6 with ⟨p, d, e1, e2, _, e4⟩ | ⟨_, _, _, hb⟩
      · exact ⟨k, q, h1, h2, by rw [← HZ.out]; exact h3, h4, h5, p, d, e1, e2, e4⟩
      · cases hb
    · cases hb
  obtain ⟨p, d, rfl, rfl, hrat⟩ := hcase
  have HRAT := Lib.hid hrat
  have hm0 : 0 < m := by omega
  obtain ⟨O2, hO2⟩ : ∃ O, Obj.cells #[Value.int .i64 (p : Int), Value.int .i64 (d : Int)] 32 = O := ⟨_, rfl⟩
  have ha4 := (Below.refl w4.heap.size w4).alloc (Nat.le_refl _) O2
  have hT5 := Below.step hT4 ha4
  have i5 := ((i4.more (show w3.heap.size ≤ w4.heap.size by omega)).below ha4)
  have hn5 := (ha4.block w2.heap.size (by omega)).trans hn4
  have hs5 : (w4.alloc O2).heap.size = w4.heap.size + 1 := by simp
  obtain ⟨w5, hw5⟩ : ∃ W, w4.alloc O2 = W := ⟨_, rfl⟩
  have hm5 := heap_alloc_new w4 O2
  rw [hw5] at hT5 i5 hn5 hs5 hm5
  rw [← hO2] at hw5 hm5
  have d51 : w5.cell? ⟨w2.heap.size, 0, none⟩ = some (.int .i64 (p : Int)) := (cell_of_row w5 _ 0 _ _ _ hn5).trans rfl
  have d52 : w5.cell? ⟨w2.heap.size, 1, none⟩ = some (.int .i64 (d : Int)) := (cell_of_row w5 _ 1 _ _ _ hn5).trans rfl
  have d53 : w5.cell? ⟨w4.heap.size, 0, none⟩ = some (.int .i64 (p : Int)) := (cell_of_row w5 _ 0 _ _ _ hm5).trans rfl
  have d54 : w5.cell? ⟨w4.heap.size, 1, none⟩ = some (.int .i64 (d : Int)) := (cell_of_row w5 _ 1 _ _ _ hm5).trans rfl
  have hs5' : w4.heap.size < w5.heap.size := by omega
  have hs5'' : w2.heap.size < w5.heap.size := by omega
  clear hs5 hO2 ha4 hrat hme hn4 hn2 i4 i2 o2 o4 hm5
  have hB : Hid (peakBest zs = (argm zs m : Int)) := by
    show peakBest zs = _
    unfold peakBest; rw [if_pos ⟨hok, by rintro rfl; have := HZ.out; simp at this; omega⟩, HZ.out]
  have hbm : argm zs m < m := by have := argm_lt zs m; omega
  have hmx := Lib.hid (argm_max zs m)
  obtain ⟨b, hbe⟩ : ∃ b, argm zs m = b := ⟨_, rfl⟩
  rw [hbe] at hB hbm hmx
  have hlm := cOk_len hok
  rw [HZ.out] at hlm
  have hgb := cOk_at hok b
  clear hbe
  go_wp2_with fail
  clear hw5
  refine (iPeakBest_of _ _ _ w5.heap.size _ _ b hB.out (i5.more (by omega)) (by omega)).mono ?_
  rintro e wX ⟨rfl, rfl⟩
  go_wp2_with fail
  refine (doubled_any _ _ _ _ _ (i5.more (by omega)) (by omega) hok).mono ?_
  rintro e w6 ⟨D, dc, rfl, o6, hb6⟩
  have hT6 := Below.step hT5 hb6
  have hs6 := hb6.size
  have hini : Hid (∀ z ∈ zs.map (2 * ·), InI z) := by
    intro z hz
    obtain ⟨i, hi, rfl⟩ := List.getElem_of_mem hz
    have h1 := g_twice zs i
    rw [gI_lt hi] at h1
    have := cOk_at hok i
    unfold InI; omega
  have j6 := ISl.of_own o6 hini.out
  have i6 := (i5.more (show w4.heap.size ≤ w5.heap.size by omega)).below hb6
  have hn6 := (hb6.block w2.heap.size (by omega)).trans hn5
  by_cases hgt : 9999 < 2 * gI zs b
  · obtain ⟨u, v, b2, hc2⟩ := cenIs_ex (zs.map (2 * ·)) (k : Int) (q : Int)
    go_wp2_with fail
    refine (iPeakCenter_is _ _ _ _ (k : Int) (q : Int) u v b2 _ hc2 j6 (by omega)).mono ?_
    rintro e w7 ⟨rfl, hb7⟩
    have hT7 := Below.step hT6 hb7
    have hs7 := hb7.size
    obtain ⟨bb, off, rfl, hbB, hkz, hc⟩ := i6.at_ hbm
    have hck : (w7.alloc (.cells #[.int .i64 u, .int .i64 v] 32)).cell? ⟨bb, off + b, none⟩ = some (.int .i64 (gI zs b)) := by
      rw [(((Below.refl w7.heap.size w7).alloc (Nat.le_refl _) _).cell (p := ⟨bb, off + b, none⟩) (show bb < w7.heap.size by omega)), (hb7.cell (p := ⟨bb, off + b, none⟩) (show bb < w6.heap.size by omega)), hc b hbm]
    clear hc hkz
    go_wp2
    go_ret
    exact ⟨rfl, Below.step hT7 ((Below.refl _ _).alloc (Nat.le_refl _) _)⟩
  · have hok2 : cOk (zs.map (2 * ·)) = true := by
      refine cOk_mk (by simpa using cOk_len hok) fun i hi => ?_
      rw [g_twice]
      have h1 := cOk_at hok i
      have h2 := hmx.out.1 i (by rw [← HZ.out]; simpa using hi)
      omega
    have hc2 : CenIs (zs.map (2 * ·)) (k : Int) (q : Int) (p : Int) (d : Int) true := .inl ⟨k, q, hok2, rfl, by rw [List.length_map, HZ.out]; exact hkm, rfl, hq, .inl ⟨p, d, rfl, rfl, rfl, by rw [(c_twice hok k q).1, (c_twice hok k q).2, ratOf_twice]; exact HRAT.out⟩⟩
    have HC2 := Lib.hid hc2
    obtain ⟨pw, hpw⟩ : ∃ v, peakWidth zs (k : Int) = v := ⟨_, rfl⟩
    have HPW := Lib.hid hpw
    have HPW2 : Hid (peakWidth (zs.map (2 * ·)) (k : Int) = pw) := by show peakWidth _ _ = _; rw [peakWidth_twice _ hok hok2]; exact hpw
    have hpe : (pw == pw) = true := by simp
    clear hc2 hpw
    go_wp2_with fail
    refine (iPeakCenter_is _ _ _ _ (k : Int) (q : Int) _ _ true _ HC2.out j6 (by omega)).mono ?_
    rintro e w7 ⟨rfl, hb7⟩
    have hT7 := Below.step hT6 hb7
    have hs7 := hb7.size
    have i7 := i6.below (hb7.mono (show w5.heap.size ≤ w6.heap.size by omega))
    have hn7 := (hb7.block w2.heap.size (by omega)).trans hn6
    obtain ⟨O3, hO3⟩ : ∃ O, Obj.cells #[Value.int .i64 (p : Int), Value.int .i64 (d : Int)] 32 = O := ⟨_, rfl⟩
    have ha7 := (Below.refl w7.heap.size w7).alloc (Nat.le_refl _) O3
    have hT8 := Below.step hT7 ha7
    have i8 := i7.below (ha7.mono (show w5.heap.size ≤ w7.heap.size by omega))
    have hn8 := (ha7.block w2.heap.size (by omega)).trans hn7
    have hm8 := heap_alloc_new w7 O3
    have hs8 : (w7.alloc O3).heap.size = w7.heap.size + 1 := by simp
    obtain ⟨w8, hw8⟩ : ∃ W, w7.alloc O3 = W := ⟨_, rfl⟩
    rw [hw8] at hT8 i8 hn8 hs8 hm8
    rw [← hO3] at hw8 hm8
    have hs8' : w7.heap.size < w8.heap.size := by omega
    have hs8'' : w2.heap.size < w8.heap.size := by omega
    obtain ⟨bb, off, rfl, hbB, hkz, hc⟩ := i8.at_ hbm
    have hck := hc b hbm
    have d81 : w8.cell? ⟨w2.heap.size, 0, none⟩ = some (.int .i64 (p : Int)) := (cell_of_row w8 _ 0 _ _ _ hn8).trans rfl
    have d82 : w8.cell? ⟨w2.heap.size, 1, none⟩ = some (.int .i64 (d : Int)) := (cell_of_row w8 _ 1 _ _ _ hn8).trans rfl
    have d83 : w8.cell? ⟨w7.heap.size, 0, none⟩ = some (.int .i64 (p : Int)) := (cell_of_row w8 _ 0 _ _ _ hm8).trans rfl
    have d84 : w8.cell? ⟨w7.heap.size, 1, none⟩ = some (.int .i64 (d : Int)) := (cell_of_row w8 _ 1 _ _ _ hm8).trans rfl
    clear hc hkz hs8 hO3 ha7 hn5 hn6 hn7 hn8 hm8 i6 i7
    go_wp2_with fail
    clear hw8
    refine (doubled_any _ _ _ _ _ (i8.more (by omega)) (by omega) hok).mono ?_
    rintro e w9 ⟨E, ec, rfl, o9, hb9⟩
    have hT9 := Below.step hT8 hb9
    have hs9 := hb9.size
    have i9 := (i8.more (show w5.heap.size ≤ w8.heap.size by omega)).below hb9
    go_wp2_with fail
    refine (iPeakWidth_of _ _ _ _ _ _ pw HPW2.out (ISl.of_own o9 hini.out) (by omega)).mono ?_
    rintro e w10 ⟨rfl, hb10⟩
    have hT10 := Below.step hT9 hb10
    have i10 := (i9.more (show w8.heap.size ≤ w9.heap.size by omega)).below hb10
    go_wp2_with fail
    refine (iPeakWidth_of _ _ _ _ _ _ pw HPW.out (i10.more hb10.size) (by omega)).mono ?_
    rintro e w11 ⟨rfl, hb11⟩
    go_wp2
    go_ret
    exact ⟨rfl, Below.step hT10 hb11⟩
end Go.Proofs.Ythogcokapppidab
