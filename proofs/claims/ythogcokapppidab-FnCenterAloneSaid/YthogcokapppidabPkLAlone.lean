/- The walk of the law FnCenterAlone. -/
import Derived.Test.YthogcokapppidabPkHelp
import Derived.Test.YthogcokapppidabPkCenterNo
import Derived.Deep.RegionHeld3
namespace Go.Proofs.Ythogcokapppidab
open Go.RowKit Pk

theorem cen_alone {zs : List Int} {k : Nat} (h : cOk zs = true) (hk : k < zs.length) : cW zs k 0 = k * cN zs k ∧ cT zs k 0 = cN zs k := by
  have e1 : cLo k 0 = k := by unfold cLo; omega
  have e2 : cHi k 0 zs.length = k + 1 := by unfold cHi; rw [if_pos (by omega)]
  unfold cW cT
  rw [e1, e2, wS_step _ (Nat.le_refl _), tS_step _ (Nat.le_refl _), wS_lo _ (Nat.le_refl _), tS_lo _ (Nat.le_refl _)]
  exact ⟨Nat.zero_add _, Nat.zero_add _⟩
theorem ratOf_whole {k c : Nat} (hc : c ≠ 0) (hk : k ≤ 1000000000) : ratOf (k * c) c = some (k, 1) := by
  have hg : Nat.gcd (k * c) c = c := Nat.gcd_eq_right (Nat.dvd_mul_left c k)
  have h1 : k * c / c = k := Nat.mul_div_cancel _ (by omega)
  have h2 : c / c = 1 := Nat.div_self (by omega)
  have hr : ratV k 1 = true := by unfold ratV; simp; omega
  unfold ratOf; rw [if_neg hc, hg, h1, h2, if_pos hr]
set_option maxHeartbeats 400000 in
theorem whole_any (n : Int) (w : World) :
    Calls Try.prog 25 #[.int .i64 n] w fun e w' => e = .returned (.agg #[.int .i64 n, .int .i64 1]) ∧ w' = w.alloc (.cells #[.int .i64 n, .int .i64 1] 32) := by
  go_enter Try.func25, Try.ntmps25
  go_wp2
  exact bodyPost_ret (v := .agg #[.int .i64 n, .int .i64 1]) (by simp [results, Try.results25, go_sem]) rfl ⟨rfl, rfl⟩

set_option maxRecDepth 100000 in
set_option maxHeartbeats 8000000 in
theorem fnCenterAlone_walk (A : Option Addr) (n c : Nat) (bs : List Int) (w : World) (h : BSl w w.heap.size A n c bs) :
    Calls Try.prog 8 #[.slice A n c] w fun e w' => e = .returned (.bool true) ∧ Below w.heap.size w w' := by
  by_cases hbig : 1048576 < n
  · go_enter Try.func8, Try.ntmps8
    go_wp2
    go_ret
    exact ⟨rfl, Below.refl _ _⟩
  have hn : n ≤ 16777216 := by omega
  go_enter Try.func8, Try.ntmps8
  go_wp2_with fail
  refine (DrawPeakCenter_any _ _ _ _ _ h hn).mono ?_
  rintro e w1 ⟨C, m, cc, zs, at1, half, rfl, hD, hat, hhalf, hb1⟩
  have hm := hD.few
  have i1 := ISl.of_own hD.own hD.inI
  have HZ := Lib.hid i1.len
  have hs1 := hb1.size
  obtain ⟨x, y, b, hme⟩ := cenIs_ex zs at1 half
  go_wp2_with fail
  refine (iPeakCenter_is _ _ _ _ at1 half x y b _ hme i1 (by omega)).mono ?_
  rintro e w2 ⟨rfl, hb2⟩
  have hT2 := Below.step hb1 hb2
  have hsz2 := hb2.size
  obtain ⟨O1, hO1⟩ : ∃ O, Obj.cells #[Value.int .i64 x, Value.int .i64 y] 32 = O := ⟨_, rfl⟩
  have ha2 := (Below.refl w2.heap.size w2).alloc (Nat.le_refl _) O1
  have hT2' := Below.step hT2 ha2
  have i2 := ((i1.below hb2).more hb2.size).below ha2
  have o2 := own_below (own_below hD.own hb2) ha2
  have hn2 := heap_alloc_new w2 O1
  have hs2 : (w2.alloc O1).heap.size = w2.heap.size + 1 := by simp
  obtain ⟨w3, hw3⟩ : ∃ W, w2.alloc O1 = W := ⟨_, rfl⟩
  rw [hw3] at hT2' hn2 hs2 i2 o2
  rw [← hO1] at hn2 hw3
  have hs2' : w2.heap.size < w3.heap.size := by omega
  clear hs2 hO1 ha2
  go_wp2_with fail
  clear hw3
  refine (sPeakCenter_is _ _ _ _ at1 half x y b _ hme (i2.more (by omega)) (by omega)).mono ?_
  rintro e w4 ⟨rfl, hb4⟩
  have hT4 := Below.step hT2' hb4
  have hs4 := hb4.size
  have i4 := (i2.more (show w2.heap.size ≤ w3.heap.size by omega)).below hb4
  have o4 := own_below o2 hb4
  have hn4 := (hb4.block w2.heap.size (by omega)).trans hn2
  have c41 := (cell_of_row w4 w2.heap.size 0 _ _ _ hn4).trans rfl
  have c42 := (cell_of_row w4 w2.heap.size 1 _ _ _ hn4).trans rfl
  have hlt4 : w2.heap.size < w4.heap.size := by omega
  rcases b with _ | _
  · clear i4 o4 hn4 hn2
    go_wp2
    go_ret
    exact ⟨rfl, Below.step hT4 ((Below.refl _ _).alloc (Nat.le_refl _) _)⟩
  obtain ⟨k, q, hok, rfl, hkm, rfl, hq, hcase⟩ : ∃ k q : Nat, cOk zs = true ∧ at1 = (k : Int) ∧ k < m ∧ half = (q : Int) ∧ q ≤ 200 ∧ ∃ p d : Nat, x = p ∧ y = d ∧ ratOf (cW zs k q) (cT zs k q) = some (p, d) := by
    rcases hme with ⟨k, q, h1, h2, h3, h4, h5, h6⟩ | ⟨_, _, _, hb⟩
    · rcases h6 with ⟨p, d, e1, e2, _, e4⟩ | ⟨_, _, _, hb⟩
      · exact ⟨k, q, h1, h2, by rw [← HZ.out]; exact h3, h4, h5, p, d, e1, e2, e4⟩
      · cases hb
    · cases hb
  obtain ⟨p, d, rfl, rfl, hrat⟩ := hcase
  have HRAT := Lib.hid hrat
  have hm0 : 0 < m := by omega
  obtain ⟨O2, hO2⟩ : ∃ O, Obj.cells #[Value.int .i64 (p : Int), Value.int .i64 (d : Int)] 32 = O := ⟨_, rfl⟩
  have ha4 := (Below.refl w4.heap.size w4).alloc (Nat.le_refl _) O2
  have hT5 := Below.step hT4 ha4
  have i5 := ((i4.more (show w3.heap.size ≤ w4.heap.size by omega)).below ha4)
  have hn5 := (ha4.block w2.heap.size (by omega)).trans hn4
  have hs5 : (w4.alloc O2).heap.size = w4.heap.size + 1 := by simp
  obtain ⟨w5, hw5⟩ : ∃ W, w4.alloc O2 = W := ⟨_, rfl⟩
  have hm5 := heap_alloc_new w4 O2
  rw [hw5] at hT5 i5 hn5 hs5 hm5
  rw [← hO2] at hw5 hm5
  have d51 : w5.cell? ⟨w2.heap.size, 0, none⟩ = some (.int .i64 (p : Int)) := (cell_of_row w5 _ 0 _ _ _ hn5).trans rfl
  have d52 : w5.cell? ⟨w2.heap.size, 1, none⟩ = some (.int .i64 (d : Int)) := (cell_of_row w5 _ 1 _ _ _ hn5).trans rfl
  have d53 : w5.cell? ⟨w4.heap.size, 0, none⟩ = some (.int .i64 (p : Int)) := (cell_of_row w5 _ 0 _ _ _ hm5).trans rfl
  have d54 : w5.cell? ⟨w4.heap.size, 1, none⟩ = some (.int .i64 (d : Int)) := (cell_of_row w5 _ 1 _ _ _ hm5).trans rfl
  have hs5' : w4.heap.size < w5.heap.size := by omega
  have hs5'' : w2.heap.size < w5.heap.size := by omega
  clear hs5 hO2 ha4 hrat hme hn4 hn2 i4 i2 o2 o4 hm5
  have hca := cen_alone hok (show k < zs.length by rw [HZ.out]; exact hkm)
  have hcn := cN_eq hok k
  have HCN := Lib.hid hcn
  have HCA := Lib.hid hca
  have hlm := cOk_len hok
  rw [HZ.out] at hlm
  clear hca hcn
  obtain ⟨bb, off, rfl, hbB, hkz, hc⟩ := i5.at_ hkm
  have hck := hc k hkm
  have hzI := Lib.hid hck
  clear hc hkz hck
  go_wp2_with fail
  clear hw5
  by_cases hz : cN zs k = 0
  · have hc2 : CenIs zs (k : Int) 0 0 0 false := .inl ⟨k, 0, hok, rfl, by rw [HZ.out]; exact hkm, rfl, by omega, .inr ⟨by rw [HCA.out.2]; exact hz, rfl, rfl, rfl⟩⟩
    refine (iPeakCenter_is _ _ _ _ (k : Int) 0 0 0 false _ hc2 (i5.more (by omega)) (by omega)).mono ?_
    rintro e w6 ⟨rfl, hb6⟩
    have hT6 := Below.step hT5 hb6
    have hs6 := hb6.size
    have hck6 : (w6.alloc (.cells #[.int .i64 0, .int .i64 0] 32)).cell? ⟨bb, off + k, none⟩ = some (.int .i64 0) := by
      rw [(((Below.refl w6.heap.size w6).alloc (Nat.le_refl _) _).cell (p := ⟨bb, off + k, none⟩) (show bb < w6.heap.size by omega)), (hb6.cell (p := ⟨bb, off + k, none⟩) (show bb < w5.heap.size by omega)), hzI.out, HCN.out, hz]; rfl
    clear hz
    go_wp2
    go_ret
    exact ⟨rfl, Below.step hT6 ((Below.refl _ _).alloc (Nat.le_refl _) _)⟩
  · have hc2 : CenIs zs (k : Int) 0 ((k : Nat) : Int) ((1 : Nat) : Int) true := .inl ⟨k, 0, hok, rfl, by rw [HZ.out]; exact hkm, rfl, by omega, .inl ⟨k, 1, rfl, rfl, rfl, by rw [HCA.out.1, HCA.out.2]; exact ratOf_whole hz (by omega)⟩⟩
    have HC2 := Lib.hid hc2
    have hne : (gI zs k == 0) = false := by have := HCN.out; simp; omega
    clear hc2 hz
    refine (iPeakCenter_is _ _ _ _ (k : Int) 0 _ _ true _ HC2.out (i5.more (by omega)) (by omega)).mono ?_
    rintro e w6 ⟨rfl, hb6⟩
    have hT6 := Below.step hT5 hb6
    have hs6 := hb6.size
    have hck6 : (w6.alloc (.cells #[.int .i64 (k : Int), .int .i64 1] 32)).cell? ⟨bb, off + k, none⟩ = some (.int .i64 (gI zs k)) := by
      rw [(((Below.refl w6.heap.size w6).alloc (Nat.le_refl _) _).cell (p := ⟨bb, off + k, none⟩) (show bb < w6.heap.size by omega)), (hb6.cell (p := ⟨bb, off + k, none⟩) (show bb < w5.heap.size by omega)), hzI.out]
    go_wp2_with fail
    go_region_with (go_at_call 25; refine (whole_any _ _).mono ?_; rintro e w' ⟨rfl, rfl⟩)
    all_goals
      go_wp2
      go_ret
      exact ⟨rfl, Below.step hT6 (by first | exact (((Below.refl _ _).alloc (Nat.le_refl _) _).drew).alloc (by simp) _ | exact (((Below.refl _ _).alloc (Nat.le_refl _) _).alloc (by simp) _).drew)⟩
end Go.Proofs.Ythogcokapppidab
