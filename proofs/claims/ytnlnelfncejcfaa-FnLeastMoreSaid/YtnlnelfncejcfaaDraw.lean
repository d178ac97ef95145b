/- Contracts of the reference's reader of codes: what it hands out lies in its range. -/
import Derived.Test.YtnlnelfncejcfaaBase
import Derived.Laws.BitsAllLaws
import Derived.Laws.BitsLemmas
namespace Go.Proofs.Ytnlnelfncejcfaa
open Go.RowKit

/-- block g is a reader that has read p numbers -/
def Rd (w : World) (g p : Nat) : Prop := ∃ A n c bs, w.heap[g]? = some (.cells #[.slice A n c, .int .i64 (p : Int)] 39 (0, 0)) ∧ BSl w g A n c bs ∧ n ≤ 2000

theorem Rd.lt {w : World} {g p : Nat} (h : Rd w g p) : g < w.heap.size := by
  obtain ⟨A, n, c, bs, h, _, _⟩ := h
  rcases Nat.lt_or_ge g w.heap.size with hlt | hge
  · exact hlt
  · rw [Array.getElem?_eq_none hge] at h; cases h
theorem Rd.below {w w' : World} {g p B : Nat} (h : Rd w g p) (hb : Below B w w') (hg : g < B) : Rd w' g p := by
  obtain ⟨A, n, c, bs, h, hs, hn⟩ := h
  exact ⟨A, n, c, bs, (hb.block g hg).trans h, hs.below (hb.mono (by omega)), hn⟩

theorem ofInt_i64 (a : Nat) (ha : a < 9223372036854775808) : (BitVec.ofInt 64 (a : Int)).toNat = a := by
  rw [BitVec.ofInt_natCast, BitVec.toNat_ofNat]; exact Nat.mod_eq_of_lt (by omega)
theorem i64_xor_nat (a b : Nat) (ha : a < 9223372036854775808) (hb : b < 9223372036854775808) : bits .xor .i64 (a : Int) (b : Int) = ((a ^^^ b : Nat) : Int) := by
  have hx : a ^^^ b < 2 ^ 63 := Nat.xor_lt_two_pow (by omega) (by omega)
  show IntKind.i64.wrap ((BitVec.ofInt 64 (a : Int) ^^^ BitVec.ofInt 64 (b : Int)).toNat : Int) = _
  rw [BitVec.toNat_xor, ofInt_i64 a ha, ofInt_i64 b hb, IntKind.wrap_i64]
  omega
theorem xor_some (x : Int) (h0 : 0 ≤ x) (h1 : x ≤ 4611686018427387904) : ∃ y : Int, 0 ≤ y ∧ bits .xor .i64 x (x / 64) = y := by
  obtain ⟨a, rfl⟩ := Int.eq_ofNat_of_zero_le h0
  refine ⟨((a ^^^ (a / 64) : Nat) : Int), by omega, ?_⟩
  have e : ((a : Int) / 64) = ((a / 64 : Nat) : Int) := by omega
  rw [e]
  exact i64_xor_nat a (a / 64) (by omega) (by omega)

/-- what pick hands out -/
def Picked (m v : Int) : Prop := (1 ≤ m → 0 ≤ v ∧ v < m) ∧ (m < 1 → v = 0)
theorem picked_mod {m y : Int} (h : 1 ≤ m) : Picked m (y % m) := ⟨fun _ => ⟨Int.emod_nonneg _ (by omega), Int.emod_lt_of_pos _ (by omega)⟩, fun h' => by omega⟩
theorem picked_zero (m : Int) : Picked m 0 := ⟨fun h => by omega, fun _ => rfl⟩

theorem rd_set {w : World} {g p : Nat} {A : Option Addr} {n c : Nat} {bs : List Int} (h : w.heap[g]? = some (.cells #[.slice A n c, .int .i64 (p : Int)] 39 (0, 0))) (hs : BSl w g A n c bs) (hn : n ≤ 2000) :
    Rd (w.setCell ⟨g, 1, none⟩ (.int .i64 ((p : Int) + 1))) g (p + 1) ∧ w.grownBy (w.setCell ⟨g, 1, none⟩ (.int .i64 ((p : Int) + 1))) (some g) := by
  constructor
  · refine ⟨A, n, c, bs, ?_, hs.keep fun b off hb => World.cell?_setCell_other w _ _ _ (by intro e; injection e; omega), hn⟩
    have := heap_setCell_same w g 1 _ _ (.int .i64 ((p : Int) + 1)) h
    rw [this]; simp
  · exact ⟨rfl, rfl, rfl, by simp, fun k _ hk => heap_setCell_other w ⟨g, 1, none⟩ k _ (fun e => hk (by simp [e]))⟩
theorem rd_drewN {w a : World} {g p k : Nat} (h : Rd w g p ∧ a.grownBy w (some g)) : Rd (w.drewN k) g p ∧ a.grownBy (w.drewN k) (some g) := by
  obtain ⟨⟨A, n, c, bs, h1, hs, hn⟩, h2⟩ := h
  exact ⟨⟨A, n, c, bs, h1, hs.keep fun _ _ _ => rfl, hn⟩, ⟨h2.os, h2.tape, h2.output, h2.size, h2.block⟩⟩

set_option maxHeartbeats 2000000 in
theorem pick_any (g p : Nat) (m : Int) (w : World) (h : Rd w g p) (hp : p ≤ 1000000) :
    Calls Try.prog 9 #[.pointer (some ⟨g, 0, none⟩), .int .i64 m] w fun e w' => ∃ v, e = .returned (.int .i64 v) ∧ Picked m v ∧ (Rd w' g (p + 1) ∧ w.grownBy w' (some g)) := by
  obtain ⟨A, n, c, bs, hh, hs, hn⟩ := h
  have c0 : w.cell? ⟨g, 0, none⟩ = some (.slice A n c) := (cell_of_row w g 0 _ _ _ hh).trans rfl
  have c1 : w.cell? ⟨g, 1, none⟩ = some (.int .i64 (p : Int)) := (cell_of_row w g 1 _ _ _ hh).trans rfl
  have f1 : w.frozen? ⟨g, 1, none⟩ = false := frozen_of_row w g 1 _ _ hh
  have HR := Lib.hid (rd_set hh hs hn)
  clear hh
  by_cases hm : m < 1
  · go_enter Try.func9, Try.ntmps9
    go_wp2
    go_ret
    exact ⟨0, rfl, picked_zero _, HR.out⟩
  · by_cases hn0 : n = 0
    · have hn0' : ((n : Int) == 0) = true := by simp; omega
      clear hn0
      go_enter Try.func9, Try.ntmps9
      go_wp2
      go_ret
      exact ⟨0, rfl, picked_zero _, HR.out⟩
    · have hn0' : ((n : Int) == 0) = false := by simp; omega
      by_cases hk : p < n
      · obtain ⟨b, off, rfl, hbg, hkz, hc⟩ := hs.at_ hk
        have h1 := hc p hk
        have hbb := hs.inB p
        clear hc hkz
        go_enter Try.func9, Try.ntmps9
        go_wp2
        go_ret
        exact ⟨_, rfl, picked_mod (by omega), HR.out⟩
      · have hpos : 0 < n := by omega
        obtain ⟨b, off, rfl, hbg, hkz, hc⟩ := hs.at_ hpos
        have hj1 : p % n < n := Nat.mod_lt _ hpos
        have hj2 : (p * 7 + 3) % n < n := Nat.mod_lt _ hpos
        have k1 := hc _ hj1
        have k2 := hc _ hj2
        have b1 := hs.inB (p % n)
        have b2 := hs.inB ((p * 7 + 3) % n)
        obtain ⟨j1, hj1e⟩ : ∃ j, p % n = j := ⟨_, rfl⟩
        obtain ⟨j2, hj2e⟩ : ∃ j, (p * 7 + 3) % n = j := ⟨_, rfl⟩
        obtain ⟨j3, hj3e⟩ : ∃ j, p / n = j := ⟨_, rfl⟩
        have hj3 : j3 ≤ p := by rw [← hj3e]; exact Nat.div_le_self _ _
        rw [hj1e] at hj1 k1 b1
        rw [hj2e] at hj2 k2 b2
        have t1 : (p : Int).tmod (n : Int) = (j1 : Int) := by rw [Int.tmod_eq_emod_of_nonneg (by omega), ← hj1e]; omega
        have t2 : ((p : Int) * 7 + 3).tmod (n : Int) = (j2 : Int) := by
          have e : (p : Int) * 7 + 3 = ((p * 7 + 3 : Nat) : Int) := by omega
          rw [e, Int.tmod_eq_emod_of_nonneg (by omega), ← Int.natCast_emod, hj2e]
        have t3 : (p : Int).tdiv (n : Int) = (j3 : Int) := by rw [Int.tdiv_eq_ediv_of_nonneg (by omega), ← hj3e]; omega
        have u1 : IntKind.i64.wrap ((p : Int) * 7) = (p : Int) * 7 := IntWalk.i64_in _ (by omega)
        have u2 : IntKind.i64.wrap ((p : Int) * 7 + 3) = (p : Int) * 7 + 3 := IntWalk.i64_in _ (by omega)
        obtain ⟨B1, hB1⟩ : ∃ y, gI bs j1 = y := ⟨_, rfl⟩
        obtain ⟨B2, hB2⟩ : ∃ y, gI bs j2 = y := ⟨_, rfl⟩
        rw [hB1] at k1 b1
        rw [hB2] at k2 b2
        have u3 : IntKind.i64.wrap B1 = B1 := IntWalk.i64_in _ (by omega)
        have u4 : IntKind.i64.wrap B2 = B2 := IntWalk.i64_in _ (by omega)
        have u5 : IntKind.i64.wrap (B1 * 131) = B1 * 131 := IntWalk.i64_in _ (by omega)
        have u6 : IntKind.i64.wrap (B2 * 1117) = B2 * 1117 := IntWalk.i64_in _ (by omega)
        have u7 : IntKind.i64.wrap (B1 * 131 + B2 * 1117) = B1 * 131 + B2 * 1117 := IntWalk.i64_in _ (by omega)
        have u8 : IntKind.i64.wrap ((p : Int) * 29) = (p : Int) * 29 := IntWalk.i64_in _ (by omega)
        have u9 : IntKind.i64.wrap (B1 * 131 + B2 * 1117 + (p : Int) * 29) = B1 * 131 + B2 * 1117 + (p : Int) * 29 := IntWalk.i64_in _ (by omega)
        have u10 : IntKind.i64.wrap (j3 : Int) = (j3 : Int) := IntWalk.i64_in _ (by omega)
        have u11 : IntKind.i64.wrap ((j3 : Int) * 53) = (j3 : Int) * 53 := IntWalk.i64_in _ (by omega)
        obtain ⟨X, hX⟩ : ∃ X, B1 * 131 + B2 * 1117 + (p : Int) * 29 + (j3 : Int) * 53 = X := ⟨_, rfl⟩
        have hX0 : 0 ≤ X := by omega
        have hX1 : X ≤ 4611686018427387904 := by omega
        have u12 : IntKind.i64.wrap (B1 * 131 + B2 * 1117 + (p : Int) * 29 + (j3 : Int) * 53) = X := by rw [IntWalk.i64_in _ (by omega), hX]
        obtain ⟨Y, hY0, hY⟩ := xor_some X hX0 hX1
        have j1I : (j1 : Int) < (n : Int) := by omega
        have j2I : (j2 : Int) < (n : Int) := by omega
        clear hc hkz hj1e hj2e hj3e hB1 hB2 hX hs
        go_enter Try.func9, Try.ntmps9
        go_wp2
        go_quiet (fail)
        clear t1 t2 t3 u1 u2 u3 u4 u5 u6 u7 u8 u9 u10 u11 u12
        go_wp2
        go_ret
        exact ⟨_, rfl, picked_mod (by omega), rd_drewN HR.out⟩

theorem rd_new {w : World} {A : Option Addr} {n c : Nat} {bs : List Int} (h : BSl w w.heap.size A n c bs) (hn : n ≤ 2000) :
    Rd (w.alloc (.cells #[.slice A n c, .int .i64 0] 39)) w.heap.size 0 :=
  ⟨A, n, c, bs, heap_alloc_new w _, h.below ((Below.refl _ _).alloc (Nat.le_refl _) _), hn⟩
theorem BSl.cut {w : World} {B : Nat} {A : Option Addr} {n c : Nat} {bs : List Int} (h : BSl w B A n c bs) {k : Nat} (hk : k ≤ n) : BSl w B A k c (bs.take k) := by
  refine ⟨by have := h.len; simp; omega, by have := h.cap; omega, fun i => ?_, fun hn => ?_⟩
  · by_cases hi : i < k
    · rw [gI_take hi]; exact h.inB i
    · rw [gI_ge (by simp; omega)]; omega
  · obtain ⟨b, off, e, hb, hc⟩ := h.mem (by omega)
    exact ⟨b, off, e, hb, fun i hi => by rw [gI_take hi]; exact hc i (by omega)⟩

set_option maxHeartbeats 1000000 in
theorem l6Open_any (A : Option Addr) (n c : Nat) (bs : List Int) (w : World) (h : BSl w w.heap.size A n c bs) (hn : n ≤ 16777216) :
    Calls Try.prog 7 #[.slice A n c] w fun e w' => e = .returned (.pointer (some ⟨w.heap.size, 0, none⟩)) ∧ Rd w' w.heap.size 0 ∧ w'.heap.size = w.heap.size + 1 ∧ Below w.heap.size w w' := by
  have hcap := h.cap
  by_cases hbig : 2000 < n
  · have HR := Lib.hid (rd_new (h.cut (k := 2000) (by omega)) (by omega))
    go_enter Try.func7, Try.ntmps7
    go_wp2
    go_ret
    exact ⟨rfl, HR.out, by simp, (Below.refl _ _).alloc (Nat.le_refl _) _⟩
  · have HR := Lib.hid (rd_new h (by omega))
    go_enter Try.func7, Try.ntmps7
    go_wp2
    go_ret
    exact ⟨rfl, HR.out, by simp, (Below.refl _ _).alloc (Nat.le_refl _) _⟩

theorem ints_snoc (zs : List Int) (x : Int) : zs.map (Value.int .i64) ++ [Value.int .i64 x] = (zs ++ [x]).map (Value.int .i64) := by simp
end Go.Proofs.Ytnlnelfncejcfaa
