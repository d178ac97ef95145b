/- Contracts of the small functions on marks: copied, compared, counted. -/
import Derived.Test.YtdhpnjmnjckihaaMkMem
import Derived.Test.YtdhpnjmnjckihaaBase
import Derived.StillTailTactics
import Derived.Outline
namespace Go.Proofs.Ytdhpnjmnjckihaa
open Go.RowKit Mk

/-- the first k marks, the rest noughts: what a copy holds after k rounds -/
def partM (ls : List Mrk) (k n : Nat) : List Mrk := ls.take k ++ List.replicate (n - k) ⟨0, 0⟩
theorem partM_at {ls : List Mrk} {k n i : Nat} (hk : k ≤ ls.length) : gM (partM ls k n) i = if i < k then gM ls i else ⟨0, 0⟩ := by
  unfold partM gM
  by_cases h : i < k
  · rw [if_pos h, List.getElem?_append_left (by simp; omega)]; simp [h]
  · rw [if_neg h, List.getElem?_append_right (by simp; omega)]
    rcases hh : (List.replicate (n - k) (⟨0, 0⟩ : Mrk))[i - (ls.take k).length]? with _ | l
    · rfl
    · have := List.mem_of_getElem? hh
      rw [List.mem_replicate] at this
      exact this.2
theorem partM_set {ls : List Mrk} {k n : Nat} (h : ls.length = n) (hk : k < n) : (partM ls k n).set k (gM ls k) = partM ls (k + 1) n := by
  have hl : (partM ls k n).length = n := by simp [partM]; omega
  have hl2 : (partM ls (k + 1) n).length = n := by simp [partM]; omega
  apply gM_ext
  · simp [hl, hl2]
  · intro i hi
    rw [gM_set (by omega), partM_at (by omega), partM_at (by omega)]
    by_cases e : i = k
    · subst e; rw [if_pos rfl, if_pos (by omega)]
    · rw [if_neg e]
      by_cases e2 : i < k
      · rw [if_pos e2, if_pos (by omega)]
      · rw [if_neg e2, if_neg (by omega)]
theorem partM_all {ls : List Mrk} {n : Nat} (h : ls.length = n) : partM ls n n = ls := by simp [partM, ← h]
theorem made_agg (z : Value) (n i : Nat) {j : Nat} (hi : i < n) (hj : j < 2) (hz : z.cells.size = 2) : (madeCells z.cells (n * 2)).toList[i * 2 + j]? = z.cells[j]? := by
  have h1 : i * 2 + j < n * 2 := by omega
  have h2 : (i * 2 + j) % z.cells.size = j := by rw [hz]; omega
  have h3 : j < z.cells.size := by omega
  simp [madeCells, h1, h2, h3]
theorem mark_info : (Try.prog.info? 32).map (fun i => (i.zero, i.size, i.bytes)) = some (some (.agg #[.int .i64 0, .int .i64 0]), 2, 16) := by kernel_rfl


set_option maxHeartbeats 400000 in
theorem toMark_any (f t : Int) (w : World) :
    Calls Try.prog 20 #[.agg #[.int .i64 f, .int .i64 t]] w fun e w' => e = .returned (.agg #[.int .i64 f, .int .i64 t]) ∧ Below w.heap.size w w' := by
  go_enter Try.func20, Try.ntmps20
  go_wp2
  exact bodyPost_ret (v := .agg #[.int .i64 f, .int .i64 t]) (by simp [results, Try.results20, go_sem]) rfl ⟨rfl, (((Below.refl _ _).alloc (Nat.le_refl _) _).alloc (by simp) _).alloc (by simp; omega) _⟩
set_option maxHeartbeats 400000 in
theorem eqMark_same (f t : Int) (w : World) :
    Calls Try.prog 21 #[.agg #[.int .i64 f, .int .i64 t], .agg #[.int .i64 f, .int .i64 t]] w fun e w' => e = .returned (.bool true) ∧ Below w.heap.size w w' := by
  go_enter Try.func21, Try.ntmps21
  go_wp2
  go_ret
  exact ⟨rfl, ((Below.refl _ _).alloc (Nat.le_refl _) _).alloc (by simp) _⟩

set_option maxHeartbeats 400000 in
theorem szMarkS_few (A : Option Addr) (n c : Nat) (w : World) (hn : n ≤ 1048576) :
    Calls Try.prog 7 #[.slice A n c, .int .i64 1048576] w fun e w' => e = .returned (.int .i64 (1048576 - (n : Int))) ∧ w = w' := by
  go_enter Try.func7, Try.ntmps7
  go_wp2
  go_ret
  exact ⟨rfl, rfl⟩
set_option maxHeartbeats 400000 in
theorem szMarkS_many (A : Option Addr) (n c : Nat) (w : World) (hn : 1048576 < n) (hn2 : n ≤ maxLen) :
    Calls Try.prog 7 #[.slice A n c, .int .i64 1048576] w fun e w' => e = .returned (.int .i64 (-1)) ∧ w = w' := by
  unfold maxLen at hn2
  go_enter Try.func7, Try.ntmps7
  go_wp2
  go_ret
  exact ⟨rfl, rfl⟩

set_option maxHeartbeats 1000000 in
theorem toMarkS_any (A : Option Addr) (n c : Nat) (ls : List Mrk) (w : World) (h : MSl w w.heap.size A n c ls) (hn : n ≤ 16777216) :
    Calls Try.prog 9 #[.slice A n c] w fun e w' => ∃ A' c', e = .returned (.slice A' n c') ∧ MOwn w' w.heap.size 32 (.slice A' n c') n ls ∧ Below w.heap.size w w' := by
  obtain ⟨i0, hi, hz0, hz1, hz2⟩ := info_parts mark_info
  go_enter Try.func9, Try.ntmps9
  go_wp2_with (at_make; refine wpList_make_full _ rfl _ _ 25 rfl w.heap.size 32 i0 _ 2 Try.underlying25 hi hz0 hz1 _ _ _ _ n rfl rfl (by omega) (by omega) (by rw [hz2]; omega) (by unfold maxLen; omega) (Nat.le_refl _) ?_; intro w1 hown1 hg1)
  have hb1 : Below w.heap.size w w1 := (Below.refl _ _).grown hg1 (Nat.le_refl _) (by simp)
  have hown1' : MOwn w1 w.heap.size 32 (.slice (some ⟨w.heap.size, 0, none⟩) n n) n (partM ls 0 n) := by
    refine ⟨by simp [partM], ⟨_, hown1, fun i j hi hj => ?_⟩⟩
    rw [made_agg _ _ _ hi hj rfl]
    unfold markV
    rw [partM_at (by omega), if_neg (by omega)]
    match j, hj with
    | 0, _ => rfl
    | 1, _ => rfl
  go_loopw [4] (fun i wr => ∃ k : Nat, k ≤ n ∧ i = .int .i64 k ∧ MOwn wr w.heap.size 32 (.slice (some ⟨w.heap.size, 0, none⟩) n n) n (partM ls k n) ∧ Below w.heap.size w wr) (fun i _ => n - (intOf i).toNat)
  case atStart => exact ⟨0, Nat.zero_le _, rfl, hown1', hb1⟩
  case round =>
    obtain ⟨k, hk, rfl, hown, hb⟩ := hrel
    by_cases hlt : k < n
    · obtain ⟨b, off, rfl, hbB, hkz, hc⟩ := h.at_ hlt
      obtain ⟨q1, q2⟩ := hc k hlt
      have p1 := (bcell hb _ _ hbB).trans q1
      have p2 := (bcell hb _ _ hbB).trans q2
      clear q1 q2 hc
      go_wp2_with fail
      refine (toMark_any _ _ _).mono ?_
      rintro e w2 ⟨rfl, hb2⟩
      have hown2 := hown.below hb2
      obtain ⟨d1, d2⟩ := hown2.cells hlt
      have f1 := hown2.frozen (k * 2)
      have f2 := hown2.frozen (k * 2 + 1)
      have hst := hown2.set2 hlt (gM ls k)
      rw [partM_set h.len hlt] at hst
      have hbn := (hb.trans (hb2.mono hb.size)).grown hst.2 (by have := hb.size; have := hb2.size; omega) (by intro g e; injection e; omega)
      have HS := Lib.hid (And.intro hst.1 hbn)
      clear hst hbn hown hown2
      go_wp2
      go_roundw
      case rel => exact ⟨k + 1, by omega, by go_num, HS.out.1, HS.out.2⟩
      case measure => simp [intOf]; omega
    · go_wp2
      obtain rfl : k = n := by omega
      go_ret
      refine ⟨_, _, rfl, ?_, hb⟩
      rw [partM_all h.len] at hown; exact hown

theorem below_drew {B : Nat} {a w : World} (h : Below B a w) : Below B a w.drew := ⟨h.os, h.tape, h.output, h.size, h.block⟩
set_option maxHeartbeats 1000000 in
theorem eqMarkS_same (A A' : Option Addr) (n c n' c' : Nat) (ls : List Mrk) (w : World) (h : MSl w w.heap.size A n c ls) (h' : MSl w w.heap.size A' n' c' ls) (hn : n ≤ 16777216) :
    Calls Try.prog 11 #[.slice A n c, .slice A' n' c'] w fun e w' => e = .returned (.bool true) ∧ Below w.heap.size w w' := by
  obtain rfl : n = n' := h.len.symm.trans h'.len
  go_enter Try.func11, Try.ntmps11
  go_wp2
  go_loopw [5] (fun i wr => ∃ k : Nat, k ≤ n ∧ i = .int .i64 k ∧ Below w.heap.size w wr) (fun i _ => n - (intOf i).toNat)
  case atStart => exact ⟨0, Nat.zero_le _, rfl, Below.refl _ _⟩
  case round =>
    obtain ⟨k, hk, rfl, hb⟩ := hrel
    by_cases hlt : k < n
    · obtain ⟨b, off, rfl, hbB, hkz, hc⟩ := h.at_ hlt
      obtain ⟨b', off', rfl, hbB', _, hc'⟩ := h'.at_ hlt
      obtain ⟨q1, q2⟩ := hc k hlt
      obtain ⟨r1, r2⟩ := hc' k hlt
      have p1 := (bcell hb _ _ hbB).trans q1
      have p2 := (bcell hb _ _ hbB).trans q2
      have s1 := (bcell hb _ _ hbB').trans r1
      have s2 := (bcell hb _ _ hbB').trans r2
      have hlt' : (k : Int) < (n : Int) := by omega
      clear q1 q2 r1 r2 hc hc'
      go_wp2
      go_still_tail 8, (by kernel_rfl)
      change wpList _ _ _ _ _ wr.drew
      go_wp2_with fail
      refine (eqMark_same _ _ _).mono ?_
      rintro e w2 ⟨rfl, hb2⟩
      have hb3 := (below_drew hb).trans (hb2.mono hb.size)
      clear hb2
      go_wp2
      go_roundw
      case rel => exact ⟨k + 1, by omega, by go_num, hb3⟩
      case measure => simp [intOf]; omega
    · go_wp2
      go_ret
      exact ⟨rfl, hb⟩

/-- what marking from k leaves -/
def markedM (k : Int) (n : Nat) : List Mrk := (List.range n).map fun (i : Nat) => ⟨k + 2 * (i : Int), k + 2 * (i : Int) + 1⟩
theorem markedM_len (k : Int) (n : Nat) : (markedM k n).length = n := by simp [markedM]
theorem markedM_at {k : Int} {n i : Nat} (h : i < n) : gM (markedM k n) i = ⟨k + 2 * (i : Int), k + 2 * (i : Int) + 1⟩ := by simp [gM, markedM, h]
theorem markedM_in {k : Int} {n : Nat} (h0 : 0 ≤ k) (h : k + 2 * n ≤ 33554432) : ∀ l ∈ markedM k n, InM l := by
  intro l hl
  simp only [markedM, List.mem_map, List.mem_range] at hl
  obtain ⟨i, hi, rfl⟩ := hl
  unfold InM InI; dsimp only; omega
set_option maxHeartbeats 2000000 in
theorem markMarkS_any (A : Option Addr) (n c base : Nat) (k : Int) (ls : List Mrk) (w : World) (h : MOwn w base 32 (.slice A n c) n ls) (h0 : 0 ≤ k) (hn : k + n ≤ 8388608) :
    Calls Try.prog 17 #[.slice A n c, .int .i64 k] w fun e w' => e = .returned (.int .i64 (k + 2 * (n : Int))) ∧ MOwn w' base 32 (.slice A n c) n (markedM k n) ∧ w.grownBy w' (Value.slice A n c).ownBlock := by
  have HL := Lib.hid h.len
  by_cases hn0 : n = 0
  · subst hn0
    have hz : ls = markedM k 0 := List.eq_nil_of_length_eq_zero HL.out
    subst hz
    go_enter Try.func17, Try.ntmps17
    go_wp2
    go_rounds 1
    go_ret
    exact ⟨ret_int (by simp), h, World.grownBy.refl w _⟩
  obtain ⟨g, rfl, hb, hg⟩ := h.at_ (by omega)
  go_enter Try.func17, Try.ntmps17
  go_wp2
  go_loopw [1, 5] (fun q i wr => ∃ (j : Nat) (xs : List Mrk), j ≤ n ∧ i = .int .i64 j ∧ q = .int .i64 (k + 2 * (j : Int)) ∧ MOwn wr base 32 (.slice (some ⟨g, 0, none⟩) n c) n xs ∧ Hid (∀ i : Nat, i < j → gM xs i = ⟨k + 2 * (i : Int), k + 2 * (i : Int) + 1⟩) ∧ w.grownBy wr (some g)) (fun _ i _ => n - (intOf i).toNat)
  case atStart => exact ⟨0, ls, Nat.zero_le _, rfl, by go_num, h, (fun i hi => by omega), World.grownBy.refl w _⟩
  case round =>
    obtain ⟨j, xs, hj, rfl, rfl, hown, hxs, hgr⟩ := hrel
    clear h
    by_cases hlt : j < n
    · obtain ⟨d1, d2⟩ := hown.cells hlt
      have f1 := hown.frozen (j * 2)
      have f2 := hown.frozen (j * 2 + 1)
      have hst := hown.set2 hlt ⟨k + 2 * (j : Int), k + 2 * (j : Int) + 1⟩
      have HS := Lib.hid (And.intro hst.1 (hgr.trans hst.2))
      have HX : Hid (∀ i : Nat, i < j + 1 → gM (xs.set j ⟨k + 2 * (j : Int), k + 2 * (j : Int) + 1⟩) i = ⟨k + 2 * (i : Int), k + 2 * (i : Int) + 1⟩) := by
        intro i hi
        rw [gM_set (by rw [hown.len]; exact hlt)]
        by_cases e : i = j
        · rw [if_pos e, e]
        · rw [if_neg e]; exact hxs.out i (by omega)
      clear hst hown hgr hxs
      go_wp2
      go_roundw
      case rel => exact ⟨j + 1, _, by omega, by go_num, by first | rfl | (congr 1; omega), HS.out.1, HX, HS.out.2⟩
      case measure => simp [intOf]; omega
    · go_wp2
      obtain rfl : j = n := by omega
      go_ret
      have hx : xs = markedM k j := gM_ext (by rw [hown.len, markedM_len]) fun i hi => by
        have hi' : i < j := by rw [hown.len] at hi; exact hi
        rw [markedM_at hi']; exact hxs.out i hi'
      exact ⟨rfl, by rw [← hx]; exact hown, hgr⟩
set_option maxHeartbeats 2000000 in
theorem heldMarkS_any (A : Option Addr) (n c B : Nat) (k : Int) (w : World) (h : MSl w B A n c (markedM k n)) (h0 : 0 ≤ k) (hn : k + n ≤ 8388608) :
    Calls Try.prog 18 #[.slice A n c, .int .i64 k] w fun e w' => e = .returned (.int .i64 (k + 2 * (n : Int))) ∧ w = w' := by
  go_enter Try.func18, Try.ntmps18
  go_wp2
  go_loop [1, 5] (fun q i => ∃ j : Nat, j ≤ n ∧ i = .int .i64 j ∧ q = .int .i64 (k + 2 * (j : Int))) (fun _ i => n - (intOf i).toNat)
  case atStart => exact ⟨0, Nat.zero_le _, rfl, by go_num⟩
  case round =>
    obtain ⟨j, hj, rfl, rfl⟩ := hrel
    by_cases hlt : j < n
    · obtain ⟨b, off, rfl, hbB, hkz, hc⟩ := h.at_ hlt
      obtain ⟨h1, h2⟩ := hc j hlt
      rw [markedM_at hlt] at h1 h2
      clear hc
      go_wp2
      go_round
      case rel => exact ⟨j + 1, by omega, by go_num, by first | rfl | (congr 1; omega)⟩
      case measure => simp [intOf]; omega
    · go_wp2
      obtain rfl : j = n := by omega
      go_ret
      exact ⟨rfl, rfl⟩
end Go.Proofs.Ytdhpnjmnjckihaa
