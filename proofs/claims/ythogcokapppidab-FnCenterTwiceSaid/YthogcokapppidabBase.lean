/- Contracts of the small functions that all statements share: a range test; slices of integers copied, compared, marked. -/
import Derived.Test.YthogcokapppidabChecked
import Derived.Test.YthogcokapppidabMem
import Derived.BigQuiet
import Derived.Deep.QuietTactic
import Derived.Deep.RegionWith
namespace Go.Proofs.Ythogcokapppidab
open Go.RowKit

def inB (n lo hi : Int) : Bool := decide (lo ≤ n ∧ n ≤ hi)
theorem inB_yes {n lo hi : Int} (h : inB n lo hi = true) : lo ≤ n ∧ n ≤ hi := by simpa [inB] using h
theorem inB_no {n lo hi : Int} (h : inB n lo hi = false) : n < lo ∨ hi < n := by simp [inB] at h; omega
theorem inB_t {n lo hi : Int} (h1 : lo ≤ n) (h2 : n ≤ hi) : inB n lo hi = true := by simp [inB, h1, h2]
theorem inB_f {n lo hi : Int} (h : n < lo ∨ hi < n) : inB n lo hi = false := by simp [inB]; omega

set_option maxHeartbeats 400000 in
theorem l6In_any (n lo hi : Int) (w : World) :
    Calls Try.prog 35 #[.int .i64 n, .int .i64 lo, .int .i64 hi] w fun e w' => e = .returned (.bool (inB n lo hi)) ∧ w = w' := by
  by_cases h1 : lo ≤ n
  · by_cases h2 : n ≤ hi
    · go_enter Try.func35, Try.ntmps35
      go_wp2
      go_ret
      exact ⟨ret_bool (inB_t h1 h2).symm, rfl⟩
    · go_enter Try.func35, Try.ntmps35
      go_wp2
      go_ret
      exact ⟨ret_bool (inB_f (by omega)).symm, rfl⟩
  · go_enter Try.func35, Try.ntmps35
    go_wp2
    go_ret
    exact ⟨ret_bool (inB_f (by omega)).symm, rfl⟩

/-- a quiet call, the caller's world on the left -/
theorem quiet_left {P : Program} {f : FuncId} {args : Array Value} {w : World} {n : Nat} {v : Value}
    (h : Calls P f args (w.drewN n) fun e w' => e = .returned v ∧ w.drewN n = w') : Calls P f args (w.drewN n) fun e w'' => e = .returned v ∧ ∃ m, w'' = w.drewN m :=
  h.mono fun _ _ ⟨he, hm⟩ => ⟨he, n, hm.symm⟩
theorem quiet_add_left {P : Program} {f : FuncId} {args : Array Value} {w : World} {a n : Nat} {v : Value}
    (h : Calls P f args (w.drewN (a + n)) fun e w' => e = .returned v ∧ w.drewN (a + n) = w') :
    Calls P f args (w.drewN (a + n)) fun e w'' => e = .returned v ∧ ∃ m, w'' = w.drewN (a + m) :=
  h.mono fun _ _ ⟨he, hm⟩ => ⟨he, n, hm.symm⟩
theorem getElem?_map_some {zs : List Int} {i : Nat} (h : i < zs.length) : (zs.map (Value.int .i64))[i]? = some (.int .i64 (gI zs i)) := by
  simp [gI, h]
theorem int_info : (Try.prog.info? 3).map (fun i => (i.zero, i.size, i.bytes)) = some (some (.int .i64 0), 1, 8) := by kernel_rfl

set_option maxHeartbeats 1000000 in
theorem toIntS_any (A : Option Addr) (n c : Nat) (zs : List Int) (w : World) (h : ISl w w.heap.size A n c zs) (hn : n ≤ 16777216) :
    Calls Try.prog 20 #[.slice A n c] w fun e w' => ∃ A' c', e = .returned (.slice A' n c') ∧ w'.ownsRow w.heap.size 3 1 (.slice A' n c') n (zs.map (Value.int .i64)) ∧ Below w.heap.size w w' := by
  obtain ⟨i0, hi, hz0, hz1, hz2⟩ := info_parts int_info
  go_enter Try.func20, Try.ntmps20
  go_wp2_with (at_make; refine wpList_make_full _ rfl _ _ 23 rfl w.heap.size 3 i0 (.int .i64 0) 1 Try.underlying23 hi hz0 hz1 _ _ _ _ n rfl rfl (by omega) (by omega) (by rw [hz2]; omega) (by unfold maxLen; omega) (Nat.le_refl _) ?_; intro w1 hown1 hg1)
  have hb1 : Below w.heap.size w w1 := (Below.refl _ _).grown hg1 (Nat.le_refl _) (by simp)
  go_loopw [4] (fun i wr => ∃ k : Nat, k ≤ n ∧ i = .int .i64 k ∧ wr.ownsRow w.heap.size 3 1 (.slice (some ⟨w.heap.size, 0, none⟩) n n) n ((part zs k n).map (Value.int .i64)) ∧ Below w.heap.size w wr) (fun i _ => n - (intOf i).toNat)
  case atStart =>
    refine ⟨0, Nat.zero_le _, rfl, ?_, hb1⟩
    have : (madeCells (Value.int .i64 0).cells (n * 1)).toList = (part zs 0 n).map (Value.int .i64) := by
      rw [Nat.mul_one]
      show (madeCells #[Value.int .i64 0] n).toList = _
      rw [toList_madeCells_one]; simp [part]
    rw [← this]; exact hown1
  case round =>
    obtain ⟨k, hk, rfl, hown, hb⟩ := hrel
    by_cases hlt : k < n
    · obtain ⟨b, off, rfl, hbB, hkz, hc⟩ := h.at_ hlt
      have hsrc : wr.cell? ⟨b, off + k, none⟩ = some (.int .i64 (gI zs k)) := (bcell hb _ _ hbB).trans (hc k hlt)
      have hdst : wr.cell? ⟨w.heap.size, k, none⟩ = ((part zs k n).map (Value.int .i64))[k]? := hown.cellAt k (by omega)
      have hfr : wr.frozen? ⟨w.heap.size, k, none⟩ = false := hown.frozenAt k
      have hst := (hown.stored k (.int .i64 (gI zs k)))
      have hl : k < (part zs k n).length := by rw [part_len h.len hk]; exact hlt
      rw [← List.map_set, part_set h.len hlt] at hst
      have hbn := hb.grown hst.2 hb.size (by intro g e; injection e; omega)
      rw [getElem?_map_some hl] at hdst
      have HS := Lib.hid (And.intro hst.1 hbn)
      clear hst hbn hc hown
      go_wp2
      go_roundw
      case rel => exact ⟨k + 1, by omega, by go_num, HS.out.1, HS.out.2⟩
      case measure => simp [intOf]; omega
    · go_wp2
      obtain rfl : k = n := by omega
      go_ret
      refine ⟨_, _, rfl, ?_, hb⟩
      rw [part_all h.len] at hown; exact hown


set_option maxHeartbeats 1000000 in
theorem eqIntS_same (A A' : Option Addr) (n c n' c' : Nat) (zs : List Int) (w : World) (h : ISl w w.heap.size A n c zs) (h' : ISl w w.heap.size A' n' c' zs) (hn : n ≤ 16777216) :
    Calls Try.prog 23 #[.slice A n c, .slice A' n' c'] w fun e w' => e = .returned (.bool true) ∧ Below w.heap.size w w' := by
  obtain rfl : n = n' := h.len.symm.trans h'.len
  go_enter Try.func23, Try.ntmps23
  go_wp2
  go_loopw [5] (fun i wr => ∃ k : Nat, k ≤ n ∧ i = .int .i64 k ∧ Below w.heap.size w wr) (fun i _ => n - (intOf i).toNat)
  case atStart => exact ⟨0, Nat.zero_le _, rfl, Below.refl _ _⟩
  case round =>
    obtain ⟨k, hk, rfl, hb⟩ := hrel
    by_cases hlt : k < n
    · obtain ⟨b, off, rfl, hbB, hkz, hc⟩ := h.at_ hlt
      obtain ⟨b', off', rfl, hbB', _, hc'⟩ := h'.at_ hlt
      have h1 := (bcell hb _ _ hbB).trans (hc k hlt)
      have h2 := (bcell hb _ _ hbB').trans (hc' k hlt)
      have hlt' : (k : Int) < (n : Int) := by omega
      clear hc hc'
      go_wp2
      go_quiet (fail)
      go_wp2
      go_roundw
      case rel => exact ⟨k + 1, by omega, by go_num, below_drewN hb _⟩
      case measure => simp [intOf]; omega
    · go_wp2
      go_ret
      exact ⟨rfl, hb⟩

set_option maxHeartbeats 1000000 in
theorem sameInts_same (A A' : Option Addr) (n c n' c' : Nat) (zs : List Int) (w : World) (h : ISl w w.heap.size A n c zs) (h' : ISl w w.heap.size A' n' c' zs) (hn : n ≤ 16777216) :
    Calls Try.prog 15 #[.slice A n c, .slice A' n' c'] w fun e w' => e = .returned (.bool true) ∧ Below w.heap.size w w' := by
  obtain rfl : n = n' := h.len.symm.trans h'.len
  go_enter Try.func15, Try.ntmps15
  go_wp2
  go_loopw [5] (fun i wr => ∃ k : Nat, k ≤ n ∧ i = .int .i64 k ∧ Below w.heap.size w wr) (fun i _ => n - (intOf i).toNat)
  case atStart => exact ⟨0, Nat.zero_le _, rfl, Below.refl _ _⟩
  case round =>
    obtain ⟨k, hk, rfl, hb⟩ := hrel
    by_cases hlt : k < n
    · obtain ⟨b, off, rfl, hbB, hkz, hc⟩ := h.at_ hlt
      obtain ⟨b', off', rfl, hbB', _, hc'⟩ := h'.at_ hlt
      have h1 := (bcell hb _ _ hbB).trans (hc k hlt)
      have h2 := (bcell hb _ _ hbB').trans (hc' k hlt)
      have hlt' : (k : Int) < (n : Int) := by omega
      clear hc hc'
      go_wp2
      go_quiet (fail)
      go_wp2
      go_roundw
      case rel => exact ⟨k + 1, by omega, by go_num, below_drewN hb _⟩
      case measure => simp [intOf]; omega
    · go_wp2
      go_ret
      exact ⟨rfl, hb⟩

theorem iota_in {k : Int} {n : Nat} (h0 : 0 ≤ k) (h : k + n ≤ 33554432) : ∀ z ∈ iota k n, InI z := by
  intro z hz
  simp only [iota, List.mem_map, List.mem_range] at hz
  obtain ⟨i, hi, rfl⟩ := hz
  unfold InI; omega



end Go.Proofs.Ythogcokapppidab
