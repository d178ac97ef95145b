/- Contracts of the small functions that all statements share: a range test; slices of integers copied, compared, marked. -/
import Derived.Test.YtpkfpegilhadfaaChecked
import Derived.Test.YtpkfpegilhadfaaMem
import Derived.BigQuiet
import Derived.Deep.QuietTactic
import Derived.Deep.RegionWith
namespace Go.Proofs.Ytpkfpegilhadfaa
open Go.RowKit

def inB (n lo hi : Int) : Bool := decide (lo ≤ n ∧ n ≤ hi)
theorem inB_yes {n lo hi : Int} (h : inB n lo hi = true) : lo ≤ n ∧ n ≤ hi := by simpa [inB] using h
theorem inB_no {n lo hi : Int} (h : inB n lo hi = false) : n < lo ∨ hi < n := by simp [inB] at h; omega
theorem inB_t {n lo hi : Int} (h1 : lo ≤ n) (h2 : n ≤ hi) : inB n lo hi = true := by simp [inB, h1, h2]
theorem inB_f {n lo hi : Int} (h : n < lo ∨ hi < n) : inB n lo hi = false := by simp [inB]; omega

set_option maxHeartbeats 400000 in
theorem l6In_any (n lo hi : Int) (w : World) :
    Calls Try.prog 67 #[.int .i64 n, .int .i64 lo, .int .i64 hi] w fun e w' => e = .returned (.bool (inB n lo hi)) ∧ w = w' := by
  by_cases h1 : lo ≤ n
  · by_cases h2 : n ≤ hi
    · go_enter Try.func67, Try.ntmps67
      go_wp2
      go_ret
      exact ⟨ret_bool (inB_t h1 h2).symm, rfl⟩
    · go_enter Try.func67, Try.ntmps67
      go_wp2
      go_ret
      exact ⟨ret_bool (inB_f (by omega)).symm, rfl⟩
  · go_enter Try.func67, Try.ntmps67
    go_wp2
    go_ret
    exact ⟨ret_bool (inB_f (by omega)).symm, rfl⟩

/-- a quiet call, the caller's world on the left -/
theorem quiet_left {P : Program} {f : FuncId} {args : Array Value} {w : World} {n : Nat} {v : Value}
    (h : Calls P f args (w.drewN n) fun e w' => e = .returned v ∧ w.drewN n = w') : Calls P f args (w.drewN n) fun e w'' => e = .returned v ∧ ∃ m, w'' = w.drewN m :=
  h.mono fun _ _ ⟨he, hm⟩ => ⟨he, n, hm.symm⟩
theorem quiet_add_left {P : Program} {f : FuncId} {args : Array Value} {w : World} {a n : Nat} {v : Value}
    (h : Calls P f args (w.drewN (a + n)) fun e w' => e = .returned v ∧ w.drewN (a + n) = w') :
    Calls P f args (w.drewN (a + n)) fun e w'' => e = .returned v ∧ ∃ m, w'' = w.drewN (a + m) :=
  h.mono fun _ _ ⟨he, hm⟩ => ⟨he, n, hm.symm⟩
theorem getElem?_map_some {zs : List Int} {i : Nat} (h : i < zs.length) : (zs.map (Value.int .i64))[i]? = some (.int .i64 (gI zs i)) := by
  simp [gI, h]
theorem int_info : (Try.prog.info? 3).map (fun i => (i.zero, i.size, i.bytes)) = some (some (.int .i64 0), 1, 8) := by kernel_rfl

set_option maxHeartbeats 1000000 in
theorem toIntS_any (A : Option Addr) (n c : Nat) (zs : List Int) (w : World) (h : ISl w w.heap.size A n c zs) (hn : n ≤ 16777216) :
    Calls Try.prog 17 #[.slice A n c] w fun e w' => ∃ A' c', e = .returned (.slice A' n c') ∧ w'.ownsRow w.heap.size 3 1 (.slice A' n c') n (zs.map (Value.int .i64)) ∧ Below w.heap.size w w' := by
  obtain ⟨i0, hi, hz0, hz1, hz2⟩ := info_parts int_info
  go_enter Try.func17, Try.ntmps17
  go_wp2_with (at_make; refine wpList_make_full _ rfl _ _ 24 rfl w.heap.size 3 i0 (.int .i64 0) 1 Try.underlying24 hi hz0 hz1 _ _ _ _ n rfl rfl (by omega) (by omega) (by rw [hz2]; omega) (by unfold maxLen; omega) (Nat.le_refl _) ?_; intro w1 hown1 hg1)
  have hb1 : Below w.heap.size w w1 := (Below.refl _ _).grown hg1 (Nat.le_refl _) (by simp)
  go_loopw [4] (fun i wr => ∃ k : Nat, k ≤ n ∧ i = .int .i64 k ∧ wr.ownsRow w.heap.size 3 1 (.slice (some ⟨w.heap.size, 0, none⟩) n n) n ((part zs k n).map (Value.int .i64)) ∧ Below w.heap.size w wr) (fun i _ => n - (intOf i).toNat)
  case atStart =>
    refine ⟨0, Nat.zero_le _, rfl, ?_, hb1⟩
    have : (madeCells (Value.int .i64 0).cells (n * 1)).toList = (part zs 0 n).map (Value.int .i64) := by
      rw [Nat.mul_one]
      show (madeCells #[Value.int .i64 0] n).toList = _
      rw [toList_madeCells_one]; simp [part]
    rw [← this]; exact hown1
  case round =>
    obtain ⟨k, hk, rfl, hown, hb⟩ := hrel
    by_cases hlt : k < n
    · obtain ⟨b, off, rfl, hbB, hkz, hc⟩ := h.at_ hlt
      have hsrc : wr.cell? ⟨b, off + k, none⟩ = some (.int .i64 (gI zs k)) := (bcell hb _ _ hbB).trans (hc k hlt)
      have hdst : wr.cell? ⟨w.heap.size, k, none⟩ = ((part zs k n).map (Value.int .i64))[k]? := hown.cellAt k (by omega)
      have hfr : wr.frozen? ⟨w.heap.size, k, none⟩ = false := hown.frozenAt k
      have hst := (hown.stored k (.int .i64 (gI zs k)))
      have hl : k < (part zs k n).length := by rw [part_len h.len hk]; exact hlt
      rw [← List.map_set, part_set h.len hlt] at hst
      have hbn := hb.grown hst.2 hb.size (by intro g e; injection e; omega)
      rw [getElem?_map_some hl] at hdst
      have HS := Lib.hid (And.intro hst.1 hbn)
      clear hst hbn hc hown
      go_wp2
      go_roundw
      case rel => exact ⟨k + 1, by omega, by go_num, HS.out.1, HS.out.2⟩
      case measure => simp [intOf]; omega
    · go_wp2
      obtain rfl : k = n := by omega
      go_ret
      refine ⟨_, _, rfl, ?_, hb⟩
      rw [part_all h.len] at hown; exact hown


set_option maxHeartbeats 1000000 in
theorem eqIntS_same (A A' : Option Addr) (n c n' c' : Nat) (zs : List Int) (w : World) (h : ISl w w.heap.size A n c zs) (h' : ISl w w.heap.size A' n' c' zs) (hn : n ≤ 16777216) :
    Calls Try.prog 18 #[.slice A n c, .slice A' n' c'] w fun e w' => e = .returned (.bool true) ∧ Below w.heap.size w w' := by
  obtain rfl : n = n' := h.len.symm.trans h'.len
  go_enter Try.func18, Try.ntmps18
  go_wp2
  go_loopw [5] (fun i wr => ∃ k : Nat, k ≤ n ∧ i = .int .i64 k ∧ Below w.heap.size w wr) (fun i _ => n - (intOf i).toNat)
  case atStart => exact ⟨0, Nat.zero_le _, rfl, Below.refl _ _⟩
  case round =>
    obtain ⟨k, hk, rfl, hb⟩ := hrel
    by_cases hlt : k < n
    · obtain ⟨b, off, rfl, hbB, hkz, hc⟩ := h.at_ hlt
      obtain ⟨b', off', rfl, hbB', _, hc'⟩ := h'.at_ hlt
      have h1 := (bcell hb _ _ hbB).trans (hc k hlt)
      have h2 := (bcell hb _ _ hbB').trans (hc' k hlt)
      have hlt' : (k : Int) < (n : Int) := by omega
      clear hc hc'
      go_wp2
      go_quiet (fail)
      go_wp2
      go_roundw
      case rel => exact ⟨k + 1, by omega, by go_num, below_drewN hb _⟩
      case measure => simp [intOf]; omega
    · go_wp2
      go_ret
      exact ⟨rfl, hb⟩

set_option maxHeartbeats 1000000 in
theorem sameInts_same (A A' : Option Addr) (n c n' c' : Nat) (zs : List Int) (w : World) (h : ISl w w.heap.size A n c zs) (h' : ISl w w.heap.size A' n' c' zs) (hn : n ≤ 16777216) :
    Calls Try.prog 12 #[.slice A n c, .slice A' n' c'] w fun e w' => e = .returned (.bool true) ∧ Below w.heap.size w w' := by
  obtain rfl : n = n' := h.len.symm.trans h'.len
  go_enter Try.func12, Try.ntmps12
  go_wp2
  go_loopw [5] (fun i wr => ∃ k : Nat, k ≤ n ∧ i = .int .i64 k ∧ Below w.heap.size w wr) (fun i _ => n - (intOf i).toNat)
  case atStart => exact ⟨0, Nat.zero_le _, rfl, Below.refl _ _⟩
  case round =>
    obtain ⟨k, hk, rfl, hb⟩ := hrel
    by_cases hlt : k < n
    · obtain ⟨b, off, rfl, hbB, hkz, hc⟩ := h.at_ hlt
      obtain ⟨b', off', rfl, hbB', _, hc'⟩ := h'.at_ hlt
      have h1 := (bcell hb _ _ hbB).trans (hc k hlt)
      have h2 := (bcell hb _ _ hbB').trans (hc' k hlt)
      have hlt' : (k : Int) < (n : Int) := by omega
      clear hc hc'
      go_wp2
      go_quiet (fail)
      go_wp2
      go_roundw
      case rel => exact ⟨k + 1, by omega, by go_num, below_drewN hb _⟩
      case measure => simp [intOf]; omega
    · go_wp2
      go_ret
      exact ⟨rfl, hb⟩

theorem iota_in {k : Int} {n : Nat} (h0 : 0 ≤ k) (h : k + n ≤ 33554432) : ∀ z ∈ iota k n, InI z := by
  intro z hz
  simp only [iota, List.mem_map, List.mem_range] at hz
  obtain ⟨i, hi, rfl⟩ := hz
  unfold InI; omega

set_option maxHeartbeats 1000000 in
theorem markIntS_any (A : Option Addr) (n c base : Nat) (k : Int) (zs : List Int) (w : World) (h : w.ownsRow base 3 1 (.slice A n c) n (zs.map (Value.int .i64))) (h0 : 0 ≤ k) (hn : k + n ≤ 16777216) :
    Calls Try.prog 21 #[.slice A n c, .int .i64 k] w fun e w' => e = .returned (.int .i64 (k + (n : Int))) ∧ w'.ownsRow base 3 1 (.slice A n c) n ((iota k n).map (Value.int .i64)) ∧ w.grownBy w' (Value.slice A n c).ownBlock := by
  have hl : zs.length = n := by have := h.1; simpa using this
  by_cases hn0 : n = 0
  · subst hn0
    go_enter Try.func21, Try.ntmps21
    go_wp2
    go_rounds 1
    go_ret
    refine ⟨ret_int (by simp), ?_, World.grownBy.refl w _⟩
    have : zs = [] := List.eq_nil_of_length_eq_zero hl
    subst this
    exact h
  obtain ⟨g, rfl, hb, hg⟩ := own_at h (by omega)
  go_enter Try.func21, Try.ntmps21
  go_wp2
  go_loopw [1, 5] (fun q i wr => ∃ j : Nat, j ≤ n ∧ i = .int .i64 j ∧ q = .int .i64 (k + (j : Int)) ∧ wr.ownsRow base 3 1 (.slice (some ⟨g, 0, none⟩) n c) n ((marked zs k j).map (Value.int .i64)) ∧ w.grownBy wr (some g)) (fun _ i _ => n - (intOf i).toNat)
  case atStart =>
    exact ⟨0, Nat.zero_le _, rfl, by go_num, by simpa [marked, iota] using h, World.grownBy.refl w _⟩
  case round =>
    obtain ⟨j, hj, rfl, rfl, hown, hgr⟩ := hrel
    by_cases hlt : j < n
    · have hm : j < (marked zs k j).length := by rw [marked_len (by omega)]; omega
      have hdst : wr.cell? ⟨g, j, none⟩ = some (.int .i64 (gI (marked zs k j) j)) := (hown.cellAt j (by omega)).trans (getElem?_map_some hm)
      have hfr : wr.frozen? ⟨g, j, none⟩ = false := hown.frozenAt j
      have hst := (hown.stored j (.int .i64 (k + (j : Int))))
      rw [← List.map_set, marked_set (by omega)] at hst
      have hbn := hgr.trans hst.2
      have HS := Lib.hid (And.intro hst.1 hbn)
      clear hst hbn hown
      go_wp2
      go_roundw
      case rel => exact ⟨j + 1, by omega, by go_num, by go_num, HS.out.1, HS.out.2⟩
      case measure => simp [intOf]; omega
    · go_wp2
      obtain rfl : j = n := by omega
      go_ret
      refine ⟨rfl, ?_, hgr⟩
      rw [show marked zs k j = iota k j by rw [← hl]; exact marked_all zs k] at hown; exact hown

set_option maxHeartbeats 1000000 in
theorem heldIntS_any (A : Option Addr) (n c B : Nat) (k : Int) (w : World) (h : ISl w B A n c (iota k n)) (h0 : 0 ≤ k) (hn : k + n ≤ 16777216) :
    Calls Try.prog 22 #[.slice A n c, .int .i64 k] w fun e w' => e = .returned (.int .i64 (k + (n : Int))) ∧ w = w' := by
  go_enter Try.func22, Try.ntmps22
  go_wp2
  go_loop [1, 5] (fun q i => ∃ j : Nat, j ≤ n ∧ i = .int .i64 j ∧ q = .int .i64 (k + (j : Int))) (fun _ i => n - (intOf i).toNat)
  case atStart => exact ⟨0, Nat.zero_le _, rfl, by go_num⟩
  case round =>
    obtain ⟨j, hj, rfl, rfl⟩ := hrel
    by_cases hlt : j < n
    · obtain ⟨b, off, rfl, hbB, hkz, hc⟩ := h.at_ hlt
      have h1 := hc j hlt
      rw [iota_at hlt] at h1
      clear hc
      go_wp2
      go_round
      case rel => exact ⟨j + 1, by omega, by go_num, by go_num⟩
      case measure => simp [intOf]; omega
    · go_wp2
      obtain rfl : j = n := by omega
      go_ret
      exact ⟨rfl, rfl⟩

end Go.Proofs.Ytpkfpegilhadfaa
