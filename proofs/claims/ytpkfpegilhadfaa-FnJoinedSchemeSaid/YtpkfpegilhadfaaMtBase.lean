/- Contracts of the small functions on nodes: copied, compared, marked. -/
import Derived.Test.YtpkfpegilhadfaaMtMem
import Derived.Test.YtpkfpegilhadfaaLkBase
namespace Go.Proofs.Ytpkfpegilhadfaa
open Go.RowKit Mt

/-- the first k nodes, the rest noughts: what a copy holds after k rounds -/
def partN (ls : List Nd) (k n : Nat) : List Nd := ls.take k ++ List.replicate (n - k) ⟨0, 0, false⟩
theorem partN_at {ls : List Nd} {k n i : Nat} (hk : k ≤ ls.length) : gN (partN ls k n) i = if i < k then gN ls i else ⟨0, 0, false⟩ := by
  unfold partN gN
  by_cases h : i < k
  · rw [if_pos h, List.getElem?_append_left (by simp; omega)]; simp [h]
  · rw [if_neg h, List.getElem?_append_right (by simp; omega)]
    rcases hh : (List.replicate (n - k) (⟨0, 0, false⟩ : Nd))[i - (ls.take k).length]? with _ | l
    · rfl
    · have := List.mem_of_getElem? hh
      rw [List.mem_replicate] at this
      exact this.2
theorem partN_set {ls : List Nd} {k n : Nat} (h : ls.length = n) (hk : k < n) : (partN ls k n).set k (gN ls k) = partN ls (k + 1) n := by
  have hl : (partN ls k n).length = n := by simp [partN]; omega
  have hl2 : (partN ls (k + 1) n).length = n := by simp [partN]; omega
  apply gN_ext
  · simp [hl, hl2]
  · intro i hi
    rw [gN_set (by omega), partN_at (by omega), partN_at (by omega)]
    by_cases e : i = k
    · subst e; rw [if_pos rfl, if_pos (by omega)]
    · rw [if_neg e]
      by_cases e2 : i < k
      · rw [if_pos e2, if_pos (by omega)]
      · rw [if_neg e2, if_neg (by omega)]
theorem partN_all {ls : List Nd} {n : Nat} (h : ls.length = n) : partN ls n n = ls := by simp [partN, ← h]
theorem node_info : (Try.prog.info? 63).map (fun i => (i.zero, i.size, i.bytes)) = some (some (.agg #[.int .i64 0, .int .i64 0, .bool false]), 3, 24) := by kernel_rfl

set_option maxHeartbeats 400000 in
theorem toNode_any (f t : Int) (d : Bool) (w : World) :
    Calls Try.prog 47 #[.agg #[.int .i64 f, .int .i64 t, .bool d]] w fun e w' => e = .returned (.agg #[.int .i64 f, .int .i64 t, .bool d]) ∧ Below w.heap.size w w' := by
  go_enter Try.func47, Try.ntmps47
  go_wp2
  exact bodyPost_ret (v := .agg #[.int .i64 f, .int .i64 t, .bool d]) (by simp [results, Try.results47, go_sem]) rfl ⟨rfl, (((Below.refl _ _).alloc (Nat.le_refl _) _).alloc (by simp) _).alloc (by simp; omega) _⟩
set_option maxHeartbeats 400000 in
theorem eqNode_same (f t : Int) (d : Bool) (w : World) :
    Calls Try.prog 48 #[.agg #[.int .i64 f, .int .i64 t, .bool d], .agg #[.int .i64 f, .int .i64 t, .bool d]] w fun e w' => e = .returned (.bool true) ∧ Below w.heap.size w w' := by
  go_enter Try.func48, Try.ntmps48
  go_wp2
  go_ret
  exact ⟨rfl, ((Below.refl _ _).alloc (Nat.le_refl _) _).alloc (by simp) _⟩

set_option maxHeartbeats 400000 in
theorem szNodeS_few (A : Option Addr) (n c : Nat) (w : World) (hn : n ≤ 1048576) :
    Calls Try.prog 15 #[.slice A n c, .int .i64 1048576] w fun e w' => e = .returned (.int .i64 (1048576 - (n : Int))) ∧ w = w' := by
  go_enter Try.func15, Try.ntmps15
  go_wp2
  go_ret
  exact ⟨rfl, rfl⟩
set_option maxHeartbeats 400000 in
theorem szNodeS_many (A : Option Addr) (n c : Nat) (w : World) (hn : 1048576 < n) (hn2 : n ≤ maxLen) :
    Calls Try.prog 15 #[.slice A n c, .int .i64 1048576] w fun e w' => e = .returned (.int .i64 (-1)) ∧ w = w' := by
  unfold maxLen at hn2
  go_enter Try.func15, Try.ntmps15
  go_wp2
  go_ret
  exact ⟨rfl, rfl⟩

set_option maxHeartbeats 1000000 in
theorem toNodeS_any (A : Option Addr) (n c : Nat) (ls : List Nd) (w : World) (h : NSl w w.heap.size A n c ls) (hn : n ≤ 16777216) :
    Calls Try.prog 16 #[.slice A n c] w fun e w' => ∃ A' c', e = .returned (.slice A' n c') ∧ NOwn w' w.heap.size 63 (.slice A' n c') n ls ∧ Below w.heap.size w w' := by
  obtain ⟨i0, hi, hz0, hz1, hz2⟩ := info_parts node_info
  go_enter Try.func16, Try.ntmps16
  go_wp2_with (at_make; refine wpList_make_full _ rfl _ _ 23 rfl w.heap.size 63 i0 _ 3 Try.underlying23 hi hz0 hz1 _ _ _ _ n rfl rfl (by omega) (by omega) (by rw [hz2]; omega) (by unfold maxLen; omega) (Nat.le_refl _) ?_; intro w1 hown1 hg1)
  have hb1 : Below w.heap.size w w1 := (Below.refl _ _).grown hg1 (Nat.le_refl _) (by simp)
  have hown1' : NOwn w1 w.heap.size 63 (.slice (some ⟨w.heap.size, 0, none⟩) n n) n (partN ls 0 n) := by
    refine ⟨by simp [partN], ⟨_, hown1, fun i j hi hj => ?_⟩⟩
    rw [made_agg _ _ _ hi hj rfl]
    unfold nodeV
    rw [partN_at (by omega), if_neg (by omega)]
    match j, hj with
    | 0, _ => rfl
    | 1, _ => rfl
    | 2, _ => rfl
  go_loopw [4] (fun i wr => ∃ k : Nat, k ≤ n ∧ i = .int .i64 k ∧ NOwn wr w.heap.size 63 (.slice (some ⟨w.heap.size, 0, none⟩) n n) n (partN ls k n) ∧ Below w.heap.size w wr) (fun i _ => n - (intOf i).toNat)
  case atStart => exact ⟨0, Nat.zero_le _, rfl, hown1', hb1⟩
  case round =>
    obtain ⟨k, hk, rfl, hown, hb⟩ := hrel
    by_cases hlt : k < n
    · obtain ⟨b, off, rfl, hbB, hkz, hc⟩ := h.at_ hlt
      obtain ⟨q1, q2, q3⟩ := hc k hlt
      have p1 := (bcell hb _ _ hbB).trans q1
      have p2 := (bcell hb _ _ hbB).trans q2
      have p3 := (bcell hb _ _ hbB).trans q3
      clear q1 q2 q3 hc
      go_wp2_with fail
      refine (toNode_any _ _ _ _).mono ?_
      rintro e w2 ⟨rfl, hb2⟩
      have hown2 := hown.below hb2
      obtain ⟨d1, d2, d3⟩ := hown2.cells hlt
      have f1 := hown2.frozen (k * 3)
      have f2 := hown2.frozen (k * 3 + 1)
      have f3 := hown2.frozen (k * 3 + 2)
      have hst := hown2.set3 hlt (gN ls k)
      rw [partN_set h.len hlt] at hst
      have hbn := (hb.trans (hb2.mono hb.size)).grown hst.2 (by have := hb.size; have := hb2.size; omega) (by intro g e; injection e; omega)
      have HS := Lib.hid (And.intro hst.1 hbn)
      clear hst hbn hown hown2
      go_wp2
      go_roundw
      case rel => exact ⟨k + 1, by omega, by go_num, HS.out.1, HS.out.2⟩
      case measure => simp [intOf]; omega
    · go_wp2
      obtain rfl : k = n := by omega
      go_ret
      refine ⟨_, _, rfl, ?_, hb⟩
      rw [partN_all h.len] at hown; exact hown

set_option maxRecDepth 100000 in
set_option maxHeartbeats 1000000 in
theorem eqNodeS_same (A A' : Option Addr) (n c n' c' : Nat) (ls : List Nd) (w : World) (h : NSl w w.heap.size A n c ls) (h' : NSl w w.heap.size A' n' c' ls) (hn : n ≤ 16777216) :
    Calls Try.prog 19 #[.slice A n c, .slice A' n' c'] w fun e w' => e = .returned (.bool true) ∧ Below w.heap.size w w' := by
  obtain rfl : n = n' := h.len.symm.trans h'.len
  go_enter Try.func19, Try.ntmps19
  go_wp2
  go_loopw [5] (fun i wr => ∃ k : Nat, k ≤ n ∧ i = .int .i64 k ∧ Below w.heap.size w wr) (fun i _ => n - (intOf i).toNat)
  case atStart => exact ⟨0, Nat.zero_le _, rfl, Below.refl _ _⟩
  case round =>
    obtain ⟨k, hk, rfl, hb⟩ := hrel
    by_cases hlt : k < n
    · obtain ⟨b, off, rfl, hbB, hkz, hc⟩ := h.at_ hlt
      obtain ⟨b', off', rfl, hbB', _, hc'⟩ := h'.at_ hlt
      obtain ⟨q1, q2, q3⟩ := hc k hlt
      obtain ⟨r1, r2, r3⟩ := hc' k hlt
      have p1 := (bcell hb _ _ hbB).trans q1
      have p2 := (bcell hb _ _ hbB).trans q2
      have p3 := (bcell hb _ _ hbB).trans q3
      have s1 := (bcell hb _ _ hbB').trans r1
      have s2 := (bcell hb _ _ hbB').trans r2
      have s3 := (bcell hb _ _ hbB').trans r3
      have hlt' : (k : Int) < (n : Int) := by omega
      clear q1 q2 q3 r1 r2 r3 hc hc'
      go_wp2
      go_still_tail 8, (by kernel_rfl)
      change wpList _ _ _ _ _ wr.drew
      go_wp2_with fail
      refine (eqNode_same _ _ _ _).mono ?_
      rintro e w2 ⟨rfl, hb2⟩
      have hb3 := (below_drew hb).trans (hb2.mono hb.size)
      clear hb2
      go_wp2
      go_roundw
      case rel => exact ⟨k + 1, by omega, by go_num, hb3⟩
      case measure => simp [intOf]; omega
    · go_wp2
      go_ret
      exact ⟨rfl, hb⟩

set_option maxHeartbeats 2000000 in
theorem markNodeS_any (A : Option Addr) (n c base : Nat) (k : Int) (ls : List Nd) (w : World) (h : NOwn w base 63 (.slice A n c) n ls) (h0 : 0 ≤ k) (hn : k + n ≤ 16777216) :
    Calls Try.prog 20 #[.slice A n c, .int .i64 k] w fun e w' => ∃ ls', e = .returned (.int .i64 (k + 3 * (n : Int))) ∧ NOwn w' base 63 (.slice A n c) n ls' ∧ w.grownBy w' (Value.slice A n c).ownBlock := by
  by_cases hn0 : n = 0
  · subst hn0
    go_enter Try.func20, Try.ntmps20
    go_wp2
    go_rounds 1
    go_ret
    exact ⟨ls, ret_int (by simp), h, World.grownBy.refl w _⟩
  obtain ⟨g, rfl, hb, hg⟩ := h.at_ (by omega)
  go_enter Try.func20, Try.ntmps20
  go_wp2
  go_loopw [1, 5] (fun q i wr => ∃ (j : Nat) (xs : List Nd), j ≤ n ∧ i = .int .i64 j ∧ q = .int .i64 (k + 3 * (j : Int)) ∧ NOwn wr base 63 (.slice (some ⟨g, 0, none⟩) n c) n xs ∧ w.grownBy wr (some g)) (fun _ i _ => n - (intOf i).toNat)
  case atStart => exact ⟨0, ls, Nat.zero_le _, rfl, by go_num, h, World.grownBy.refl w _⟩
  case round =>
    obtain ⟨j, xs, hj, rfl, rfl, hown, hgr⟩ := hrel
    clear h
    by_cases hlt : j < n
    · obtain ⟨d1, d2, d3⟩ := hown.cells hlt
      have f1 := hown.frozen (j * 3)
      have f2 := hown.frozen (j * 3 + 1)
      have f3 := hown.frozen (j * 3 + 2)
      have hst := hown.set3 hlt ⟨k + 3 * (j : Int), k + 3 * (j : Int) + 1, (k + 3 * (j : Int) + 1 + 1) % 3 == 0⟩
      have HS := Lib.hid (And.intro hst.1 (hgr.trans hst.2))
      clear hst
      go_wp2
      go_roundw
      case rel => exact ⟨j + 1, _, by omega, by go_num, by first | rfl | (congr 1; omega), HS.out.1, HS.out.2⟩
      case measure => simp [intOf]; omega
    · go_wp2
      obtain rfl : j = n := by omega
      go_ret
      exact ⟨xs, rfl, hown, hgr⟩
end Go.Proofs.Ytpkfpegilhadfaa
