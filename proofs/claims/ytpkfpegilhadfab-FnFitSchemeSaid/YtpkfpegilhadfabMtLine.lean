/- Contracts of the small functions on lines: compared, marked, held. A line in memory is three ints. -/
import Derived.Test.YtpkfpegilhadfabMtMem
import Derived.Test.YtpkfpegilhadfabLkBase
import Derived.Test.YtpkfpegilhadfabMtMatch
namespace Go.Proofs.Ytpkfpegilhadfab
open Go.RowKit Lk

set_option maxHeartbeats 400000 in
theorem eqLine_same (f t d : Int) (w : World) :
    Calls Try.prog 61 #[.agg #[.int .i64 f, .int .i64 t, .int .i64 d], .agg #[.int .i64 f, .int .i64 t, .int .i64 d]] w fun e w' => e = .returned (.bool true) ∧ Below w.heap.size w w' := by
  go_enter Try.func61, Try.ntmps61
  go_wp2
  go_ret
  exact ⟨rfl, ((Below.refl _ _).alloc (Nat.le_refl _) _).alloc (by simp) _⟩
set_option maxRecDepth 100000 in
set_option maxHeartbeats 1000000 in
theorem eqLineS_same (A A' : Option Addr) (n c n' c' : Nat) (ls : List Link) (w : World) (h : LSl w w.heap.size A n c ls) (h' : LSl w w.heap.size A' n' c' ls) (hn : n ≤ 16777216) :
    Calls Try.prog 23 #[.slice A n c, .slice A' n' c'] w fun e w' => e = .returned (.bool true) ∧ Below w.heap.size w w' := by
  obtain rfl : n = n' := h.len.symm.trans h'.len
  go_enter Try.func23, Try.ntmps23
  go_wp2
  go_loopw [5] (fun i wr => ∃ k : Nat, k ≤ n ∧ i = .int .i64 k ∧ Below w.heap.size w wr) (fun i _ => n - (intOf i).toNat)
  case atStart => exact ⟨0, Nat.zero_le _, rfl, Below.refl _ _⟩
  case round =>
    obtain ⟨k, hk, rfl, hb⟩ := hrel
    by_cases hlt : k < n
    · obtain ⟨b, off, rfl, hbB, hkz, hc⟩ := h.at_ hlt
      obtain ⟨b', off', rfl, hbB', _, hc'⟩ := h'.at_ hlt
      obtain ⟨q1, q2, q3⟩ := hc k hlt
      obtain ⟨r1, r2, r3⟩ := hc' k hlt
      have p1 := (bcell hb _ _ hbB).trans q1
      have p2 := (bcell hb _ _ hbB).trans q2
      have p3 := (bcell hb _ _ hbB).trans q3
      have s1 := (bcell hb _ _ hbB').trans r1
      have s2 := (bcell hb _ _ hbB').trans r2
      have s3 := (bcell hb _ _ hbB').trans r3
      have hlt' : (k : Int) < (n : Int) := by omega
      clear q1 q2 q3 r1 r2 r3 hc hc'
      go_wp2
      go_still_tail 8, (by kernel_rfl)
      change wpList _ _ _ _ _ wr.drew
      go_wp2_with fail
      refine (eqLine_same _ _ _ _).mono ?_
      rintro e w2 ⟨rfl, hb2⟩
      have hb3 := (below_drew hb).trans (hb2.mono hb.size)
      clear hb2
      go_wp2
      go_roundw
      case rel => exact ⟨k + 1, by omega, by go_num, hb3⟩
      case measure => simp [intOf]; omega
    · go_wp2
      go_ret
      exact ⟨rfl, hb⟩
/-- what marking from k leaves -/
def markedL (k : Int) (n : Nat) : List Link := (List.range n).map fun (i : Nat) => ⟨k + 3 * (i : Int), k + 3 * (i : Int) + 1, k + 3 * (i : Int) + 1 + 1⟩
theorem markedL_len (k : Int) (n : Nat) : (markedL k n).length = n := by simp [markedL]
theorem markedL_at {k : Int} {n i : Nat} (h : i < n) : gL (markedL k n) i = ⟨k + 3 * (i : Int), k + 3 * (i : Int) + 1, k + 3 * (i : Int) + 1 + 1⟩ := by simp [gL, markedL, h]
theorem markedL_in {k : Int} {n : Nat} (h0 : 0 ≤ k) (h : k + 3 * n ≤ 33554432) : ∀ l ∈ markedL k n, InL l := by
  intro l hl
  simp only [markedL, List.mem_map, List.mem_range] at hl
  obtain ⟨i, hi, rfl⟩ := hl
  unfold InL InI; dsimp only; omega
set_option maxHeartbeats 2000000 in
theorem markLineS_any (A : Option Addr) (n c base : Nat) (k : Int) (ls : List Link) (w : World) (h : LOwn w base 42 (.slice A n c) n ls) (h0 : 0 ≤ k) (hn : k + n ≤ 8388608) :
    Calls Try.prog 26 #[.slice A n c, .int .i64 k] w fun e w' => e = .returned (.int .i64 (k + 3 * (n : Int))) ∧ LOwn w' base 42 (.slice A n c) n (markedL k n) ∧ w.grownBy w' (Value.slice A n c).ownBlock := by
  have HL := Lib.hid h.len
  by_cases hn0 : n = 0
  · subst hn0
    have hz : ls = markedL k 0 := List.eq_nil_of_length_eq_zero HL.out
    subst hz
    go_enter Try.func26, Try.ntmps26
    go_wp2
    go_rounds 1
    go_ret
    exact ⟨ret_int (by simp), h, World.grownBy.refl w _⟩
  obtain ⟨g, rfl, hb, hg⟩ := h.at_ (by omega)
  go_enter Try.func26, Try.ntmps26
  go_wp2
  go_loopw [1, 5] (fun q i wr => ∃ (j : Nat) (xs : List Link), j ≤ n ∧ i = .int .i64 j ∧ q = .int .i64 (k + 3 * (j : Int)) ∧ LOwn wr base 42 (.slice (some ⟨g, 0, none⟩) n c) n xs ∧ Hid (∀ i : Nat, i < j → gL xs i = ⟨k + 3 * (i : Int), k + 3 * (i : Int) + 1, k + 3 * (i : Int) + 1 + 1⟩) ∧ w.grownBy wr (some g)) (fun _ i _ => n - (intOf i).toNat)
  case atStart => exact ⟨0, ls, Nat.zero_le _, rfl, by go_num, h, (fun i hi => by omega), World.grownBy.refl w _⟩
  case round =>
    obtain ⟨j, xs, hj, rfl, rfl, hown, hxs, hgr⟩ := hrel
    clear h
    by_cases hlt : j < n
    · obtain ⟨d1, d2, d3⟩ := hown.cells hlt
      have f1 := hown.frozen (j * 3)
      have f2 := hown.frozen (j * 3 + 1)
      have f3 := hown.frozen (j * 3 + 2)
      have hst := hown.set3 hlt ⟨k + 3 * (j : Int), k + 3 * (j : Int) + 1, k + 3 * (j : Int) + 1 + 1⟩
      have HS := Lib.hid (And.intro hst.1 (hgr.trans hst.2))
      have HX : Hid (∀ i : Nat, i < j + 1 → gL (xs.set j ⟨k + 3 * (j : Int), k + 3 * (j : Int) + 1, k + 3 * (j : Int) + 1 + 1⟩) i = ⟨k + 3 * (i : Int), k + 3 * (i : Int) + 1, k + 3 * (i : Int) + 1 + 1⟩) := by
        intro i hi
        rw [gL_set (by rw [hown.len]; exact hlt)]
        by_cases e : i = j
        · rw [if_pos e, e]
        · rw [if_neg e]; exact hxs.out i (by omega)
      clear hst hown hgr hxs
      go_wp2
      go_roundw
      case rel => exact ⟨j + 1, _, by omega, by go_num, by first | rfl | (congr 1; omega), HS.out.1, HX, HS.out.2⟩
      case measure => simp [intOf]; omega
    · go_wp2
      obtain rfl : j = n := by omega
      go_ret
      have hx : xs = markedL k j := gL_ext (by rw [hown.len, markedL_len]) fun i hi => by
        have hi' : i < j := by rw [hown.len] at hi; exact hi
        rw [markedL_at hi']; exact hxs.out i hi'
      exact ⟨rfl, by rw [← hx]; exact hown, hgr⟩
set_option maxHeartbeats 2000000 in
theorem heldLineS_any (A : Option Addr) (n c B : Nat) (k : Int) (w : World) (h : LSl w B A n c (markedL k n)) (h0 : 0 ≤ k) (hn : k + n ≤ 8388608) :
    Calls Try.prog 27 #[.slice A n c, .int .i64 k] w fun e w' => e = .returned (.int .i64 (k + 3 * (n : Int))) ∧ w = w' := by
  go_enter Try.func27, Try.ntmps27
  go_wp2
  go_loop [1, 5] (fun q i => ∃ j : Nat, j ≤ n ∧ i = .int .i64 j ∧ q = .int .i64 (k + 3 * (j : Int))) (fun _ i => n - (intOf i).toNat)
  case atStart => exact ⟨0, Nat.zero_le _, rfl, by go_num⟩
  case round =>
    obtain ⟨j, hj, rfl, rfl⟩ := hrel
    by_cases hlt : j < n
    · obtain ⟨b, off, rfl, hbB, hkz, hc⟩ := h.at_ hlt
      obtain ⟨h1, h2, h3⟩ := hc j hlt
      rw [markedL_at hlt] at h1 h2 h3
      clear hc
      go_wp2
      go_round
      case rel => exact ⟨j + 1, by omega, by go_num, by first | rfl | (congr 1; omega)⟩
      case measure => simp [intOf]; omega
    · go_wp2
      obtain rfl : j = n := by omega
      go_ret
      exact ⟨rfl, rfl⟩

/-- a line as it lies in memory -/
def lm (x : Mt.Line) : Link := ⟨x.u, x.l, x.n⟩
theorem gL_lm (L : List Mt.Line) (i : Nat) : gL (L.map lm) i = lm (Mt.gX L i) := by
  unfold gL Mt.gX
  rw [List.getElem?_map]
  cases L[i]? <;> rfl
theorem lm_inj {a b : Mt.Line} (h : lm a = lm b) : a = b := by
  obtain ⟨a1, a2, a3⟩ := a
  obtain ⟨b1, b2, b3⟩ := b
  simp [lm] at h
  rw [h.1, h.2.1, h.2.2]
theorem lines_inL {s : List Mt.Nd} : ∀ l ∈ (Mt.lines s).map lm, InL l := by
  intro l hl
  obtain ⟨x, hx, rfl⟩ := List.mem_map.1 hl
  have ho : Mt.sOk s = true := by
    rcases h : Mt.sOk s with _ | _
    · unfold Mt.lines at hx; rw [h] at hx; cases hx
    · rfl
  have := Mt.lines_in ho hx
  have := Mt.sOk_bd ho
  unfold InL InI lm; dsimp only; omega
end Go.Proofs.Ytpkfpegilhadfab
