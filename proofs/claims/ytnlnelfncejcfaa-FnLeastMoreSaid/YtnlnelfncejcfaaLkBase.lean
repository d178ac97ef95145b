/- Contracts of the small functions on links: copied, compared, counted. -/
import Derived.Test.YtnlnelfncejcfaaLkMem
import Derived.Test.YtnlnelfncejcfaaBase
import Derived.StillTailTactics
import Derived.Outline
namespace Go.Proofs.Ytnlnelfncejcfaa
open Go.RowKit Lk

/-- the first k links, the rest noughts: what a copy holds after k rounds -/
def partL (ls : List Link) (k n : Nat) : List Link := ls.take k ++ List.replicate (n - k) ⟨0, 0, 0⟩
theorem partL_at {ls : List Link} {k n i : Nat} (hk : k ≤ ls.length) : gL (partL ls k n) i = if i < k then gL ls i else ⟨0, 0, 0⟩ := by
  unfold partL gL
  by_cases h : i < k
  · rw [if_pos h, List.getElem?_append_left (by simp; omega)]; simp [h]
  · rw [if_neg h, List.getElem?_append_right (by simp; omega)]
    rcases hh : (List.replicate (n - k) (⟨0, 0, 0⟩ : Link))[i - (ls.take k).length]? with _ | l
    · rfl
    · have := List.mem_of_getElem? hh
      rw [List.mem_replicate] at this
      exact this.2
theorem partL_set {ls : List Link} {k n : Nat} (h : ls.length = n) (hk : k < n) : (partL ls k n).set k (gL ls k) = partL ls (k + 1) n := by
  have hl : (partL ls k n).length = n := by simp [partL]; omega
  have hl2 : (partL ls (k + 1) n).length = n := by simp [partL]; omega
  apply gL_ext
  · simp [hl, hl2]
  · intro i hi
    rw [gL_set (by omega), partL_at (by omega), partL_at (by omega)]
    by_cases e : i = k
    · subst e; rw [if_pos rfl, if_pos (by omega)]
    · rw [if_neg e]
      by_cases e2 : i < k
      · rw [if_pos e2, if_pos (by omega)]
      · rw [if_neg e2, if_neg (by omega)]
theorem partL_all {ls : List Link} {n : Nat} (h : ls.length = n) : partL ls n n = ls := by simp [partL, ← h]
theorem made_agg (z : Value) (n i : Nat) {j : Nat} (hi : i < n) (hj : j < 3) (hz : z.cells.size = 3) : (madeCells z.cells (n * 3)).toList[i * 3 + j]? = z.cells[j]? := by
  have h1 : i * 3 + j < n * 3 := by omega
  have h2 : (i * 3 + j) % z.cells.size = j := by rw [hz]; omega
  have h3 : j < z.cells.size := by omega
  simp [madeCells, h1, h2, h3]
theorem link_info : (Try.prog.info? 28).map (fun i => (i.zero, i.size, i.bytes)) = some (some (.agg #[.int .i64 0, .int .i64 0, .int .i64 0]), 3, 24) := by kernel_rfl

set_option maxHeartbeats 400000 in
theorem iabs_any (n : Int) (w : World) (h1 : -4000000000000000000 ≤ n) (h2 : n ≤ 4000000000000000000) :
    Calls Try.prog 16 #[.int .i64 n] w fun e w' => e = .returned (.int .i64 (n.natAbs : Int)) ∧ w = w' := by
  go_enter Try.func16, Try.ntmps16
  go_wp2
  all_goals
    go_ret
    exact ⟨ret_int (by omega), rfl⟩




theorem below_drew {B : Nat} {a w : World} (h : Below B a w) : Below B a w.drew := ⟨h.os, h.tape, h.output, h.size, h.block⟩

end Go.Proofs.Ytnlnelfncejcfaa
