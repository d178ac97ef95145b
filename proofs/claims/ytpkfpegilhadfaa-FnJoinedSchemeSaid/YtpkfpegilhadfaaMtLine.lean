/- Contracts of the small functions on lines: compared, marked, held. A line in memory is three ints. -/
import Derived.Test.YtpkfpegilhadfaaMtMem
import Derived.Test.YtpkfpegilhadfaaLkBase
import Derived.Test.YtpkfpegilhadfaaMtMatch
namespace Go.Proofs.Ytpkfpegilhadfaa
open Go.RowKit Lk

/-- what marking from k leaves -/
def markedL (k : Int) (n : Nat) : List Link := (List.range n).map fun (i : Nat) => ⟨k + 3 * (i : Int), k + 3 * (i : Int) + 1, k + 3 * (i : Int) + 1 + 1⟩
theorem markedL_len (k : Int) (n : Nat) : (markedL k n).length = n := by simp [markedL]
theorem markedL_at {k : Int} {n i : Nat} (h : i < n) : gL (markedL k n) i = ⟨k + 3 * (i : Int), k + 3 * (i : Int) + 1, k + 3 * (i : Int) + 1 + 1⟩ := by simp [gL, markedL, h]
theorem markedL_in {k : Int} {n : Nat} (h0 : 0 ≤ k) (h : k + 3 * n ≤ 33554432) : ∀ l ∈ markedL k n, InL l := by
  intro l hl
  simp only [markedL, List.mem_map, List.mem_range] at hl
  obtain ⟨i, hi, rfl⟩ := hl
  unfold InL InI; dsimp only; omega

/-- a line as it lies in memory -/
def lm (x : Mt.Line) : Link := ⟨x.u, x.l, x.n⟩
theorem gL_lm (L : List Mt.Line) (i : Nat) : gL (L.map lm) i = lm (Mt.gX L i) := by
  unfold gL Mt.gX
  rw [List.getElem?_map]
  cases L[i]? <;> rfl
theorem lm_inj {a b : Mt.Line} (h : lm a = lm b) : a = b := by
  obtain ⟨a1, a2, a3⟩ := a
  obtain ⟨b1, b2, b3⟩ := b
  simp [lm] at h
  rw [h.1, h.2.1, h.2.2]
theorem lines_inL {s : List Mt.Nd} : ∀ l ∈ (Mt.lines s).map lm, InL l := by
  intro l hl
  obtain ⟨x, hx, rfl⟩ := List.mem_map.1 hl
  have ho : Mt.sOk s = true := by
    rcases h : Mt.sOk s with _ | _
    · unfold Mt.lines at hx; rw [h] at hx; cases hx
    · rfl
  have := Mt.lines_in ho hx
  have := Mt.sOk_bd ho
  unfold InL InI lm; dsimp only; omega
end Go.Proofs.Ytpkfpegilhadfaa
