/- Plain laws on matching, for the statements. -/
import Derived.Test.YtpkfpegilhadfabMtMatch
set_option linter.unusedVariables false
namespace Go.Proofs.Ytpkfpegilhadfab.Mt

/-- a line matches itself -/
theorem best_self {L : List Line} {out : Nat} (h : out < L.length) : ∃ k : Nat, k < L.length ∧ bestL L (gX L out).n 0 = k ∧ (gX L k).n = (gX L out).n := by
  rcases bestL_is L (gX L out).n 0 with ⟨_, h2⟩ | ⟨k, h1, h2, h3, _⟩
  · have := h2 out h; unfold off at this; omega
  · refine ⟨k, h1, h2, ?_⟩; unfold off at h3; omega
/-- with less tolerance: the same line or none -/
theorem best_less {L : List Line} {seen tol t : Int} (ht : t ≤ tol) : bestL L seen t = bestL L seen tol ∨ bestL L seen t = -1 := by
  rcases bestL_is L seen t with ⟨h, _⟩ | ⟨k, h1, h2, h3, h4, h5⟩
  · right; exact h
  · left; rw [h2]; symm; exact bestL_of (.inr ⟨k, h1, rfl, by omega, h4, h5⟩)
/-- the best line is one that matches -/
theorem best_in {L : List Line} {seen tol : Int} {k : Nat} (h : bestL L seen tol = k) : k < L.length ∧ gX L k ∈ nearL L seen tol := by
  rcases bestL_is L seen tol with ⟨h1, _⟩ | ⟨q, h1, h2, h3, _⟩
  · omega
  · obtain rfl : k = q := by omega
    refine ⟨h1, List.mem_filter.2 ⟨gX_mem h1, ?_⟩⟩
    unfold off at h3; simpa using h3
theorem allOk_snoc {s : List Nd} {seen : List Int} {tol x : Int} (h : allOk s seen tol = true) (hx : 0 ≤ x ∧ x ≤ 200000) : allOk s (seen ++ [x]) tol = decide (seen.length < 40) := by
  obtain ⟨h1, h2, h3, h4, h5⟩ := allOk_parts h
  by_cases c : seen.length < 40
  · rw [decide_eq_true c]
    refine allOk_mk h1 (by simp; omega) h3 h4 fun i hi => ?_
    simp only [List.length_append, List.length_singleton] at hi
    by_cases e : i < seen.length
    · have : gI (seen ++ [x]) i = gI seen i := by simp [gI, List.getElem?_append_left e]
      rw [this]; exact h5 i e
    · obtain rfl : i = seen.length := by omega
      have : gI (seen ++ [x]) seen.length = x := by simp [gI]
      rw [this]; exact hx
  · rw [decide_eq_false c]
    exact allOk_no fun hh => by have := hh.2.1; simp at this; omega
theorem allL_snoc (L : List Line) (seen : List Int) (tol x : Int) : allL L (seen ++ [x]) tol = allL L seen tol ++ [bestL L x tol] := by simp [allL]
theorem allL_append (L : List Line) (a b : List Int) (tol : Int) : allL L (a ++ b) tol = allL L a tol ++ allL L b tol := by simp [allL]
theorem allOk_part {s : List Nd} {seen : List Int} {tol : Int} (h : allOk s seen tol = true) {a : List Int} (hl : a.length ≤ 40) (ha : ∀ z ∈ a, z ∈ seen) : allOk s a tol = true := by
  obtain ⟨h1, h2, h3, h4, h5⟩ := allOk_parts h
  refine allOk_mk h1 hl h3 h4 fun i hi => ?_
  obtain ⟨j, hj, e⟩ := List.getElem_of_mem (ha _ (gI_mem hi))
  have := h5 j hj
  rw [gI_lt hj, e] at this; exact this
theorem missing_more {s : List Nd} {seen : List Int} {tol x : Int} (h : allOk s seen tol = true) (hx : 0 ≤ x ∧ x ≤ 200000) (hl : seen.length < 40) :
    (matchMissing s (seen ++ [x]) tol).length ≤ (matchMissing s seen tol).length ∧ (matchMissing s seen tol).length ≤ (matchMissing s (seen ++ [x]) tol).length + 1 := by
  unfold matchMissing
  rw [if_pos h, if_pos (by rw [allOk_snoc h hx]; simpa using hl), allL_snoc]
  have := miss_more (allL (lines s) seen tol) (bestL (lines s) x tol) (lines s).length
  split at this <;> omega
end Go.Proofs.Ytpkfpegilhadfab.Mt
