/- The plain mathematics of marks on a plate. -/
import Derived.Test.YtdhpnjmnjckihaaPlain
namespace Go.Proofs.Ytdhpnjmnjckihaa.Mk

structure Mrk where
  p : Int
  n : Int
deriving DecidableEq, Inhabited
def gM (s : List Mrk) (i : Nat) : Mrk := s[i]?.getD ⟨0, 0⟩
theorem gM_lt {s : List Mrk} {i : Nat} (h : i < s.length) : gM s i = s[i] := by simp [gM, h]
theorem gM_mem {s : List Mrk} {i : Nat} (h : i < s.length) : gM s i ∈ s := by rw [gM_lt h]; exact List.getElem_mem h
theorem gM_ext {xs ys : List Mrk} (hl : xs.length = ys.length) (h : ∀ i, i < xs.length → gM xs i = gM ys i) : xs = ys := by
  apply List.ext_getElem hl
  intro i h1 h2
  have := h i h1
  rwa [gM_lt h1, gM_lt h2] at this
theorem take_snocM {s : List Mrk} {k : Nat} (h : k < s.length) : s.take (k + 1) = s.take k ++ [gM s k] := by
  rw [List.take_succ_eq_append_getElem h, gM_lt h]

def okM (s : List Mrk) (i : Nat) : Prop :=
  0 ≤ (gM s i).p ∧ (gM s i).p ≤ 100000 ∧ 0 ≤ (gM s i).n ∧ (gM s i).n ≤ 200000 ∧ (0 < i → (gM s (i - 1)).p < (gM s i).p ∧ (gM s (i - 1)).n < (gM s i).n)
instance (s : List Mrk) (i : Nat) : Decidable (okM s i) := by unfold okM; exact inferInstance
def mkOk (s : List Mrk) : Bool := decide (2 ≤ s.length ∧ s.length ≤ 10) && decide (∀ i, i < s.length → okM s i)
theorem mkOk_len {s : List Mrk} (h : mkOk s = true) : 2 ≤ s.length ∧ s.length ≤ 10 := by unfold mkOk at h; simp at h; omega
theorem mkOk_at {s : List Mrk} (h : mkOk s = true) {i : Nat} (hi : i < s.length) : okM s i := by unfold mkOk at h; simp at h; exact h.2 i hi
theorem mkOk_mk {s : List Mrk} (h1 : 2 ≤ s.length) (h2 : s.length ≤ 10) (h : ∀ i, i < s.length → okM s i) : mkOk s = true := by unfold mkOk; simp; exact ⟨⟨h1, h2⟩, h⟩
theorem mkOk_bad {s : List Mrk} {i : Nat} (hi : i < s.length) (h : ¬ okM s i) : mkOk s = false := by
  rcases hb : mkOk s with _ | _
  · rfl
  · exact absurd (mkOk_at hb hi) h
theorem mkOk_no {s : List Mrk} (h : s.length < 2 ∨ 10 < s.length) : mkOk s = false := by
  rcases hb : mkOk s with _ | _
  · rfl
  · have := mkOk_len hb; omega
theorem mkOk_take {s : List Mrk} {k : Nat} (h : mkOk s = true) (hk : k ≤ s.length) : mkOk (s.take k) = decide (2 ≤ k) := by
  have hl := mkOk_len h
  have e : (s.take k).length = k := by simp; omega
  by_cases c : 2 ≤ k
  · rw [decide_eq_true c]
    refine mkOk_mk (by omega) (by omega) fun i hi => ?_
    have o := mkOk_at h (i := i) (by omega)
    have g : ∀ j, j < k → gM (s.take k) j = gM s j := fun j hj => by simp [gM, hj]
    unfold okM
    rw [g i (by omega)]
    refine ⟨o.1, o.2.1, o.2.2.1, o.2.2.2.1, fun h0 => ?_⟩
    rw [g (i - 1) (by omega)]; exact o.2.2.2.2 h0
  · rw [decide_eq_false c]; exact mkOk_no (by omega)
theorem mkOk_twice (s : List Mrk) (h : 1 ≤ s.length) : mkOk (gM s 0 :: s) = false := by
  refine mkOk_bad (i := 1) (by simp; omega) fun o => ?_
  have := (o.2.2.2.2 (by omega)).1
  have e1 : gM (gM s 0 :: s) 1 = gM s 0 := by simp [gM]
  have e0 : gM (gM s 0 :: s) (1 - 1) = gM s 0 := by simp [gM]
  rw [e1, e0] at this; omega
/-- all positions moved -/
def moved (s : List Mrk) (by' : Int) : List Mrk := s.map fun m => ⟨m.p + by', m.n⟩
theorem moved_len (s : List Mrk) (b : Int) : (moved s b).length = s.length := by simp [moved]
theorem moved_at {s : List Mrk} {b : Int} {i : Nat} (h : i < s.length) : gM (moved s b) i = ⟨(gM s i).p + b, (gM s i).n⟩ := by simp [gM, moved, h]
theorem moved_back (s : List Mrk) (b : Int) : moved (moved s b) (0 - b) = s := by
  apply gM_ext (by simp [moved])
  intro i hi
  rw [moved_len, moved_len] at hi
  rw [moved_at (by rw [moved_len]; exact hi), moved_at hi]
  dsimp only
  rw [show (gM s i).p + b + (0 - b) = (gM s i).p by omega]
/-- MarkShift's result -/
def shiftOk (s : List Mrk) (b : Int) : Bool := mkOk s && decide (-100000 ≤ b ∧ b ≤ 100000) && mkOk (moved s b)
theorem shiftOk_parts {s : List Mrk} {b : Int} (h : shiftOk s b = true) : mkOk s = true ∧ -100000 ≤ b ∧ b ≤ 100000 ∧ mkOk (moved s b) = true := by
  unfold shiftOk at h; simp at h; exact ⟨h.1.1, h.1.2.1, h.1.2.2, h.2⟩
theorem shiftOk_back {s : List Mrk} {b : Int} (h : shiftOk s b = true) : shiftOk (moved s b) (0 - b) = true := by
  obtain ⟨h1, h2, h3, h4⟩ := shiftOk_parts h
  unfold shiftOk
  rw [moved_back, h1, h4]; simp; omega
end Go.Proofs.Ytdhpnjmnjckihaa.Mk
