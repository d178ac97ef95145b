/- The plain mathematics of counts and their peaks: lists of integers alone, no program in sight. -/
import Derived.Test.YtddchlfhjiimcaaPlain
namespace Go.Proofs.Ytddchlfhjiimcaa.Pk


/-- are counts valid -/
def cOk (cs : List Int) : Bool := decide (cs.length ≤ 200) && cs.all (fun c => decide (0 ≤ c) && decide (c ≤ 9999))

theorem cOk_len {cs : List Int} (h : cOk cs = true) : cs.length ≤ 200 := by
  unfold cOk at h; simp at h; exact h.1

theorem cOk_at {cs : List Int} (h : cOk cs = true) (i : Nat) : 0 ≤ gI cs i ∧ gI cs i ≤ 9999 := by
  unfold cOk at h; simp at h
  unfold gI
  by_cases hi : i < cs.length
  · have := h.2 cs[i] (List.getElem_mem hi)
    simp [hi]; omega
  · simp [hi]

theorem cOk_mk {cs : List Int} (hl : cs.length ≤ 200) (h : ∀ i, i < cs.length → 0 ≤ gI cs i ∧ gI cs i ≤ 9999) : cOk cs = true := by
  unfold cOk; simp; refine ⟨hl, fun c hc => ?_⟩
  obtain ⟨i, hi, rfl⟩ := List.getElem_of_mem hc
  have := h i hi
  simpa [gI, hi] using this

theorem cOk_bad {cs : List Int} {i : Nat} (h : gI cs i < 0 ∨ 9999 < gI cs i) : cOk cs = false := by
  rcases hb : cOk cs with _ | _
  · rfl
  · have := cOk_at hb i; omega

/-- the first different count behind a position is less, or there is none -/
def falls (cs : List Int) (i : Nat) : Bool := decide (∀ k, k < cs.length → i < k → (∀ j, j < k → i < j → gI cs j = gI cs i) → gI cs k ≤ gI cs i)

theorem falls_no {cs : List Int} {i k : Nat} (hk : i < k) (hl : k < cs.length) (he : ∀ j, i < j → j < k → gI cs j = gI cs i) (hg : gI cs i < gI cs k) : falls cs i = false := by
  unfold falls; simp only [decide_eq_false_iff_not]; intro h
  have := h k hl hk (fun j h1 h2 => he j h2 h1); omega

theorem falls_yes {cs : List Int} {i k : Nat} (hk : i < k) (he : ∀ j, i < j → j < k → gI cs j = gI cs i) (hg : cs.length ≤ k ∨ gI cs k < gI cs i) : falls cs i = true := by
  unfold falls; simp only [decide_eq_true_eq]; intro m hl hm hj
  rcases Nat.lt_trichotomy m k with h | h | h
  · have := he m hm h; omega
  · subst h; omega
  · rcases hg with hg | hg
    · omega
    · have := hj k h hk; omega

/-- is a position a peak of at least a height -/
def isPk (cs : List Int) (least : Int) (i : Nat) : Bool := decide (least ≤ gI cs i) && (decide (i = 0) || decide (gI cs (i - 1) < gI cs i)) && falls cs i

/-- the peaks ahead of a position -/
def pks (cs : List Int) (least : Int) (k : Nat) : List Nat := (List.range k).filter (isPk cs least)

def asInts (l : List Nat) : List Int := l.map Int.ofNat

/-- what PeaksOf returns -/
def peaksOf (cs : List Int) (least : Int) : List Int := if cOk cs = true then asInts (pks cs least cs.length) else []

theorem pks_succ (cs : List Int) (least : Int) (k : Nat) : pks cs least (k + 1) = pks cs least k ++ if isPk cs least k = true then [k] else [] := by
  unfold pks
  rw [List.range_succ, List.filter_append]
  by_cases h : isPk cs least k = true <;> simp [h]

theorem pks_len (cs : List Int) (least : Int) (k : Nat) : (pks cs least k).length ≤ k := by
  unfold pks
  have := List.length_filter_le (isPk cs least) (List.range k)
  simpa using this

theorem asInts_append (a b : List Nat) : asInts (a ++ b) = asInts a ++ asInts b := by simp [asInts]
theorem asInts_len (a : List Nat) : (asInts a).length = a.length := by simp [asInts]

/-- positions with the same count as the one ahead are no peaks -/
theorem pks_flat {cs : List Int} {least : Int} {s k : Nat} (hs : s < k) (he : ∀ j, s ≤ j → j < k → gI cs j = gI cs s) : pks cs least k = pks cs least (s + 1) := by
  induction k with
  | zero => omega
  | succ k ih =>
    by_cases h : s = k
    · subst h; rfl
    · rw [pks_succ, ih (by omega) (fun j h1 h2 => he j h1 (by omega))]
      have hk := he k (by omega) (by omega)
      have hk1 := he (k - 1) (by omega) (by omega)
      have : isPk cs least k = false := by
        have h0 : (decide (k = 0)) = false := by simp; omega
        have h1 : (decide (gI cs (k - 1) < gI cs k)) = false := by simp; omega
        simp [isPk, h0, h1]
      simp [this]

/-- the run of equal counts that begins at s has ended at k -/
theorem pks_run {cs : List Int} {least : Int} {s k : Nat} (hs : s < k) (he : ∀ j, s ≤ j → j < k → gI cs j = gI cs s) :
    pks cs least k = pks cs least s ++ if isPk cs least s = true then [s] else [] := by
  rw [pks_flat hs he, pks_succ]

def rises (cs : List Int) (s : Nat) : Bool := decide (s = 0) || decide (gI cs (s - 1) < gI cs s)

theorem isPk_end {cs : List Int} {least : Int} {s k : Nat} (hs : s < k) (he : ∀ j, s ≤ j → j < k → gI cs j = gI cs s) (hk : cs.length ≤ k ∨ gI cs k < gI cs s) :
    isPk cs least s = (rises cs s && decide (least ≤ gI cs s)) := by
  have := falls_yes (cs := cs) (i := s) (k := k) hs (fun j h1 h2 => he j (by omega) h2) hk
  simp [isPk, rises, this, Bool.and_comm]

theorem isPk_up {cs : List Int} {least : Int} {s k : Nat} (hs : s < k) (hl : k < cs.length) (he : ∀ j, s ≤ j → j < k → gI cs j = gI cs s) (hk : gI cs s < gI cs k) :
    isPk cs least s = false := by
  have := falls_no (cs := cs) (i := s) (k := k) hs hl (fun j h1 h2 => he j (by omega) h2) hk
  simp [isPk, this]

/-- the first position of the greatest of the first k counts -/
def argm (cs : List Int) : Nat → Nat
  | 0 => 0
  | k + 1 => if gI cs (argm cs k) < gI cs k then k else argm cs k

theorem argm_lt (cs : List Int) (k : Nat) : argm cs k < k ∨ argm cs k = 0 := by
  induction k with
  | zero => exact .inr rfl
  | succ k ih => unfold argm; split <;> omega

def peakBest (cs : List Int) : Int := if cOk cs = true ∧ cs ≠ [] then (argm cs cs.length : Int) else -1

theorem argm_max (cs : List Int) (k : Nat) : (∀ j, j < k → gI cs j ≤ gI cs (argm cs k)) ∧ (∀ j, j < argm cs k → gI cs j < gI cs (argm cs k)) := by
  induction k with
  | zero => exact ⟨fun j h => by omega, fun j h => by simp [argm] at h⟩
  | succ k ih =>
    unfold argm
    split
    · next h =>
      refine ⟨fun j hj => ?_, fun j hj => ?_⟩
      · by_cases e : j = k
        · subst e; omega
        · have := ih.1 j (by omega); omega
      · have := ih.1 j (by omega); omega
    · next h =>
      refine ⟨fun j hj => ?_, ih.2⟩
      by_cases e : j = k
      · subst e; omega
      · exact ih.1 j (by omega)

/-- downwards from a position as long as twice the count is enough -/
def lowF (cs : List Int) (at' : Nat) : Nat → Nat
  | 0 => 0
  | f + 1 => if gI cs at' ≤ 2 * gI cs f then lowF cs at' f else f + 1

/-- upwards -/
def highF (cs : List Int) (at' : Nat) : Nat → Nat → Nat
  | 0, t => t
  | n + 1, t => if gI cs at' ≤ 2 * gI cs (t + 1) then highF cs at' n (t + 1) else t

theorem lowF_le (cs : List Int) (a f : Nat) : lowF cs a f ≤ f := by
  induction f with
  | zero => exact Nat.le_refl _
  | succ f ih => unfold lowF; split <;> omega

theorem highF_ge (cs : List Int) (a n t : Nat) : t ≤ highF cs a n t ∧ highF cs a n t ≤ t + n := by
  induction n generalizing t with
  | zero => simp [highF]
  | succ n ih =>
    unfold highF; split
    · have := ih (t + 1); omega
    · omega

def peakWidth (cs : List Int) (a : Int) : Int :=
  if cOk cs = true ∧ 0 ≤ a ∧ a < cs.length ∧ gI cs a.toNat ≠ 0 then (highF cs a.toNat (cs.length - 1 - a.toNat) a.toNat : Int) - lowF cs a.toNat a.toNat + 1 else 0

theorem lowF_spec (cs : List Int) (a f : Nat) : (∀ j, lowF cs a f ≤ j → j < f → gI cs a ≤ 2 * gI cs j) ∧ (lowF cs a f = 0 ∨ 2 * gI cs (lowF cs a f - 1) < gI cs a) := by
  induction f with
  | zero => exact ⟨fun j h1 h2 => by omega, .inl rfl⟩
  | succ f ih =>
    unfold lowF
    split
    · next h =>
      refine ⟨fun j h1 h2 => ?_, ih.2⟩
      by_cases e : j = f
      · subst e; exact h
      · exact ih.1 j h1 (by omega)
    · next h => exact ⟨fun j h1 h2 => by omega, .inr (by simp; omega)⟩

theorem highF_spec (cs : List Int) (a n t : Nat) : (∀ j, t < j → j ≤ highF cs a n t → gI cs a ≤ 2 * gI cs j) ∧ (highF cs a n t = t + n ∨ 2 * gI cs (highF cs a n t + 1) < gI cs a) := by
  induction n generalizing t with
  | zero => exact ⟨fun j h1 h2 => by simp [highF] at h2; omega, .inl rfl⟩
  | succ n ih =>
    unfold highF
    split
    · next h =>
      refine ⟨fun j h1 h2 => ?_, ?_⟩
      · by_cases e : j = t + 1
        · subst e; exact h
        · exact (ih (t + 1)).1 j (by omega) h2
      · rcases (ih (t + 1)).2 with h | h <;> omega
    · next h => exact ⟨fun j h1 h2 => by omega, .inr (by omega)⟩

end Go.Proofs.Ytddchlfhjiimcaa.Pk
