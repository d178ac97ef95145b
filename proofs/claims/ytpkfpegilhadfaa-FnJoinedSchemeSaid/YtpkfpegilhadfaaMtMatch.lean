/- The plain mathematics of matching: the nearest line, the lines that match, the lines that nothing matches. -/
import Derived.Test.YtpkfpegilhadfaaMtPlain
namespace Go.Proofs.Ytpkfpegilhadfaa.Mt

/-- how far a line is from a measured number -/
def off (L : List Line) (seen : Int) (i : Nat) : Int := (((gX L i).n - seen).natAbs : Int)
/-- the wave numbers ascend -/
def Asc (L : List Line) : Prop := ∀ i k, i ≤ k → k < L.length → (gX L i).n ≤ (gX L k).n
theorem lines_asc (s : List Nd) : Asc (lines s) := fun _ _ h hk => lines_num h hk

/-- b is the first of the nearest lines, or -1 if none is near enough -/
def Best (L : List Line) (seen tol b : Int) : Prop :=
  (b = -1 ∧ ∀ i, i < L.length → tol < off L seen i) ∨
  (∃ k : Nat, k < L.length ∧ b = k ∧ off L seen k ≤ tol ∧ (∀ i, i < L.length → off L seen k ≤ off L seen i) ∧ ∀ i, i < k → off L seen k < off L seen i)
theorem best_unique {L : List Line} {seen tol b c : Int} (h : Best L seen tol b) (k : Best L seen tol c) : b = c := by
  rcases h with ⟨h1, h2⟩ | ⟨i, h1, h2, h3, h4, h5⟩ <;> rcases k with ⟨k1, k2⟩ | ⟨j, k1, k2, k3, k4, k5⟩
  · rw [h1, k1]
  · have := h2 j k1; omega
  · have := k2 i h1; omega
  · rcases Nat.lt_trichotomy i j with c | c | c
    · have := k5 i c
      have := h4 j k1; omega
    · rw [h2, k2, c]
    · have := h5 j c
      have := k4 i h1; omega
/-- the reference's search: the first k lines -/
def scan (L : List Line) (seen tol : Int) : Nat → Int
  | 0 => -1
  | k + 1 => if off L seen k ≤ tol ∧ (scan L seen tol k < 0 ∨ off L seen k < off L seen (scan L seen tol k).toNat) then k else scan L seen tol k
theorem scan_spec (L : List Line) (seen tol : Int) (m : Nat) :
    (scan L seen tol m = -1 ∧ ∀ i, i < m → tol < off L seen i) ∨
    (∃ k : Nat, k < m ∧ scan L seen tol m = k ∧ off L seen k ≤ tol ∧ (∀ i, i < m → off L seen k ≤ off L seen i) ∧ ∀ i, i < k → off L seen k < off L seen i) := by
  induction m with
  | zero => exact .inl ⟨rfl, fun i h => by omega⟩
  | succ m ih =>
    unfold scan
    rcases ih with ⟨h1, h2⟩ | ⟨k, h1, h2, h3, h4, h5⟩
    · split
      · rename_i c
        right
        refine ⟨m, by omega, rfl, c.1, fun i hi => ?_, fun i hi => ?_⟩
        · by_cases e : i = m
          · rw [e]; exact Int.le_refl _
          · have := h2 i (by omega); omega
        · have := h2 i hi; omega
      · rename_i c
        left
        refine ⟨h1, fun i hi => ?_⟩
        by_cases e : i = m
        · rw [e]; rw [h1] at c; omega
        · exact h2 i (by omega)
    · rw [h2, Int.toNat_natCast]
      split
      · rename_i c
        right
        refine ⟨m, by omega, rfl, c.1, fun i hi => ?_, fun i hi => ?_⟩
        · by_cases e : i = m
          · rw [e]; exact Int.le_refl _
          · have := h4 i (by omega); omega
        · have := h4 i hi; omega
      · rename_i c
        right
        refine ⟨k, by omega, rfl, h3, fun i hi => ?_, h5⟩
        by_cases e : i = m
        · rw [e]; omega
        · exact h4 i (by omega)
/-- the first of the nearest lines -/
def bestL (L : List Line) (seen tol : Int) : Int := scan L seen tol L.length
theorem bestL_is (L : List Line) (seen tol : Int) : Best L seen tol (bestL L seen tol) := scan_spec L seen tol L.length
theorem bestL_of {L : List Line} {seen tol b : Int} (h : Best L seen tol b) : bestL L seen tol = b := best_unique (bestL_is L seen tol) h
theorem bestL_bd (L : List Line) (seen tol : Int) : -1 ≤ bestL L seen tol ∧ bestL L seen tol < L.length := by
  rcases bestL_is L seen tol with ⟨h, _⟩ | ⟨k, h1, h2, _⟩ <;> omega

/-- q is the first line whose number is at least x -/
def First (L : List Line) (x : Int) (q : Nat) : Prop := q ≤ L.length ∧ (∀ i, i < q → (gX L i).n < x) ∧ ∀ i, q ≤ i → i < L.length → x ≤ (gX L i).n
/-- the program's search -/
theorem near_left {L : List Line} {seen : Int} {a q : Nat} (ha : First L seen a) (h0 : 0 < a) (hq : First L (gX L (a - 1)).n q) (hL : Asc L) :
    q < a ∧ (∀ i, i < a → off L seen q ≤ off L seen i) ∧ (∀ i, i < q → off L seen q < off L seen i) ∧ off L seen q = seen - (gX L q).n := by
  obtain ⟨a1, a2, a3⟩ := ha
  obtain ⟨q1, q2, q3⟩ := hq
  have hqa : q < a := by
    rcases Nat.lt_or_ge q a with c | c
    · exact c
    · have := q2 (a - 1) (by omega); omega
  have e1 := q3 q (Nat.le_refl _) (by omega)
  have e2 := hL q (a - 1) (by omega) (by omega)
  have e3 := a2 q hqa
  have e4 := a2 (a - 1) (by omega)
  refine ⟨hqa, fun i hi => ?_, fun i hi => ?_, by unfold off; omega⟩
  · have := a2 i hi
    have := hL i (a - 1) (by omega) (by omega)
    unfold off; omega
  · have := q2 i hi
    have := a2 i (by omega)
    unfold off; omega
theorem near_right {L : List Line} {seen : Int} {a : Nat} (ha : First L seen a) (h : a < L.length) (hL : Asc L) :
    (∀ i, a ≤ i → i < L.length → off L seen a ≤ off L seen i) ∧ off L seen a = (gX L a).n - seen := by
  obtain ⟨a1, a2, a3⟩ := ha
  have := a3 a (Nat.le_refl _) h
  refine ⟨fun i h1 h2 => ?_, by unfold off; omega⟩
  have := hL a i h1 h2
  unfold off; omega
theorem best_left {L : List Line} {seen tol : Int} {a q : Nat} (ha : First L seen a) (h0 : 0 < a) (hq : First L (gX L (a - 1)).n q) (hL : Asc L)
    (hr : a < L.length → ¬ (gX L a).n - seen < seen - (gX L q).n) : bestL L seen tol = if tol < off L seen q then -1 else (q : Int) := by
  obtain ⟨h1, h2, h3, h4⟩ := near_left ha h0 hq hL
  have hal := ha.1
  have hall : ∀ i, i < L.length → off L seen q ≤ off L seen i := fun i hi => by
    by_cases c : i < a
    · exact h2 i c
    · have r := near_right ha (by omega) hL
      have := hr (by omega)
      have := r.1 i (by omega) hi
      omega
  apply bestL_of
  split
  · exact .inl ⟨rfl, fun i hi => by have := hall i hi; omega⟩
  · exact .inr ⟨q, by omega, rfl, by omega, hall, h3⟩
theorem best_right {L : List Line} {seen tol : Int} {a : Nat} (ha : First L seen a) (h : a < L.length) (hL : Asc L)
    (hl : 0 < a → ∃ q, First L (gX L (a - 1)).n q ∧ (gX L a).n - seen < seen - (gX L q).n) : bestL L seen tol = if tol < off L seen a then -1 else (a : Int) := by
  obtain ⟨r1, r2⟩ := near_right ha h hL
  have hlow : ∀ i, i < a → off L seen a < off L seen i := fun i hi => by
    obtain ⟨q, hq, hlt⟩ := hl (by omega)
    obtain ⟨h1, h2, h3, h4⟩ := near_left ha (by omega) hq hL
    have := h2 i hi
    omega
  have hall : ∀ i, i < L.length → off L seen a ≤ off L seen i := fun i hi => by
    by_cases c : i < a
    · have := hlow i c; omega
    · exact r1 i (by omega) hi
  apply bestL_of
  split
  · exact .inl ⟨rfl, fun i hi => by have := hall i hi; omega⟩
  · exact .inr ⟨a, h, rfl, by omega, hall, hlow⟩
theorem best_none {L : List Line} {seen tol : Int} (h : L.length = 0) : bestL L seen tol = -1 := by
  unfold bestL; rw [h]; rfl

/-- may a number and a tolerance be matched -/
def mOk (seen tol : Int) : Bool := decide (0 ≤ seen ∧ seen ≤ 200000 ∧ 0 ≤ tol ∧ tol ≤ 1000)
theorem mOk_iff {seen tol : Int} : mOk seen tol = true ↔ 0 ≤ seen ∧ seen ≤ 200000 ∧ 0 ≤ tol ∧ tol ≤ 1000 := by simp [mOk]
/-- MatchBest's result -/
def matchBest (s : List Nd) (seen tol : Int) : Int := if sOk s = true ∧ mOk seen tol = true then bestL (lines s) seen tol else -1
/-- MatchLines' result -/
def nearL (L : List Line) (seen tol : Int) : List Line := L.filter fun x => decide (((x.n - seen).natAbs : Int) ≤ tol)
def matchLines (s : List Nd) (seen tol : Int) : List Line := if sOk s = true ∧ mOk seen tol = true then nearL (lines s) seen tol else []
theorem filter_none {L : List Line} {p : Line → Bool} (h : ∀ x ∈ L, p x = false) : L.filter p = [] := by
  rw [List.filter_eq_nil_iff]
  intro x hx; rw [h x hx]; simp
theorem filter_all {L : List Line} {p : Line → Bool} (h : ∀ x ∈ L, p x = true) : L.filter p = L := List.filter_eq_self.2 h
theorem nearL_span {L : List Line} {seen tol : Int} {a b : Nat} (_h0 : 0 ≤ tol) (ha : First L (seen - tol) a) (hb : First L (seen + tol + 1) b) : nearL L seen tol = (L.drop a).take (b - a) ∧ a ≤ b ∧ b ≤ L.length := by
  obtain ⟨a1, a2, a3⟩ := ha
  obtain ⟨b1, b2, b3⟩ := hb
  have hab : a ≤ b := by
    rcases Nat.lt_or_ge b a with c | c
    · have := a2 b c
      have := b3 b (Nat.le_refl _) (by omega); omega
    · exact c
  refine ⟨?_, hab, b1⟩
  have e1 : L = L.take a ++ ((L.drop a).take (b - a) ++ L.drop b) := by
    have h1 := List.take_append_drop a L
    have h2 := List.take_append_drop (b - a) (L.drop a)
    rw [List.drop_drop, show a + (b - a) = b by omega] at h2
    rw [h2, h1]
  have f1 : (L.take a).filter (fun x => decide (((x.n - seen).natAbs : Int) ≤ tol)) = [] := filter_none fun x hx => by
    obtain ⟨i, hi, rfl⟩ := List.getElem_of_mem hx
    rw [List.length_take] at hi
    have := a2 i (by omega)
    rw [gX_lt (by omega)] at this
    rw [List.getElem_take]
    simp; omega
  have f2 : (L.drop b).filter (fun x => decide (((x.n - seen).natAbs : Int) ≤ tol)) = [] := filter_none fun x hx => by
    obtain ⟨i, hi, rfl⟩ := List.getElem_of_mem hx
    rw [List.length_drop] at hi
    have := b3 (b + i) (by omega) (by omega)
    rw [gX_lt (by omega)] at this
    rw [List.getElem_drop]
    simp; omega
  have f3 : ((L.drop a).take (b - a)).filter (fun x => decide (((x.n - seen).natAbs : Int) ≤ tol)) = (L.drop a).take (b - a) := filter_all fun x hx => by
    obtain ⟨i, hi, rfl⟩ := List.getElem_of_mem hx
    rw [List.length_take, List.length_drop] at hi
    have h1 := a3 (a + i) (by omega) (by omega)
    have h2 := b2 (a + i) (by omega)
    rw [gX_lt (by omega)] at h1 h2
    rw [List.getElem_take, List.getElem_drop]
    simp; omega
  unfold nearL
  conv => lhs; rw [e1]
  rw [List.filter_append, List.filter_append, f1, f2, f3]; simp

/-- MatchAll's result -/
def allOk (s : List Nd) (seen : List Int) (tol : Int) : Bool := sOk s && decide (seen.length ≤ 40 ∧ 0 ≤ tol ∧ tol ≤ 1000) && decide (∀ i, i < seen.length → 0 ≤ gI seen i ∧ gI seen i ≤ 200000)
theorem allOk_parts {s : List Nd} {seen : List Int} {tol : Int} (h : allOk s seen tol = true) : sOk s = true ∧ seen.length ≤ 40 ∧ 0 ≤ tol ∧ tol ≤ 1000 ∧ ∀ i, i < seen.length → 0 ≤ gI seen i ∧ gI seen i ≤ 200000 := by
  unfold allOk at h; simp at h; exact ⟨h.1.1, h.1.2.1, h.1.2.2.1, h.1.2.2.2, h.2⟩
theorem allOk_mk {s : List Nd} {seen : List Int} {tol : Int} (h1 : sOk s = true) (h2 : seen.length ≤ 40) (h3 : 0 ≤ tol) (h4 : tol ≤ 1000) (h5 : ∀ i, i < seen.length → 0 ≤ gI seen i ∧ gI seen i ≤ 200000) : allOk s seen tol = true := by
  unfold allOk; simp; exact ⟨⟨h1, h2, h3, h4⟩, h5⟩
theorem allOk_no {s : List Nd} {seen : List Int} {tol : Int} (h : ¬ (sOk s = true ∧ seen.length ≤ 40 ∧ 0 ≤ tol ∧ tol ≤ 1000 ∧ ∀ i, i < seen.length → 0 ≤ gI seen i ∧ gI seen i ≤ 200000)) : allOk s seen tol = false := by
  rcases hb : allOk s seen tol with _ | _
  · rfl
  · exact absurd (allOk_parts hb) h
def allL (L : List Line) (seen : List Int) (tol : Int) : List Int := seen.map fun x => bestL L x tol
theorem allL_len (L : List Line) (seen : List Int) (tol : Int) : (allL L seen tol).length = seen.length := by simp [allL]
theorem allL_at {L : List Line} {seen : List Int} {tol : Int} {i : Nat} (h : i < seen.length) : gI (allL L seen tol) i = bestL L (gI seen i) tol := by simp [gI, allL, h]
theorem allL_take {L : List Line} {seen : List Int} {tol : Int} {k : Nat} (h : k < seen.length) : allL L (seen.take (k + 1)) tol = allL L (seen.take k) tol ++ [bestL L (gI seen k) tol] := by
  rw [take_snoc h]; simp [allL]
def matchAll (s : List Nd) (seen : List Int) (tol : Int) : List Int := if allOk s seen tol = true then allL (lines s) seen tol else []

/-- the first k places that a list does not name -/
def miss (best : List Int) (k : Nat) : List Int := ((List.range k).filter fun (i : Nat) => !best.contains (Int.ofNat i)).map Int.ofNat
theorem miss_succ (best : List Int) (k : Nat) : miss best (k + 1) = miss best k ++ if best.contains (Int.ofNat k) = true then [] else [Int.ofNat k] := by
  unfold miss
  rw [List.range_succ, List.filter_append, List.map_append]
  congr 1
  rcases h : best.contains (Int.ofNat k) with _ | _ <;> rw [List.filter_cons, h] <;> simp
theorem miss_len (best : List Int) (k : Nat) : (miss best k).length ≤ k := by
  induction k with
  | zero => simp [miss]
  | succ k ih => rw [miss_succ]; split <;> simp <;> omega
theorem miss_in (best : List Int) (k : Nat) : ∀ z ∈ miss best k, 0 ≤ z ∧ z < k := by
  intro z hz
  unfold miss at hz
  obtain ⟨i, hi, rfl⟩ := List.mem_map.1 hz
  have := List.mem_range.1 (List.mem_filter.1 hi).1
  constructor
  · exact Int.natCast_nonneg i
  · show (i : Int) < k; omega
/-- a further name leaves out one place at most -/
theorem miss_more (best : List Int) (x : Int) (k : Nat) : (miss (best ++ [x]) k).length ≤ (miss best k).length ∧ (miss best k).length ≤ (miss (best ++ [x]) k).length + (if 0 ≤ x ∧ x < k then 1 else 0) := by
  induction k with
  | zero => simp [miss]
  | succ k ih =>
    rw [miss_succ, miss_succ, List.length_append, List.length_append]
    have e : (best ++ [x]).contains (Int.ofNat k) = (best.contains (Int.ofNat k) || decide (Int.ofNat k = x)) := by
      rw [Bool.eq_iff_iff]; simp
    rw [e]
    obtain ⟨a, b⟩ := ih
    have hk : Int.ofNat k = (k : Int) := rfl
    rcases h1 : best.contains (Int.ofNat k) with _ | _
    · by_cases h2 : Int.ofNat k = x
      · have h3 : ¬ (0 ≤ x ∧ x < (k : Int)) := by omega
        have h4 : 0 ≤ x ∧ x < ((k + 1 : Nat) : Int) := by omega
        rw [if_neg h3] at b
        rw [if_pos h4, decide_eq_true h2, Bool.or_true, if_pos rfl, if_neg (by simp)]
        simp only [List.length_nil, List.length_singleton]; omega
      · rw [decide_eq_false h2, Bool.or_false, if_neg (by simp)]
        simp only [List.length_singleton]
        split at b <;> split <;> omega
    · rw [Bool.true_or, if_pos rfl]
      simp only [List.length_nil]
      split at b <;> split <;> omega
def matchMissing (s : List Nd) (seen : List Int) (tol : Int) : List Int := if allOk s seen tol = true then miss (allL (lines s) seen tol) (lines s).length else []
end Go.Proofs.Ytpkfpegilhadfaa.Mt
