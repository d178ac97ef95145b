/- Plain laws of peaks: what the functions on lists of counts answer, with no program in sight. -/
import Derived.Test.YtddchlfhjiimcaaPkPlain
namespace Go.Proofs.Ytddchlfhjiimcaa.Pk

theorem falls_at {cs : List Int} {i : Nat} (h : falls cs i = true) {k : Nat} (hk : i < k) (hl : k < cs.length) (he : ∀ j, i < j → j < k → gI cs j = gI cs i) : gI cs k ≤ gI cs i := by
  unfold falls at h; simp only [decide_eq_true_eq] at h
  exact h k hl hk (fun j h1 h2 => he j h2 h1)

theorem falls_next {cs : List Int} {i : Nat} (h : falls cs i = true) (hl : i + 1 < cs.length) : gI cs (i + 1) ≤ gI cs i :=
  falls_at h (Nat.lt_succ_self i) hl (fun j h1 h2 => by omega)

/-- the first place behind i up to k whose count differs -/
theorem first_other {cs : List Int} {i k : Nat} (hk : i < k) (hne : gI cs k ≠ gI cs i) : ∃ m, i < m ∧ m ≤ k ∧ gI cs m ≠ gI cs i ∧ ∀ j, i < j → j < m → gI cs j = gI cs i := by
  induction k with
  | zero => omega
  | succ k ih =>
    by_cases h : i < k ∧ gI cs k ≠ gI cs i
    · obtain ⟨m, h1, h2, h3, h4⟩ := ih h.1 h.2
      exact ⟨m, h1, by omega, h3, h4⟩
    · by_cases hall : ∀ j, i < j → j < k + 1 → gI cs j = gI cs i
      · exact ⟨k + 1, hk, Nat.le_refl _, hne, hall⟩
      · have : ∃ j, i < j ∧ j < k + 1 ∧ gI cs j ≠ gI cs i := by
          apply Classical.byContradiction
          intro hno
          exact hall fun j h1 h2 => Classical.byContradiction fun hj => hno ⟨j, h1, h2, hj⟩
        obtain ⟨j, h1, h2, h3⟩ := this
        have hjk : j ≠ k := by
          rintro rfl
          exact h ⟨h1, h3⟩
        by_cases hik : i < k
        · have hkk : gI cs k = gI cs i := Classical.byContradiction fun hc => h ⟨hik, hc⟩
          -- an elder place differs: the least of these by strong induction
          have : ∀ n, i < n → n ≤ k → gI cs n ≠ gI cs i → ∃ m, i < m ∧ m ≤ n ∧ gI cs m ≠ gI cs i ∧ ∀ j, i < j → j < m → gI cs j = gI cs i := by
            intro n
            induction n using Nat.strongRecOn with
            | ind n ihn =>
              intro hn hnk hnn
              by_cases hall2 : ∀ j, i < j → j < n → gI cs j = gI cs i
              · exact ⟨n, hn, Nat.le_refl _, hnn, hall2⟩
              · have : ∃ j, i < j ∧ j < n ∧ gI cs j ≠ gI cs i := by
                  apply Classical.byContradiction
                  intro hno
                  exact hall2 fun j h1 h2 => Classical.byContradiction fun hj => hno ⟨j, h1, h2, hj⟩
                obtain ⟨j', a, b, c⟩ := this
                obtain ⟨m, p, q, r, s⟩ := ihn j' b a (by omega) c
                exact ⟨m, p, by omega, r, s⟩
          obtain ⟨m, p, q, r, s⟩ := this j h1 (by omega) h3
          exact ⟨m, p, by omega, r, s⟩
        · omega

/-- falls, said with any place behind -/
theorem falls_iff {cs : List Int} {i : Nat} : falls cs i = true ↔ ∀ k, i < k → k < cs.length → (∀ j, i < j → j < k → gI cs j = gI cs i) → gI cs k ≤ gI cs i := by
  unfold falls; simp only [decide_eq_true_eq]
  exact ⟨fun h k a b c => h k b a (fun j x y => c j y x), fun h k a b c => h k b a (fun j x y => c j y x)⟩

structure Peak (cs : List Int) (least : Int) (i : Nat) : Prop where
  high : least ≤ gI cs i
  up : i = 0 ∨ gI cs (i - 1) < gI cs i
  down : falls cs i = true

theorem isPk_iff {cs : List Int} {least : Int} {i : Nat} : isPk cs least i = true ↔ Peak cs least i := by
  unfold isPk
  simp only [Bool.and_eq_true, Bool.or_eq_true, decide_eq_true_eq]
  exact ⟨fun ⟨⟨a, b⟩, c⟩ => ⟨a, b, c⟩, fun ⟨a, b, c⟩ => ⟨⟨a, b⟩, c⟩⟩

theorem mem_pks {cs : List Int} {least : Int} {k i : Nat} : i ∈ pks cs least k ↔ i < k ∧ Peak cs least i := by
  unfold pks; rw [List.mem_filter, List.mem_range, isPk_iff]

theorem pks_sorted (cs : List Int) (least : Int) (k : Nat) : (pks cs least k).Pairwise (· < ·) := by
  unfold pks; exact List.Pairwise.filter _ List.pairwise_lt_range

/-- between two peaks there is less than both -/
theorem between {cs : List Int} {l : Int} {p q : Nat} (hp : Peak cs l p) (hq : Peak cs l q) (h : p < q) (hl : q < cs.length) :
    p + 1 < q ∧ gI cs (q - 1) < gI cs q ∧ ∃ k, p < k ∧ k < q ∧ gI cs k < gI cs p := by
  have hu : gI cs (q - 1) < gI cs q := by rcases hq.up with e | e <;> omega
  by_cases hall : ∀ j, p < j → j < q → gI cs j = gI cs p
  · have := falls_at hp.down h hl hall
    by_cases e : q = p + 1
    · subst e; simp at hu; omega
    · have := hall (q - 1) (by omega) (by omega); omega
  · have : ∃ j, p < j ∧ j < q ∧ gI cs j ≠ gI cs p := by
      apply Classical.byContradiction
      intro hno
      exact hall fun j h1 h2 => Classical.byContradiction fun hj => hno ⟨j, h1, h2, hj⟩
    obtain ⟨j, a, b, c⟩ := this
    obtain ⟨m, x, y, z, t⟩ := first_other a c
    have := falls_at hp.down x (by omega) t
    exact ⟨by omega, hu, m, x, by omega, by omega⟩

/-- the i-th of the peaks -/
def nth (l : List Nat) (i : Nat) : Nat := l[i]?.getD 0

theorem nth_mem {l : List Nat} {i : Nat} (h : i < l.length) : nth l i ∈ l := by
  simp [nth, h]
theorem nth_lt {l : List Nat} (hs : l.Pairwise (· < ·)) {i j : Nat} (h : i < j) (hj : j < l.length) : nth l i < nth l j := by
  have := List.pairwise_iff_getElem.1 hs i j (by omega) hj h
  simp [nth, hj, show i < l.length by omega, this]

theorem peak_nth {cs : List Int} {l : Int} {i : Nat} (h : i < (pks cs l cs.length).length) : nth (pks cs l cs.length) i < cs.length ∧ Peak cs l (nth (pks cs l cs.length) i) :=
  mem_pks.1 (nth_mem h)

theorem peak_step {cs : List Int} {l : Int} {i : Nat} (h : i + 1 < (pks cs l cs.length).length) :
    nth (pks cs l cs.length) i + 1 < nth (pks cs l cs.length) (i + 1) :=
  (between (peak_nth (by omega)).2 (peak_nth h).2 (nth_lt (pks_sorted _ _ _) (Nat.lt_succ_self i) h) (peak_nth h).1).1

theorem peak_room {cs : List Int} {l : Int} {i : Nat} (h : i < (pks cs l cs.length).length) : 2 * i ≤ nth (pks cs l cs.length) i := by
  induction i with
  | zero => omega
  | succ i ih => have := ih (by omega); have := peak_step h; omega

theorem peaks_many (cs : List Int) (l : Int) : 2 * (pks cs l cs.length).length ≤ cs.length + 1 := by
  by_cases h : (pks cs l cs.length).length = 0
  · omega
  · have a := peak_room (cs := cs) (l := l) (i := (pks cs l cs.length).length - 1) (by omega)
    have b := (peak_nth (cs := cs) (l := l) (i := (pks cs l cs.length).length - 1) (by omega)).1
    omega

/-! a greatest count is a peak -/
theorem best_peak {cs : List Int} : Peak cs (gI cs (argm cs cs.length)) (argm cs cs.length) := by
  have hm := argm_max cs cs.length
  refine ⟨Int.le_refl _, ?_, ?_⟩
  · by_cases h : argm cs cs.length = 0
    · exact .inl h
    · exact .inr (hm.2 _ (by omega))
  · exact falls_iff.2 fun k _ hl _ => hm.1 k hl

/-! a lesser bound -/
theorem peaks_more (cs : List Int) (l : Int) (k : Nat) : (pks cs (l - 1) k).filter (fun i => decide (l ≤ gI cs i)) = pks cs l k := by
  unfold pks
  rw [List.filter_filter]
  apply List.filter_congr
  intro i _
  unfold isPk
  by_cases h : l ≤ gI cs i
  · have : l - 1 ≤ gI cs i := by omega
    simp [h, this]
  · simp [h]

/-! a count ahead -/
theorem g_cons (c : Int) (cs : List Int) (i : Nat) : gI (c :: cs) (i + 1) = gI cs i := by simp [gI]
theorem g_cons0 (c : Int) (cs : List Int) : gI (c :: cs) 0 = c := by simp [gI]

theorem falls_cons (c : Int) (cs : List Int) (i : Nat) : falls (c :: cs) (i + 1) = falls cs i := by
  rw [Bool.eq_iff_iff, falls_iff, falls_iff]
  constructor
  · intro h k hk hl hj
    have := h (k + 1) (by omega) (by simp; omega) (fun j a b => by
      obtain ⟨j, rfl⟩ : ∃ j', j = j' + 1 := ⟨j - 1, by omega⟩
      rw [g_cons, g_cons]; exact hj j (by omega) (by omega))
    rwa [g_cons, g_cons] at this
  · intro h k hk hl hj
    obtain ⟨k, rfl⟩ : ∃ k', k = k' + 1 := ⟨k - 1, by omega⟩
    rw [g_cons, g_cons]
    refine h k (by omega) (by simp at hl; omega) fun j a b => ?_
    have := hj (j + 1) (by omega) (by omega)
    rwa [g_cons, g_cons] at this

theorem isPk_cons {cs : List Int} {l : Int} (h : 1 ≤ l) (i : Nat) : isPk (0 :: cs) l (i + 1) = isPk cs l i := by
  unfold isPk
  rw [g_cons, falls_cons]
  by_cases hl : l ≤ gI cs i
  · cases i with
    | zero => simp [g_cons0, hl]; intro _; omega
    | succ i => simp [g_cons]
  · simp [hl]

theorem peaks_ahead {cs : List Int} {l : Int} (h : 1 ≤ l) (k : Nat) : pks (0 :: cs) l (k + 1) = (pks cs l k).map (· + 1) := by
  induction k with
  | zero =>
    have : isPk (0 :: cs) l 0 = false := by
      have : ¬ l ≤ gI (0 :: cs) 0 := by rw [g_cons0]; omega
      simp [isPk, this]
    rw [pks_succ, this]; simp [pks]
  | succ k ih =>
    rw [pks_succ, ih, pks_succ, isPk_cons h, List.map_append]
    by_cases hp : isPk cs l k = true <;> simp [hp]

/-! a count at the end of the same height -/
theorem g_snoc_lt {cs : List Int} {c : Int} {i : Nat} (h : i < cs.length) : gI (cs ++ [c]) i = gI cs i := by
  simp [gI, List.getElem?_append_left h]
theorem g_snoc_at (cs : List Int) (c : Int) : gI (cs ++ [c]) cs.length = c := by simp [gI]

theorem falls_snoc {cs : List Int} {i : Nat} (hi : i < cs.length) : falls (cs ++ [gI cs (cs.length - 1)]) i = falls cs i := by
  rw [Bool.eq_iff_iff, falls_iff, falls_iff]
  rw [g_snoc_lt hi]
  constructor
  · intro h k hk hl hj
    have := h k hk (by simp; omega) (fun j a b => by rw [g_snoc_lt (by omega)]; exact hj j a b)
    rwa [g_snoc_lt hl] at this
  · intro h k hk hl hj
    by_cases e : k < cs.length
    · rw [g_snoc_lt e]
      exact h k hk e fun j a b => by have := hj j a b; rwa [g_snoc_lt (by omega)] at this
    · have e : k = cs.length := by simp at hl; omega
      subst e
      rw [g_snoc_at]
      by_cases e2 : cs.length - 1 = i
      · rw [e2]; exact Int.le_refl _
      · have := hj (cs.length - 1) (by omega) (by omega)
        rw [g_snoc_lt (by omega)] at this
        rw [this]; exact Int.le_refl _

theorem peaks_shift {cs : List Int} {l : Int} (h : 0 < cs.length) : pks (cs ++ [gI cs (cs.length - 1)]) l (cs.length + 1) = pks cs l cs.length := by
  rw [pks_succ]
  have : isPk (cs ++ [gI cs (cs.length - 1)]) l cs.length = false := by
    have h0 : (decide (cs.length = 0)) = false := by simp; rintro rfl; simp at h
    have h1 : (decide (gI (cs ++ [gI cs (cs.length - 1)]) (cs.length - 1) < gI (cs ++ [gI cs (cs.length - 1)]) cs.length)) = false := by
      rw [g_snoc_lt (by omega), g_snoc_at]; simp
    simp only [isPk, h0, h1]; simp
  rw [this]
  simp only [Bool.false_eq_true, if_false, List.append_nil]
  unfold pks
  apply List.filter_congr
  intro i hi
  rw [List.mem_range] at hi
  unfold isPk
  rw [falls_snoc hi, g_snoc_lt hi, g_snoc_lt (by omega)]

/-! twice the counts -/
theorem g_twice (cs : List Int) (i : Nat) : gI (cs.map (2 * ·)) i = 2 * gI cs i := by
  unfold gI
  rw [List.getElem?_map]
  cases cs[i]? <;> simp

theorem falls_twice (cs : List Int) (i : Nat) : falls (cs.map (2 * ·)) i = falls cs i := by
  rw [Bool.eq_iff_iff, falls_iff, falls_iff]
  simp only [g_twice, List.length_map]
  constructor
  · intro h k hk hl hj
    have := h k hk hl (fun j a b => by rw [hj j a b]); omega
  · intro h k hk hl hj
    have := h k hk hl (fun j a b => by have := hj j a b; omega); omega

theorem peaks_twice (cs : List Int) (l : Int) (k : Nat) : pks (cs.map (2 * ·)) (2 * l) k = pks cs l k := by
  unfold pks
  apply List.filter_congr
  intro i _
  unfold isPk
  rw [falls_twice, g_twice, g_twice]
  have a : (decide (2 * l ≤ 2 * gI cs i)) = decide (l ≤ gI cs i) := by
    rw [Bool.eq_iff_iff]; simp only [decide_eq_true_eq]; omega
  have b : (decide (2 * gI cs (i - 1) < 2 * gI cs i)) = decide (gI cs (i - 1) < gI cs i) := by
    rw [Bool.eq_iff_iff]; simp only [decide_eq_true_eq]; omega
  rw [a, b]

/-! the mirror -/
theorem g_rev {cs : List Int} {i : Nat} (h : i < cs.length) : gI cs.reverse i = gI cs (cs.length - 1 - i) := by
  unfold gI; rw [List.getElem?_reverse h]

/-- backwards: the first different count ahead of a position is less, or there is none -/
def backs (cs : List Int) (i : Nat) : Prop := ∀ k, k < i → (∀ j, k < j → j < i → gI cs j = gI cs i) → gI cs k ≤ gI cs i

structure EndPk (cs : List Int) (l : Int) (i : Nat) : Prop where
  high : l ≤ gI cs i
  up : i + 1 = cs.length ∨ gI cs (i + 1) < gI cs i
  down : backs cs i

theorem peak_rev {cs : List Int} {l : Int} {i : Nat} (h : i < cs.length) : Peak cs.reverse l i ↔ EndPk cs l (cs.length - 1 - i) := by
  constructor
  · rintro ⟨a, b, c⟩
    rw [g_rev h] at a
    refine ⟨a, ?_, ?_⟩
    · rcases b with b | b
      · exact .inl (by omega)
      · by_cases e : i = 0
        · exact .inl (by omega)
        · rw [g_rev h, g_rev (by omega)] at b
          rw [show cs.length - 1 - (i - 1) = cs.length - 1 - i + 1 by omega] at b
          exact .inr b
    · intro k hk hj
      have := falls_at c (k := cs.length - 1 - k) (by omega) (by simp; omega) (fun j x y => by
        rw [g_rev (by omega), g_rev h]; exact hj _ (by omega) (by omega))
      rw [g_rev (by omega), g_rev h] at this
      rwa [show cs.length - 1 - (cs.length - 1 - k) = k by omega] at this
  · rintro ⟨a, b, c⟩
    refine ⟨by rw [g_rev h]; exact a, ?_, ?_⟩
    · by_cases e : i = 0
      · exact .inl e
      · refine .inr ?_
        rw [g_rev h, g_rev (by omega)]
        rcases b with b | b
        · omega
        · rwa [show cs.length - 1 - (i - 1) = cs.length - 1 - i + 1 by omega]
    · refine falls_iff.2 fun k hk hl hj => ?_
      simp at hl
      rw [g_rev hl, g_rev h]
      refine c _ (by omega) fun j x y => ?_
      have := hj (cs.length - 1 - j) (by omega) (by omega)
      rw [g_rev (by omega), g_rev h] at this
      rwa [show cs.length - 1 - (cs.length - 1 - j) = j by omega] at this

/-- how many of the first k positions meet a test -/
def cnt (p : Nat → Bool) (k : Nat) : Nat := ((List.range k).filter p).length
theorem cnt_succ (p : Nat → Bool) (k : Nat) : cnt p (k + 1) = cnt p k + if p k = true then 1 else 0 := by
  unfold cnt; rw [List.range_succ, List.filter_append, List.length_append]
  by_cases h : p k = true <;> simp [h]
theorem cnt_congr {p q : Nat → Bool} {k : Nat} (h : ∀ i, i < k → p i = q i) : cnt p k = cnt q k := by
  unfold cnt; rw [List.filter_congr]; intro i hi; exact h i (List.mem_range.1 hi)
theorem cnt_none {p : Nat → Bool} {a b : Nat} (hab : a ≤ b) (h : ∀ i, a ≤ i → i < b → p i = false) : cnt p b = cnt p a := by
  induction b with
  | zero => have : a = 0 := by omega
            subst this; rfl
  | succ b ih =>
    by_cases e : a = b + 1
    · subst e; rfl
    · rw [cnt_succ, ih (by omega) (fun i x y => h i x (by omega)), h b (by omega) (by omega)]; simp
theorem cnt_one (p : Nat → Bool) (k : Nat) : cnt p (k + 1) = (if p 0 = true then 1 else 0) + cnt (fun i => p (i + 1)) k := by
  induction k with
  | zero => rw [cnt_succ]; simp [cnt]
  | succ k ih => rw [cnt_succ, ih, cnt_succ (fun i => p (i + 1))]; omega
theorem cnt_flip (p : Nat → Bool) (k : Nat) : cnt (fun i => p (k - 1 - i)) k = cnt p k := by
  induction k generalizing p with
  | zero => rfl
  | succ k ih =>
    rw [cnt_succ, cnt_one p k]
    have : cnt (fun i => p (k + 1 - 1 - i)) k = cnt (fun i => (fun j => p (j + 1)) (k - 1 - i)) k :=
      cnt_congr fun i hi => by simp only []; congr 1; omega
    rw [this, ih (fun j => p (j + 1))]
    simp; omega

noncomputable def isEnd (cs : List Int) (l : Int) (i : Nat) : Bool := @decide (EndPk cs l i) (Classical.propDecidable _)
theorem isEnd_iff {cs : List Int} {l : Int} {i : Nat} : isEnd cs l i = true ↔ EndPk cs l i := by unfold isEnd; simp

/-- the start of the run that ends ahead of k -/
theorem run_start (cs : List Int) (k : Nat) (hk : 0 < k) : ∃ s, s < k ∧ (∀ j, s ≤ j → j < k → gI cs j = gI cs s) ∧ (s = 0 ∨ gI cs (s - 1) ≠ gI cs s) := by
  induction k with
  | zero => omega
  | succ k ih =>
    by_cases h0 : k = 0
    · subst h0; exact ⟨0, by omega, fun j a b => by rw [show j = 0 by omega], .inl rfl⟩
    · by_cases he : gI cs (k - 1) = gI cs k
      · obtain ⟨s, a, b, c⟩ := ih (by omega)
        refine ⟨s, by omega, fun j x y => ?_, c⟩
        by_cases e : j = k
        · subst e; rw [← he]; exact b _ (by omega) (by omega)
        · exact b j x (by omega)
      · exact ⟨k, by omega, fun j a b => by rw [show j = k by omega], .inr he⟩

theorem start_end {cs : List Int} {l : Int} {s k : Nat} (hs : s < k) (hk : k ≤ cs.length) (he : ∀ j, s ≤ j → j < k → gI cs j = gI cs s) (hb : s = 0 ∨ gI cs (s - 1) ≠ gI cs s)
    (hE : k = cs.length ∨ gI cs k ≠ gI cs (k - 1)) : Peak cs l s ↔ EndPk cs l (k - 1) := by
  have e1 : gI cs (k - 1) = gI cs s := he _ (by omega) (by omega)
  constructor
  · rintro ⟨a, b, c⟩
    refine ⟨by rw [e1]; exact a, ?_, ?_⟩
    · rcases hE with e | e
      · exact .inl (by omega)
      · by_cases ek : k = cs.length
        · exact .inl (by omega)
        · have := falls_at c hs (by omega) (fun j x y => he j (by omega) y)
          rw [show k - 1 + 1 = k by omega]; exact .inr (by omega)
    · intro m hm hj
      rw [e1]
      by_cases e : s ≤ m
      · rw [he m e (by omega)]; exact Int.le_refl _
      · rcases b with b | b
        · omega
        · by_cases em : m = s - 1
          · subst em; omega
          · have := hj (s - 1) (by omega) (by omega); omega
  · rintro ⟨a, b, c⟩
    rw [e1] at a
    refine ⟨a, ?_, ?_⟩
    · by_cases e : s = 0
      · exact .inl e
      · have := c (s - 1) (by omega) (fun j x y => by rw [e1]; exact he j (by omega) (by omega))
        rcases hb with hb | hb
        · exact .inl hb
        · exact .inr (by omega)
    · refine falls_iff.2 fun m hm hl hj => ?_
      by_cases e : m < k
      · rw [he m (by omega) e]; exact Int.le_refl _
      · rcases b with b | b
        · omega
        · rw [show k - 1 + 1 = k by omega] at b
          by_cases em : m = k
          · subst em; omega
          · have := hj k (by omega) (by omega); omega

theorem cnt_runs {cs : List Int} {l : Int} (k : Nat) (hk : k ≤ cs.length) (hE : k = cs.length ∨ gI cs k ≠ gI cs (k - 1)) : cnt (isPk cs l) k = cnt (isEnd cs l) k := by
  induction k using Nat.strongRecOn with
  | ind k ih =>
    by_cases h0 : k = 0
    · subst h0; rfl
    · obtain ⟨s, hs, he, hb⟩ := run_start cs k (by omega)
      have hS : cnt (isPk cs l) s = cnt (isEnd cs l) s := by
        by_cases hs0 : s = 0
        · subst hs0; rfl
        · refine ih s hs (by omega) (.inr ?_)
          rcases hb with hb | hb
          · omega
          · exact fun e => hb e.symm
      have h1 : cnt (isPk cs l) k = cnt (isPk cs l) (s + 1) := cnt_none (by omega) fun i a b => by
        have x := he i (by omega) b
        have y := he (i - 1) (by omega) (by omega)
        rw [Bool.eq_false_iff]; intro hp
        have := (isPk_iff.1 hp).up; omega
      have h2 : cnt (isEnd cs l) (k - 1) = cnt (isEnd cs l) s := cnt_none (by omega) fun i a b => by
        have x := he i a (by omega)
        have y := he (i + 1) (by omega) (by omega)
        rw [Bool.eq_false_iff]; intro hp
        have := (isEnd_iff.1 hp).up; omega
      have h3 : cnt (isEnd cs l) k = cnt (isEnd cs l) (k - 1) + if isEnd cs l (k - 1) = true then 1 else 0 := by
        rw [← cnt_succ, show k - 1 + 1 = k by omega]
      rw [h1, h3, h2, cnt_succ, hS]
      have h4 : (isPk cs l s = true) ↔ (isEnd cs l (k - 1) = true) := by
        rw [isPk_iff, isEnd_iff]; exact start_end hs hk he hb hE
      by_cases hp : isPk cs l s = true
      · rw [if_pos hp, if_pos (h4.1 hp)]
      · rw [if_neg hp, if_neg (fun h => hp (h4.2 h))]

theorem peaks_mirror (cs : List Int) (l : Int) : (pks cs.reverse l cs.length).length = (pks cs l cs.length).length := by
  show cnt (isPk cs.reverse l) cs.length = cnt (isPk cs l) cs.length
  rw [cnt_runs cs.length (Nat.le_refl _) (.inl rfl), ← cnt_flip (isEnd cs l)]
  refine cnt_congr fun i hi => ?_
  rw [Bool.eq_iff_iff, isPk_iff, isEnd_iff]; exact peak_rev hi

/-! widths -/
theorem low_is {cs : List Int} {a l : Nat} (h0 : l ≤ a) (h1 : ∀ j, l ≤ j → j < a → gI cs a ≤ 2 * gI cs j) (h2 : l = 0 ∨ 2 * gI cs (l - 1) < gI cs a) : lowF cs a a = l := by
  have hs := lowF_spec cs a a
  have hl := lowF_le cs a a
  rcases Nat.lt_trichotomy (lowF cs a a) l with h | h | h
  · have := hs.1 (l - 1) (by omega) (by omega); omega
  · exact h
  · have := h1 (lowF cs a a - 1) (by omega) (by omega); omega

theorem high_is {cs : List Int} {a n t : Nat} (h0 : a ≤ t) (hn : t ≤ a + n) (h1 : ∀ j, a < j → j ≤ t → gI cs a ≤ 2 * gI cs j) (h2 : t = a + n ∨ 2 * gI cs (t + 1) < gI cs a) : highF cs a n a = t := by
  have hs := highF_spec cs a n a
  have hl := highF_ge cs a n a
  rcases Nat.lt_trichotomy (highF cs a n a) t with h | h | h
  · have := h1 (highF cs a n a + 1) (by omega) (by omega); omega
  · exact h
  · have := hs.1 (t + 1) (by omega) (by omega); omega

theorem width_mirror {cs : List Int} {a : Nat} (ha : a < cs.length) :
    lowF cs.reverse (cs.length - 1 - a) (cs.length - 1 - a) = cs.length - 1 - highF cs a (cs.length - 1 - a) a ∧
    highF cs.reverse (cs.length - 1 - a) a (cs.length - 1 - a) = cs.length - 1 - lowF cs a a := by
  have hs := highF_spec cs a (cs.length - 1 - a) a
  have hl := highF_ge cs a (cs.length - 1 - a) a
  have ls := lowF_spec cs a a
  have ll := lowF_le cs a a
  have e : gI cs.reverse (cs.length - 1 - a) = gI cs a := by rw [g_rev (by omega)]; congr 1; omega
  constructor
  · apply low_is (by omega)
    · intro j x y
      rw [e, g_rev (by omega)]; exact hs.1 _ (by omega) (by omega)
    · rcases hs.2 with h | h
      · exact .inl (by omega)
      · by_cases hz : highF cs a (cs.length - 1 - a) a = cs.length - 1
        · exact .inl (by omega)
        · refine .inr ?_
          rw [e, g_rev (by omega)]
          rwa [show cs.length - 1 - (cs.length - 1 - highF cs a (cs.length - 1 - a) a - 1) = highF cs a (cs.length - 1 - a) a + 1 by omega]
  · apply high_is (by omega) (by omega)
    · intro j x y
      rw [e, g_rev (by omega)]; exact ls.1 _ (by omega) (by omega)
    · rcases ls.2 with h | h
      · exact .inl (by omega)
      · by_cases hz : lowF cs a a = 0
        · exact .inl (by omega)
        · refine .inr ?_
          rw [e, g_rev (by omega)]
          rwa [show cs.length - 1 - (cs.length - 1 - lowF cs a a + 1) = lowF cs a a - 1 by omega]

theorem lowF_twice (cs : List Int) (a f : Nat) : lowF (cs.map (2 * ·)) a f = lowF cs a f := by
  induction f with
  | zero => rfl
  | succ f ih =>
    unfold lowF; rw [ih, g_twice, g_twice]
    have : (2 * gI cs a ≤ 2 * (2 * gI cs f)) ↔ (gI cs a ≤ 2 * gI cs f) := by omega
    simp only [this]
theorem highF_twice (cs : List Int) (a n t : Nat) : highF (cs.map (2 * ·)) a n t = highF cs a n t := by
  induction n generalizing t with
  | zero => rfl
  | succ n ih =>
    unfold highF; rw [ih, g_twice, g_twice]
    have : (2 * gI cs a ≤ 2 * (2 * gI cs (t + 1))) ↔ (gI cs a ≤ 2 * gI cs (t + 1)) := by omega
    simp only [this]
theorem peakWidth_twice {cs : List Int} (a : Int) (h : cOk cs = true) (h2 : cOk (cs.map (2 * ·)) = true) : peakWidth (cs.map (2 * ·)) a = peakWidth cs a := by
  unfold peakWidth
  rw [lowF_twice, highF_twice, g_twice, List.length_map]
  have : (2 * gI cs a.toNat ≠ 0) ↔ (gI cs a.toNat ≠ 0) := by omega
  simp only [h, h2, this]
theorem cOk_rev {cs : List Int} (h : cOk cs = true) : cOk cs.reverse = true := by
  unfold cOk at h ⊢; simpa using h
theorem peakWidth_mirror {cs : List Int} {a : Int} (hc : cOk cs = true) (h0 : 0 ≤ a) (h1 : a < cs.length) (hg : gI cs a.toNat ≠ 0) : peakWidth cs.reverse (cs.length - 1 - a) = peakWidth cs a := by
  unfold peakWidth
  have ha : a.toNat < cs.length := by omega
  have e : ((cs.length : Int) - 1 - a).toNat = cs.length - 1 - a.toNat := by omega
  have w := width_mirror (cs := cs) (a := a.toNat) ha
  have x : gI cs.reverse (cs.length - 1 - a.toNat) = gI cs a.toNat := by rw [g_rev (by omega)]; congr 1; omega
  have hl := highF_ge cs a.toNat (cs.length - 1 - a.toNat) a.toNat
  have ll := lowF_le cs a.toNat a.toNat
  rw [List.length_reverse, e, x, if_pos ⟨cOk_rev hc, by omega, by omega, hg⟩, if_pos ⟨hc, h0, h1, hg⟩]
  rw [show cs.length - 1 - (cs.length - 1 - a.toNat) = a.toNat by omega, w.1, w.2]
  omega
end Go.Proofs.Ytddchlfhjiimcaa.Pk
