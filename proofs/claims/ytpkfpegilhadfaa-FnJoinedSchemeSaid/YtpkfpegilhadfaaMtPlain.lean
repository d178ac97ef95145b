/- The plain mathematics of schemes: valid ones, their lines in order. -/
import Derived.Test.YtpkfpegilhadfaaPlain
namespace Go.Proofs.Ytpkfpegilhadfaa.Mt

/-- a level of a scheme -/
structure Nd where
  e : Int
  j : Int
  o : Bool
deriving DecidableEq, Inhabited
/-- a line between two levels -/
structure Line where
  u : Int
  l : Int
  n : Int
deriving DecidableEq, Inhabited

def gN (s : List Nd) (i : Nat) : Nd := s[i]?.getD ⟨0, 0, false⟩
theorem gN_lt {s : List Nd} {i : Nat} (h : i < s.length) : gN s i = s[i] := by simp [gN, h]
theorem gN_mem {s : List Nd} {i : Nat} (h : i < s.length) : gN s i ∈ s := by rw [gN_lt h]; exact List.getElem_mem h
def gX (s : List Line) (i : Nat) : Line := s[i]?.getD ⟨0, 0, 0⟩
theorem gX_lt {s : List Line} {i : Nat} (h : i < s.length) : gX s i = s[i] := by simp [gX, h]
theorem gX_mem {s : List Line} {i : Nat} (h : i < s.length) : gX s i ∈ s := by rw [gX_lt h]; exact List.getElem_mem h
theorem take_snocX {s : List Line} {k : Nat} (h : k < s.length) : s.take (k + 1) = s.take k ++ [gX s k] := by
  rw [List.take_succ_eq_append_getElem h, gX_lt h]
theorem mem_gX {s : List Line} {x : Line} (h : x ∈ s) : ∃ i, i < s.length ∧ gX s i = x := by
  obtain ⟨i, hi, e⟩ := List.getElem_of_mem h
  exact ⟨i, hi, by rw [gX_lt hi, e]⟩

/-- is a level in its place valid -/
def nOk (s : List Nd) (i : Nat) : Prop :=
  0 ≤ (gN s i).e ∧ (gN s i).e ≤ 200000 ∧ 0 ≤ (gN s i).j ∧ (gN s i).j ≤ 24 ∧ (gN s i).j % 2 = (gN s 0).j % 2 ∧ (0 < i → (gN s (i - 1)).e < (gN s i).e)
instance (s : List Nd) (i : Nat) : Decidable (nOk s i) := by unfold nOk; exact inferInstance
def sOk (s : List Nd) : Bool := decide (1 ≤ s.length ∧ s.length ≤ 12 ∧ (gN s 0).e = 0) && decide (∀ i, i < s.length → nOk s i)
theorem sOk_bd {s : List Nd} (h : sOk s = true) : 1 ≤ s.length ∧ s.length ≤ 12 ∧ (gN s 0).e = 0 := by unfold sOk at h; simp at h; omega
theorem sOk_at {s : List Nd} (h : sOk s = true) {i : Nat} (hi : i < s.length) : nOk s i := by unfold sOk at h; simp at h; exact h.2 i hi
theorem sOk_mk {s : List Nd} (h1 : 1 ≤ s.length) (h2 : s.length ≤ 12) (h3 : (gN s 0).e = 0) (h : ∀ i, i < s.length → nOk s i) : sOk s = true := by
  unfold sOk; simp; exact ⟨⟨h1, h2, h3⟩, h⟩
theorem sOk_bad {s : List Nd} {i : Nat} (hi : i < s.length) (h : ¬ nOk s i) : sOk s = false := by
  rcases hb : sOk s with _ | _
  · rfl
  · exact absurd (sOk_at hb hi) h
theorem sOk_no {s : List Nd} (h : s.length < 1 ∨ 12 < s.length ∨ (gN s 0).e ≠ 0) : sOk s = false := by
  rcases hb : sOk s with _ | _
  · rfl
  · have := sOk_bd hb; omega
theorem sOk_mono {s : List Nd} (h : sOk s = true) {i k : Nat} (hik : i < k) (hk : k < s.length) : (gN s i).e < (gN s k).e := by
  induction k with
  | zero => omega
  | succ k ih =>
    have := (sOk_at h hk).2.2.2.2.2 (by omega)
    rw [Nat.add_sub_cancel] at this
    by_cases e : i = k
    · rw [e]; exact this
    · have := ih (by omega) (by omega); omega

/-- is there a line between two levels -/
def allowed (a b : Nd) : Bool := decide (a.o ≠ b.o) && decide (-2 ≤ a.j - b.j ∧ a.j - b.j ≤ 2) && (decide (a.j ≠ 0) || decide (b.j ≠ 0))
theorem allowed_symm (a b : Nd) : allowed a b = allowed b a := by
  unfold allowed
  have e1 : decide (a.o ≠ b.o) = decide (b.o ≠ a.o) := by rw [decide_eq_decide]; exact ⟨fun h e => h e.symm, fun h e => h e.symm⟩
  have e2 : decide (-2 ≤ a.j - b.j ∧ a.j - b.j ≤ 2) = decide (-2 ≤ b.j - a.j ∧ b.j - a.j ≤ 2) := by rw [decide_eq_decide]; omega
  rw [e1, e2, Bool.or_comm]

/-- the line from one level to another -/
def mkL (s : List Nd) (u l : Nat) : Line := ⟨u, l, (gN s u).e - (gN s l).e⟩
/-- the lines from level u to the first k levels, in their order -/
def row (s : List Nd) (u : Nat) : Nat → List Line
  | 0 => []
  | k + 1 => row s u k ++ if allowed (gN s u) (gN s k) = true then [mkL s u k] else []
/-- the lines from the first m levels, in their order -/
def raw (s : List Nd) : Nat → List Line
  | 0 => []
  | m + 1 => raw s m ++ row s m m
theorem row_len (s : List Nd) (u k : Nat) : (row s u k).length ≤ k := by
  induction k with
  | zero => simp [row]
  | succ k ih => unfold row; split <;> simp <;> omega
theorem raw_len (s : List Nd) (m : Nat) : (raw s m).length ≤ m * m := by
  induction m with
  | zero => simp [raw]
  | succ m ih =>
    have := row_len s m m
    unfold raw
    rw [List.length_append, Nat.add_mul, Nat.mul_add]; omega
theorem row_mem {s : List Nd} {u k : Nat} {x : Line} : x ∈ row s u k ↔ ∃ l, l < k ∧ allowed (gN s u) (gN s l) = true ∧ x = mkL s u l := by
  induction k with
  | zero => simp [row]
  | succ k ih =>
    unfold row
    rw [List.mem_append, ih]
    constructor
    · rintro (⟨l, h1, h2, h3⟩ | h)
      · exact ⟨l, by omega, h2, h3⟩
      · split at h
        · rename_i hc; exact ⟨k, by omega, hc, by simpa using h⟩
        · cases h
    · rintro ⟨l, h1, h2, h3⟩
      by_cases e : l = k
      · right; rw [e] at h2 h3; rw [if_pos h2, h3]; simp
      · left; exact ⟨l, by omega, h2, h3⟩
theorem raw_mem {s : List Nd} {m : Nat} {x : Line} : x ∈ raw s m ↔ ∃ u l, u < m ∧ l < u ∧ allowed (gN s u) (gN s l) = true ∧ x = mkL s u l := by
  induction m with
  | zero => simp [raw]
  | succ m ih =>
    unfold raw
    rw [List.mem_append, ih, row_mem]
    constructor
    · rintro (⟨u, l, h1, h2, h3, h4⟩ | ⟨l, h1, h2, h3⟩)
      · exact ⟨u, l, by omega, h2, h3, h4⟩
      · exact ⟨m, l, by omega, h1, h2, h3⟩
    · rintro ⟨u, l, h1, h2, h3, h4⟩
      by_cases e : u = m
      · right; rw [e] at h2 h3 h4; exact ⟨l, h2, h3, h4⟩
      · left; exact ⟨u, l, by omega, h2, h3, h4⟩

/-- does a line stand ahead of another one -/
def ahead (a b : Line) : Bool := decide (a.n < b.n) || (decide (a.n = b.n) && (decide (a.u < b.u) || (decide (a.u = b.u) && decide (a.l < b.l))))
theorem ahead_iff {a b : Line} : ahead a b = true ↔ a.n < b.n ∨ (a.n = b.n ∧ (a.u < b.u ∨ (a.u = b.u ∧ a.l < b.l))) := by unfold ahead; simp
theorem ahead_irrefl (a : Line) : ahead a a = false := by
  rcases h : ahead a a with _ | _
  · rfl
  · rw [ahead_iff] at h; omega
theorem ahead_trans {a b c : Line} (h : ahead a b = true) (k : ahead b c = true) : ahead a c = true := by rw [ahead_iff] at *; omega
theorem ahead_ntrans {a b c : Line} (h : ahead a b = false) (k : ahead b c = false) : ahead a c = false := by
  rcases hc : ahead a c with _ | _
  · rfl
  · have h' : ¬ (ahead a b = true) := by rw [h]; simp
    have k' : ¬ (ahead b c = true) := by rw [k]; simp
    rw [ahead_iff] at *; omega
theorem ahead_total {a b : Line} (h : ahead a b = false) (k : ahead b a = false) : a = b := by
  have h' : ¬ (ahead a b = true) := by rw [h]; simp
  have k' : ¬ (ahead b a = true) := by rw [k]; simp
  rw [ahead_iff] at h' k'
  obtain ⟨a1, a2, a3⟩ := a
  obtain ⟨b1, b2, b3⟩ := b
  dsimp only at *
  have e1 : a3 = b3 := by omega
  have e2 : a1 = b1 := by omega
  have e3 : a2 = b2 := by omega
  rw [e1, e2, e3]

/-- in order -/
def Sorted (xs : List Line) : Prop := xs.Pairwise fun a b => ahead b a = false
theorem sorted_unique {xs ys : List Line} (hp : xs.Perm ys) (h1 : Sorted xs) (h2 : Sorted ys) : xs = ys :=
  List.Perm.eq_of_pairwise (le := fun a b => ahead b a = false) (fun _ _ _ _ h k => ahead_total k h) h1 h2 hp

/-- where a line is put: behind those that it doesn't stand ahead of, counted from the end -/
def spot (xs : List Line) (x : Line) : Nat → Nat
  | 0 => 0
  | k + 1 => if ahead x (gX xs k) = true then spot xs x k else k + 1
theorem spot_le (xs : List Line) (x : Line) (k : Nat) : spot xs x k ≤ k := by
  induction k with
  | zero => exact Nat.le_refl _
  | succ k ih => unfold spot; split <;> omega
theorem spot_spec (xs : List Line) (x : Line) (k : Nat) : (∀ i, spot xs x k ≤ i → i < k → ahead x (gX xs i) = true) ∧ (0 < spot xs x k → ahead x (gX xs (spot xs x k - 1)) = false) := by
  induction k with
  | zero => exact ⟨fun i _ h => by omega, fun h => by simp [spot] at h⟩
  | succ k ih =>
    unfold spot
    split
    · rename_i h
      refine ⟨fun i h1 h2 => ?_, ih.2⟩
      by_cases e : i = k
      · rw [e]; exact h
      · exact ih.1 i h1 (by omega)
    · rename_i h
      refine ⟨fun i h1 h2 => by omega, fun _ => ?_⟩
      rw [Nat.add_sub_cancel]; simpa using h
def put (xs : List Line) (x : Line) : List Line := xs.take (spot xs x xs.length) ++ x :: xs.drop (spot xs x xs.length)
theorem put_perm (xs : List Line) (x : Line) : (put xs x).Perm (xs ++ [x]) := by
  unfold put
  have h := List.take_append_drop (spot xs x xs.length) xs
  refine (List.perm_middle).trans ?_
  rw [h]
  exact (List.perm_append_comm (l₁ := [x]) (l₂ := xs))
theorem sorted_at {xs : List Line} (h : Sorted xs) {i k : Nat} (hik : i < k) (hk : k < xs.length) : ahead (gX xs k) (gX xs i) = false := by
  rw [gX_lt hk, gX_lt (by omega)]
  exact (List.pairwise_iff_getElem.1 h) i k (by omega) hk hik
theorem put_sorted {xs : List Line} (h : Sorted xs) (x : Line) : Sorted (put xs x) := by
  obtain ⟨s1, s2⟩ := spot_spec xs x xs.length
  have sl := spot_le xs x xs.length
  generalize hs : spot xs x xs.length = m at *
  unfold put
  rw [hs]
  unfold Sorted at *
  rw [List.pairwise_append, List.pairwise_cons]
  refine ⟨h.sublist (List.take_sublist _ _), ⟨fun b hb => ?_, h.sublist (List.drop_sublist _ _)⟩, fun a ha b hb => ?_⟩
  · obtain ⟨i, hi, rfl⟩ := List.getElem_of_mem hb
    rw [List.length_drop] at hi
    have := s1 (m + i) (by omega) (by omega)
    rw [gX_lt (by omega)] at this
    rw [List.getElem_drop]
    rcases hc : ahead xs[m + i] x with _ | _
    · rfl
    · have := ahead_trans this hc
      rw [ahead_irrefl] at this; cases this
  · obtain ⟨i, hi, rfl⟩ := List.getElem_of_mem ha
    rw [List.length_take] at hi
    rw [List.getElem_take]
    have hx : ahead x xs[i] = false := by
      have h2 := s2 (by omega)
      by_cases e : i = m - 1
      · subst e; rw [gX_lt (by omega)] at h2; exact h2
      · have h3 := sorted_at h (i := i) (k := m - 1) (by omega) (by omega)
        rw [gX_lt (by omega)] at h3 h2
        rw [gX_lt (by omega)] at h3
        exact ahead_ntrans h2 h3
    rcases List.mem_cons.1 hb with rfl | hb
    · exact hx
    · obtain ⟨k, hk, rfl⟩ := List.getElem_of_mem hb
      rw [List.length_drop] at hk
      rw [List.getElem_drop]
      have := sorted_at h (i := i) (k := m + k) (by omega) (by omega)
      rw [gX_lt (by omega), gX_lt (by omega)] at this
      exact this
/-- the lines put one by one -/
def puts (xs : List Line) : List Line := xs.foldl put []
theorem puts_snoc (xs : List Line) (x : Line) : puts (xs ++ [x]) = put (puts xs) x := by simp [puts]
theorem puts_ok : ∀ (ys xs : List Line), Sorted xs → Sorted (ys.foldl put xs) ∧ (ys.foldl put xs).Perm (xs ++ ys)
  | [], xs, h => ⟨h, by simp⟩
  | y :: ys, xs, h => by
    obtain ⟨a, b⟩ := puts_ok ys (put xs y) (put_sorted h y)
    refine ⟨a, b.trans ?_⟩
    have := (put_perm xs y).append_right ys
    simpa using this
theorem puts_sorted (xs : List Line) : Sorted (puts xs) := (puts_ok xs [] List.Pairwise.nil).1
theorem puts_perm (xs : List Line) : (puts xs).Perm xs := (puts_ok xs [] List.Pairwise.nil).2
theorem puts_len (xs : List Line) : (puts xs).length = xs.length := (puts_perm xs).length_eq
theorem puts_sort (xs : List Line) : xs.mergeSort (fun x y => !ahead y x) = puts xs := by
  refine sorted_unique ((List.mergeSort_perm _ _).trans (puts_perm xs).symm) ?_ (puts_sorted xs)
  have := List.pairwise_mergeSort (le := fun x y => !ahead y x) (fun a b c h k => by
    simp only [Bool.not_eq_true'] at *
    exact ahead_ntrans k h) (fun a b => by
    rcases h1 : ahead a b with _ | _
    · simp
    · rcases h2 : ahead b a with _ | _
      · simp
      · have := ahead_trans h1 h2
        rw [ahead_irrefl] at this; cases this) xs
  unfold Sorted
  exact this.imp fun h => by simpa using h

/-- SchemeLines' result -/
def lines (s : List Nd) : List Line := if sOk s = true then puts (raw s s.length) else []
theorem lines_sorted (s : List Nd) : Sorted (lines s) := by
  unfold lines; split
  · exact puts_sorted _
  · exact List.Pairwise.nil
theorem lines_mem {s : List Nd} (h : sOk s = true) {x : Line} : x ∈ lines s ↔ ∃ u l, u < s.length ∧ l < u ∧ allowed (gN s u) (gN s l) = true ∧ x = mkL s u l := by
  unfold lines; rw [if_pos h, (puts_perm _).mem_iff, raw_mem]
theorem lines_len (s : List Nd) : (lines s).length ≤ 144 := by
  unfold lines; split
  · rename_i h
    have := sOk_bd h
    rw [puts_len]
    have a := raw_len s s.length
    have b := Nat.mul_le_mul this.2.1 this.2.1
    omega
  · simp
theorem lines_in {s : List Nd} (h : sOk s = true) {x : Line} (hx : x ∈ lines s) : 0 ≤ x.l ∧ x.l < x.u ∧ x.u < s.length ∧ 0 < x.n ∧ x.n ≤ 200000 ∧ x.n = (gN s x.u.toNat).e - (gN s x.l.toNat).e := by
  obtain ⟨u, l, h1, h2, _, rfl⟩ := (lines_mem h).1 hx
  have a := sOk_at h h1
  have b := sOk_at h (i := l) (by omega)
  have c := sOk_mono h h2 h1
  unfold nOk at a b
  unfold mkL
  dsimp only
  rw [Int.toNat_natCast, Int.toNat_natCast]
  omega
theorem lines_num {s : List Nd} {i k : Nat} (h : i ≤ k) (hk : k < (lines s).length) : (gX (lines s) i).n ≤ (gX (lines s) k).n := by
  by_cases e : i = k
  · rw [e]; exact Int.le_refl _
  · have := sorted_at (lines_sorted s) (i := i) (k := k) (by omega) hk
    have h' : ¬ (ahead (gX (lines s) k) (gX (lines s) i) = true) := by rw [this]; simp
    rw [ahead_iff] at h'; omega
end Go.Proofs.Ytpkfpegilhadfaa.Mt
