/- The plain mathematics of links: valid ones, bounds that are relaxed round by round, and when that comes to rest. -/
import Derived.Test.YtnlnelfncejcfaaPlain
namespace Go.Proofs.Ytnlnelfncejcfaa.Lk

/-- a link: from, to, the difference of energies that it tells -/
structure Link where
  f : Int
  t : Int
  d : Int
deriving DecidableEq, Inhabited

/-- the link at a place -/
def gL (ls : List Link) (i : Nat) : Link := ls[i]?.getD ⟨0, 0, 0⟩
theorem gL_lt {ls : List Link} {i : Nat} (h : i < ls.length) : gL ls i = ls[i] := by simp [gL, h]
theorem gL_mem {ls : List Link} {i : Nat} (h : i < ls.length) : gL ls i ∈ ls := by rw [gL_lt h]; exact List.getElem_mem h
theorem take_snocL {ls : List Link} {k : Nat} (h : k < ls.length) : ls.take (k + 1) = ls.take k ++ [gL ls k] := by
  rw [List.take_succ_eq_append_getElem h, gL_lt h]
theorem mem_gL {ls : List Link} {l : Link} (h : l ∈ ls) : ∃ i, i < ls.length ∧ gL ls i = l := by
  obtain ⟨i, hi, e⟩ := List.getElem_of_mem h
  exact ⟨i, hi, by rw [gL_lt hi, e]⟩

/-- is a link valid -/
def lOk (many : Int) (l : Link) : Prop := 0 ≤ l.f ∧ l.f < many ∧ 0 ≤ l.t ∧ l.t < many ∧ -200000 ≤ l.d ∧ l.d ≤ 200000
instance (many : Int) (l : Link) : Decidable (lOk many l) := by unfold lOk; exact inferInstance
/-- are links valid for a number of levels -/
def lsOk (many : Int) (ls : List Link) : Bool := decide (1 ≤ many ∧ many ≤ 12 ∧ ls.length ≤ 30) && decide (∀ i, i < ls.length → lOk many (gL ls i))
theorem lsOk_at {many : Int} {ls : List Link} (h : lsOk many ls = true) {i : Nat} (hi : i < ls.length) : lOk many (gL ls i) := by
  unfold lsOk at h; simp at h; exact h.2 i hi
theorem lsOk_bd {many : Int} {ls : List Link} (h : lsOk many ls = true) : 1 ≤ many ∧ many ≤ 12 ∧ ls.length ≤ 30 := by
  unfold lsOk at h; simp at h; omega
theorem lsOk_mem {many : Int} {ls : List Link} (h : lsOk many ls = true) {l : Link} (hl : l ∈ ls) : lOk many l := by
  obtain ⟨i, hi, rfl⟩ := mem_gL hl; exact lsOk_at h hi
theorem lsOk_mk {many : Int} {ls : List Link} (h1 : 1 ≤ many) (h2 : many ≤ 12) (h3 : ls.length ≤ 30) (h : ∀ i, i < ls.length → lOk many (gL ls i)) : lsOk many ls = true := by
  unfold lsOk; simp; exact ⟨⟨h1, h2, h3⟩, h⟩
theorem lsOk_of {many : Int} {ls : List Link} (h1 : 1 ≤ many) (h2 : many ≤ 12) (h3 : ls.length ≤ 30) (h : ∀ l ∈ ls, lOk many l) : lsOk many ls = true :=
  lsOk_mk h1 h2 h3 fun _ hi => h _ (gL_mem hi)
theorem lsOk_bad {many : Int} {ls : List Link} {i : Nat} (hi : i < ls.length) (h : ¬ lOk many (gL ls i)) : lsOk many ls = false := by
  rcases hb : lsOk many ls with _ | _
  · rfl
  · exact absurd (lsOk_at hb hi) h
theorem lsOk_no {many : Int} {ls : List Link} (h : many < 1 ∨ 12 < many ∨ 30 < ls.length) : lsOk many ls = false := by
  rcases hb : lsOk many ls with _ | _
  · rfl
  · have := lsOk_bd hb; omega

theorem gI_set {zs : List Int} {i j : Nat} {v : Int} (h : i < zs.length) : gI (zs.set i v) j = if j = i then v else gI zs j := by
  unfold gI
  rw [List.getElem?_set]
  by_cases e : i = j
  · subst e; simp [h]
  · rw [if_neg e, if_neg (fun h => e h.symm)]

/-- a bound is kept -/
def low (z : List Int) (i : Nat) (v : Int) : List Int := if v < gI z i then z.set i v else z
/-- one link's first bound, its second one, both -/
def relA (tol : Int) (z : List Int) (l : Link) : List Int := low z l.t.toNat (gI z l.f.toNat + l.d + tol)
def relB (tol : Int) (z : List Int) (l : Link) : List Int := low z l.f.toNat (gI z l.t.toNat - l.d + tol)
def rel1 (tol : Int) (z : List Int) (l : Link) : List Int := relB tol (relA tol z l) l
theorem low_yes {z : List Int} {i : Nat} {v : Int} (h : v < gI z i) : low z i v = z.set i v := if_pos h
theorem low_no {z : List Int} {i : Nat} {v : Int} (h : ¬ v < gI z i) : low z i v = z := if_neg h
theorem low_len (z : List Int) (i : Nat) (v : Int) : (low z i v).length = z.length := by unfold low; split <;> simp
theorem low_at {z : List Int} {i : Nat} {v : Int} (h : i < z.length) : gI (low z i v) i ≤ v := by
  unfold low; split
  · rw [gI_set h, if_pos rfl]; exact Int.le_refl _
  · omega
theorem low_ge {z : List Int} {i : Nat} {v : Int} {p : Nat → Int} (hi : i < z.length) (hv : p i ≤ v) (h : ∀ j, j < z.length → p j ≤ gI z j) : ∀ j, j < z.length → p j ≤ gI (low z i v) j := by
  intro j hj
  unfold low; split
  · rw [gI_set hi]; split
    · rename_i e; rw [e]; exact hv
    · exact h j hj
  · exact h j hj
/-- all links, once -/
def rel (tol : Int) (ls : List Link) (z : List Int) : List Int := ls.foldl (rel1 tol) z
/-- r rounds -/
def rounds (tol : Int) (ls : List Link) : Nat → List Int → List Int
  | 0, z => z
  | r + 1, z => rel tol ls (rounds tol ls r z)

theorem rel_snoc (tol : Int) (ls : List Link) (l : Link) (z : List Int) : rel tol (ls ++ [l]) z = rel1 tol (rel tol ls z) l := by simp [rel]
theorem rel1_len (tol : Int) (z : List Int) (l : Link) : (rel1 tol z l).length = z.length := by
  unfold rel1 relB relA; rw [low_len, low_len]
theorem rel_len (tol : Int) (ls : List Link) (z : List Int) : (rel tol ls z).length = z.length := by
  induction ls generalizing z with
  | nil => rfl
  | cons l ls ih => show (rel tol ls (rel1 tol z l)).length = _; rw [ih, rel1_len]
theorem rounds_len (tol : Int) (ls : List Link) (r : Nat) (z : List Int) : (rounds tol ls r z).length = z.length := by
  induction r with
  | zero => rfl
  | succ r ih => show (rel tol ls _).length = _; rw [rel_len, ih]
theorem rounds_add (tol : Int) (ls : List Link) (r m : Nat) (z : List Int) : rounds tol ls (r + m) z = rounds tol ls m (rounds tol ls r z) := by
  induction m with
  | zero => rfl
  | succ m ih => show rel tol ls (rounds tol ls (r + m) z) = rel tol ls _; rw [ih]

/-- pointwise at most -/
def Le (a b : List Int) : Prop := ∀ i, gI a i ≤ gI b i
theorem Le.refl (a : List Int) : Le a a := fun _ => Int.le_refl _
theorem Le.trans {a b c : List Int} (h : Le a b) (k : Le b c) : Le a c := fun i => Int.le_trans (h i) (k i)
theorem set_le {z : List Int} {i : Nat} {v : Int} (h : v ≤ gI z i) : Le (z.set i v) z := fun j => by
  by_cases hi : i < z.length
  · rw [gI_set hi]; split
    · rename_i e; rw [e]; exact h
    · exact Int.le_refl _
  · rw [List.set_eq_of_length_le (by omega)]; exact Int.le_refl _
theorem low_le (z : List Int) (i : Nat) (v : Int) : Le (low z i v) z := by
  unfold low; split
  · exact set_le (by omega)
  · exact Le.refl _
theorem rel1_le (tol : Int) (z : List Int) (l : Link) : Le (rel1 tol z l) z := (low_le _ _ _).trans (low_le _ _ _)
theorem rel_le (tol : Int) (ls : List Link) (z : List Int) : Le (rel tol ls z) z := by
  induction ls generalizing z with
  | nil => exact Le.refl _
  | cons l ls ih => exact (ih (rel1 tol z l)).trans (rel1_le tol z l)
theorem rounds_le (tol : Int) (ls : List Link) (r : Nat) (z : List Int) : Le (rounds tol ls r z) z := by
  induction r with
  | zero => exact Le.refl _
  | succ r ih => exact (rel_le tol ls _).trans ih

/-- n levels; a link's two ends are among them -/
def In (n : Nat) (l : Link) : Prop := l.f.toNat < n ∧ l.t.toNat < n
/-- energies are at most a tolerance from one link -/
def Fit1 (tol : Int) (p : Nat → Int) (l : Link) : Prop := p l.t.toNat ≤ p l.f.toNat + l.d + tol ∧ p l.f.toNat ≤ p l.t.toNat - l.d + tol
/-- energies are at most a tolerance from all links -/
def Fit (tol : Int) (ls : List Link) (p : Nat → Int) : Prop := ∀ l ∈ ls, Fit1 tol p l

theorem rel1_ge {tol : Int} {z : List Int} {l : Link} {p : Nat → Int} (hl : In z.length l) (hp : Fit1 tol p l) (h : ∀ i, i < z.length → p i ≤ gI z i) : ∀ i, i < z.length → p i ≤ gI (rel1 tol z l) i := by
  obtain ⟨hf, ht⟩ := hl
  obtain ⟨p1, p2⟩ := hp
  have hA := h _ hf
  have e : (relA tol z l).length = z.length := low_len _ _ _
  have h1 : ∀ i, i < z.length → p i ≤ gI (relA tol z l) i := low_ge (p := p) ht (by omega) h
  have hB := h1 _ ht
  have h2 := low_ge (p := p) (z := relA tol z l) (i := l.f.toNat) (v := gI (relA tol z l) l.t.toNat - l.d + tol) (by omega) (by omega) (by rw [e]; exact h1)
  rw [e] at h2; exact h2
theorem rel_ge {tol : Int} {ls : List Link} {z : List Int} {p : Nat → Int} (hl : ∀ l ∈ ls, In z.length l) (hp : Fit tol ls p) (h : ∀ i, i < z.length → p i ≤ gI z i) : ∀ i, i < z.length → p i ≤ gI (rel tol ls z) i := by
  induction ls generalizing z with
  | nil => exact h
  | cons l ls ih =>
    have e := rel1_len tol z l
    have := ih (z := rel1 tol z l) (fun x hx => by rw [e]; exact hl x (by simp [hx])) (fun x hx => hp x (by simp [hx])) (by rw [e]; exact rel1_ge (hl l (by simp)) (hp l (by simp)) h)
    rw [e] at this; exact this
theorem rounds_ge {tol : Int} {ls : List Link} {z : List Int} {p : Nat → Int} (hl : ∀ l ∈ ls, In z.length l) (hp : Fit tol ls p) (h : ∀ i, i < z.length → p i ≤ gI z i) (r : Nat) : ∀ i, i < z.length → p i ≤ gI (rounds tol ls r z) i := by
  induction r with
  | zero => exact h
  | succ r ih =>
    have e := rounds_len tol ls r z
    have := rel_ge (ls := ls) (z := rounds tol ls r z) (fun x hx => by rw [e]; exact hl x hx) hp (by rw [e]; exact ih)
    rw [e] at this; exact this

/-- what one link's turn achieves -/
theorem rel1_does {tol : Int} {z : List Int} {l : Link} (hl : In z.length l) :
    gI (rel1 tol z l) l.t.toNat ≤ gI z l.f.toNat + l.d + tol ∧ ∃ v, gI (rel1 tol z l) l.t.toNat ≤ v ∧ v ≤ gI z l.t.toNat ∧ gI (rel1 tol z l) l.f.toNat ≤ v - l.d + tol := by
  obtain ⟨hf, ht⟩ := hl
  have e : (relA tol z l).length = z.length := low_len _ _ _
  have a1 : gI (relA tol z l) l.t.toNat ≤ gI z l.f.toNat + l.d + tol := low_at ht
  have a2 : Le (relA tol z l) z := low_le _ _ _
  have a3 : Le (rel1 tol z l) (relA tol z l) := low_le _ _ _
  have a4 : gI (rel1 tol z l) l.f.toNat ≤ gI (relA tol z l) l.t.toNat - l.d + tol := low_at (by omega)
  have := a3 l.t.toNat
  exact ⟨by omega, gI (relA tol z l) l.t.toNat, this, a2 _, a4⟩
theorem rel_does {tol : Int} {ls : List Link} {z : List Int} (hl : ∀ l ∈ ls, In z.length l) {l : Link} (h : l ∈ ls) :
    (∃ v, gI (rel tol ls z) l.f.toNat ≤ v ∧ v ≤ gI z l.f.toNat ∧ gI (rel tol ls z) l.t.toNat ≤ v + l.d + tol) ∧
    (∃ v, gI (rel tol ls z) l.t.toNat ≤ v ∧ v ≤ gI z l.t.toNat ∧ gI (rel tol ls z) l.f.toNat ≤ v - l.d + tol) := by
  induction ls generalizing z with
  | nil => cases h
  | cons x ls ih =>
    have e := rel1_len tol z x
    have hle := rel1_le tol z x
    have hrl := rel_le tol ls (rel1 tol z x)
    rcases List.mem_cons.1 h with rfl | h'
    · obtain ⟨a, v, b1, b2, b3⟩ := rel1_does (tol := tol) (z := z) (hl l (by simp))
      have q1 := hrl l.f.toNat
      have q2 := hrl l.t.toNat
      have q3 := hle l.f.toNat
      refine ⟨⟨gI z l.f.toNat, ?_, Int.le_refl _, ?_⟩, ⟨v, ?_, b2, ?_⟩⟩
      · show gI (rel tol ls (rel1 tol z l)) _ ≤ _; omega
      · show gI (rel tol ls (rel1 tol z l)) _ ≤ _; omega
      · show gI (rel tol ls (rel1 tol z l)) _ ≤ _; omega
      · show gI (rel tol ls (rel1 tol z l)) _ ≤ _; omega
    · obtain ⟨⟨v, a1, a2, a3⟩, ⟨u, b1, b2, b3⟩⟩ := ih (z := rel1 tol z x) (fun y hy => by rw [e]; exact hl y (by simp [hy])) h'
      exact ⟨⟨v, a1, Int.le_trans a2 (hle _), a3⟩, ⟨u, b1, Int.le_trans b2 (hle _), b3⟩⟩

/-- what comes to rest fits -/
theorem fit_of_rest {tol : Int} {ls : List Link} {z : List Int} (hl : ∀ l ∈ ls, In z.length l) (h : rel tol ls z = z) : Fit tol ls (gI z) := by
  intro l hl'
  obtain ⟨⟨v, a1, a2, a3⟩, ⟨u, b1, b2, b3⟩⟩ := rel_does (tol := tol) hl hl'
  rw [h] at a1 a3 b1 b3
  exact ⟨by omega, by omega⟩
theorem rest_of_fit {tol : Int} {ls : List Link} {z : List Int} (hl : ∀ l ∈ ls, In z.length l) (h : Fit tol ls (gI z)) : rel tol ls z = z := by
  apply gI_ext (rel_len _ _ _)
  intro i hi
  rw [rel_len] at hi
  have a := rel_ge hl h (fun i _ => Int.le_refl (gI z i)) i hi
  have b := rel_le tol ls z i
  omega

/-! counting -/
def cnt (P : Nat → Bool) : Nat → Nat
  | 0 => 0
  | n + 1 => cnt P n + if P n = true then 1 else 0
theorem cnt_le (P : Nat → Bool) (n : Nat) : cnt P n ≤ n := by
  induction n with
  | zero => exact Nat.le_refl _
  | succ n ih => unfold cnt; split <;> omega
theorem cnt_mono {P Q : Nat → Bool} {n : Nat} (h : ∀ i, i < n → P i = true → Q i = true) : cnt P n ≤ cnt Q n := by
  induction n with
  | zero => exact Nat.le_refl _
  | succ n ih =>
    have := ih (fun i hi => h i (by omega))
    have := h n (by omega)
    unfold cnt
    by_cases hp : P n = true
    · rw [if_pos hp, if_pos (this hp)]; omega
    · rw [if_neg hp]; omega
theorem cnt_lt {P Q : Nat → Bool} {n : Nat} (h : ∀ i, i < n → P i = true → Q i = true) {k : Nat} (hk : k < n) (h1 : P k = false) (h2 : Q k = true) : cnt P n < cnt Q n := by
  induction n with
  | zero => omega
  | succ n ih =>
    have hm := h n (by omega)
    unfold cnt
    by_cases e : k = n
    · subst e
      have := cnt_mono (n := k) (fun i hi => h i (by omega))
      rw [h1, h2]; simp; omega
    · have := ih (fun i hi => h i (by omega)) (by omega)
      by_cases hp : P n = true
      · rw [if_pos hp, if_pos (hm hp)]; omega
      · rw [if_neg hp]; omega
theorem cnt_all {P : Nat → Bool} {n : Nat} (h : cnt P n = n) : ∀ i, i < n → P i = true := by
  induction n with
  | zero => intro i hi; omega
  | succ n ih =>
    have hn := cnt_le P n
    unfold cnt at h
    by_cases hp : P n = true
    · rw [if_pos hp] at h
      intro i hi
      by_cases e : i = n
      · rw [e]; exact hp
      · exact ih (by omega) i (by omega)
    · rw [if_neg hp] at h; omega
theorem cnt_ext {P Q : Nat → Bool} {n : Nat} (h : ∀ i, i < n → P i = Q i) : cnt P n = cnt Q n := by
  induction n with
  | zero => rfl
  | succ n ih => unfold cnt; rw [ih (fun i hi => h i (by omega)), h n (by omega)]

/-- how far z is above p -/
def pot (p : Nat → Int) (z : List Int) : Nat → Nat
  | 0 => 0
  | n + 1 => pot p z n + (gI z n - p n).toNat
theorem pot_mono {p : Nat → Int} {z z' : List Int} (h : Le z' z) (n : Nat) : pot p z' n ≤ pot p z n := by
  induction n with
  | zero => exact Nat.le_refl _
  | succ n ih => have := h n; unfold pot; omega
theorem pot_lt {p : Nat → Int} {z z' : List Int} (h : Le z' z) {n k : Nat} (hk : k < n) (h1 : p k ≤ gI z' k) (h2 : gI z' k ≠ gI z k) : pot p z' n < pot p z n := by
  induction n with
  | zero => omega
  | succ n ih =>
    have hn := h n
    unfold pot
    by_cases e : k = n
    · subst e
      have := pot_mono (p := p) h k
      omega
    · have := ih (by omega); omega
theorem ne_at {a b : List Int} (hl : a.length = b.length) (h : a ≠ b) : ∃ i, i < b.length ∧ gI a i ≠ gI b i := by
  apply Classical.byContradiction
  intro hc
  exact h (gI_ext hl fun i hi => Classical.byContradiction fun hne => hc ⟨i, by omega, hne⟩)

/-- where energies fit, the rounds come to rest -/
theorem rests {tol : Int} {ls : List Link} {p : Nat → Int} (hp : Fit tol ls p) (m : Nat) :
    ∀ z : List Int, (∀ l ∈ ls, In z.length l) → (∀ i, i < z.length → p i ≤ gI z i) → pot p z z.length ≤ m → ∃ r, rel tol ls (rounds tol ls r z) = rounds tol ls r z := by
  induction m with
  | zero =>
    intro z hl hz hm
    refine ⟨0, Classical.byContradiction fun hne => ?_⟩
    obtain ⟨i, hi, hd⟩ := ne_at (rel_len tol ls z) hne
    have := pot_lt (p := p) (rel_le tol ls z) hi (rel_ge hl hp hz i hi) hd
    omega
  | succ m ih =>
    intro z hl hz hm
    by_cases he : rel tol ls z = z
    · exact ⟨0, he⟩
    · obtain ⟨i, hi, hd⟩ := ne_at (rel_len tol ls z) he
      have := pot_lt (p := p) (rel_le tol ls z) hi (rel_ge hl hp hz i hi) hd
      have e := rel_len tol ls z
      obtain ⟨r, hr⟩ := ih (rel tol ls z) (fun l h => by rw [e]; exact hl l h) (by rw [e]; exact rel_ge hl hp hz) (by rw [e]; omega)
      refine ⟨r + 1, ?_⟩
      have e2 : rounds tol ls (r + 1) z = rounds tol ls r (rel tol ls z) := by
        have := rounds_add tol ls 1 r z
        rw [Nat.add_comm] at this; exact this
      rw [e2]; exact hr

theorem fit_shift {tol : Int} {ls : List Link} {p : Nat → Int} (h : Fit tol ls p) (K : Int) : Fit tol ls (fun i => p i - K) := fun l hl => by
  have := h l hl
  unfold Fit1 at *
  dsimp only
  omega
theorem under (p : Nat → Int) (z : List Int) (n : Nat) : ∃ K : Int, ∀ i, i < n → p i - K ≤ gI z i := by
  induction n with
  | zero => exact ⟨0, fun i h => by omega⟩
  | succ n ih =>
    obtain ⟨K, h⟩ := ih
    refine ⟨max K (p n - gI z n), fun i hi => ?_⟩
    by_cases e : i = n
    · subst e; omega
    · have := h i (by omega); omega

/-- n levels: n - 1 rounds are enough -/
theorem rests_soon {tol : Int} {ls : List Link} {p : Nat → Int} {z : List Int} (hl : ∀ l ∈ ls, In z.length l) (hp : Fit tol ls p) {r : Nat} (hr : z.length ≤ r + 1) :
    rel tol ls (rounds tol ls r z) = rounds tol ls r z := by
  obtain ⟨K, hK⟩ := under p z z.length
  obtain ⟨R, hR⟩ := rests (fit_shift hp K) _ z hl hK (Nat.le_refl _)
  have hlR : ∀ r, ∀ l ∈ ls, In (rounds tol ls r z).length l := fun r l h => by rw [rounds_len]; exact hl l h
  -- the rest
  have stay : ∀ m, rounds tol ls (R + m) z = rounds tol ls R z := fun m => by
    induction m with
    | zero => rfl
    | succ m ih => show rel tol ls (rounds tol ls (R + m) z) = _; rw [ih, hR]
  have hfit := fit_of_rest (hlR R) hR
  generalize hd : rounds tol ls R z = d at *
  have hdl : d.length = z.length := by rw [← hd]; exact rounds_len _ _ _ _
  have above : ∀ r, Le d (rounds tol ls r z) := fun r i => by
    by_cases h : r ≤ R
    · have := rounds_le tol ls (R - r) (rounds tol ls r z) i
      rw [← rounds_add, show r + (R - r) = R by omega, hd] at this; exact this
    · have := stay (r - R)
      rw [show R + (r - R) = r by omega] at this
      rw [this]; exact Int.le_refl _
  -- what stays above energies that fit stays above them to the end
  have keep : ∀ (q : Nat → Int) (r : Nat), Fit tol ls q → (∀ i, i < z.length → q i ≤ gI (rounds tol ls r z) i) → ∀ i, i < z.length → q i ≤ gI d i := fun q r hq h i hi => by
    have := rounds_ge (r := R) (hlR r) hq (by rw [rounds_len]; exact h) i (by rw [rounds_len]; exact hi)
    rw [← rounds_add, Nat.add_comm, stay] at this; exact this
  let S : Nat → Nat → Bool := fun r v => decide (gI (rounds tol ls r z) v = gI d v)
  have hS : ∀ r v, S r v = true ↔ gI (rounds tol ls r z) v = gI d v := fun r v => by simp [S]
  have mono : ∀ r v, S r v = true → S (r + 1) v = true := fun r v h => by
    rw [hS] at *
    have a := rel_le tol ls (rounds tol ls r z) v
    have b := above (r + 1) v
    have e : rounds tol ls (r + 1) z = rel tol ls (rounds tol ls r z) := rfl
    rw [e] at b ⊢; omega
  have grows : ∀ r, (∃ v, v < z.length ∧ S r v = false) → ∃ v, v < z.length ∧ S r v = false ∧ S (r + 1) v = true := fun r ⟨v, hv, hv'⟩ => by
    apply Classical.byContradiction
    intro hno
    have hno' : ∀ u, u < z.length → S r u = false → S (r + 1) u = false := fun u hu h => by
      rcases h' : S (r + 1) u with _ | _
      · rfl
      · exact absurd ⟨u, hu, h, h'⟩ hno
    have := keep (fun u => if S r u = true then gI d u else gI d u + 1) (r + 1) (fun l hl' => by
      obtain ⟨f1, f2⟩ := hfit l hl'
      obtain ⟨inf, int⟩ := hl l hl'
      obtain ⟨⟨x, x1, x2, x3⟩, ⟨y, y1, y2, y3⟩⟩ := rel_does (tol := tol) (hlR r) hl'
      have af := above (r + 1) l.f.toNat
      have at' := above (r + 1) l.t.toNat
      have nf := hno' _ inf
      have nt := hno' _ int
      have e : rounds tol ls (r + 1) z = rel tol ls (rounds tol ls r z) := rfl
      rw [← e] at x1 x3 y1 y3
      unfold Fit1
      dsimp only
      constructor
      · by_cases ct : S r l.t.toNat = true
        · rw [if_pos ct]; split <;> omega
        · rw [if_neg ct]
          by_cases cf : S r l.f.toNat = true
          · rw [if_pos cf]
            rw [hS] at cf
            have := nt (by simpa using ct)
            have hne : gI (rounds tol ls (r + 1) z) l.t.toNat ≠ gI d l.t.toNat := fun h => by rw [← hS] at h; rw [h] at this; cases this
            omega
          · rw [if_neg cf]; omega
      · by_cases cf : S r l.f.toNat = true
        · rw [if_pos cf]; split <;> omega
        · rw [if_neg cf]
          by_cases ct : S r l.t.toNat = true
          · rw [if_pos ct]
            rw [hS] at ct
            have := nf (by simpa using cf)
            have hne : gI (rounds tol ls (r + 1) z) l.f.toNat ≠ gI d l.f.toNat := fun h => by rw [← hS] at h; rw [h] at this; cases this
            omega
          · rw [if_neg ct]; omega) (fun u hu => by
      have a := above (r + 1) u
      by_cases c : S r u = true
      · rw [if_pos c]; exact a
      · rw [if_neg c]
        have := hno' u hu (by simpa using c)
        have hne : gI (rounds tol ls (r + 1) z) u ≠ gI d u := fun h => by rw [← hS] at h; rw [h] at this; cases this
        omega) v hv
    rw [if_neg (by rw [hv']; simp)] at this
    omega
  have first : 0 < z.length → ∃ v, v < z.length ∧ S 0 v = true := fun h0 => by
    apply Classical.byContradiction
    intro hno
    have := keep (fun u => gI d u - (-1)) 0 (fit_shift hfit (-1)) (fun u hu => by
      have a := above 0 u
      have hne : gI (rounds tol ls 0 z) u ≠ gI d u := fun h => hno ⟨u, hu, (hS 0 u).2 h⟩
      omega) 0 h0
    omega
  have many : ∀ r, min (r + 1) z.length ≤ cnt (S r) z.length := fun r => by
    induction r with
    | zero =>
      by_cases h0 : 0 < z.length
      · obtain ⟨v, hv, hs⟩ := first h0
        have := cnt_lt (P := fun _ => false) (Q := S 0) (n := z.length) (fun i _ h => by cases h) hv rfl hs
        omega
      · omega
    | succ r ih =>
      by_cases hall : cnt (S r) z.length = z.length
      · have := cnt_mono (n := z.length) (fun i _ h => mono r i h)
        omega
      · have : ∃ v, v < z.length ∧ S r v = false := by
          apply Classical.byContradiction
          intro hno
          apply hall
          have h2 : ∀ i, i < z.length → S r i = true := fun i hi => by
            rcases h' : S r i with _ | _
            · exact absurd ⟨i, hi, h'⟩ hno
            · rfl
          have e : cnt (fun _ => true) z.length = z.length := by
            generalize z.length = n
            induction n with
            | zero => rfl
            | succ n ih => unfold cnt; rw [ih]; rfl
          have := cnt_mono (P := fun _ => true) (Q := S r) (n := z.length) (fun i hi _ => h2 i hi)
          have := cnt_le (S r) z.length
          omega
        obtain ⟨v, hv, h1, h2⟩ := grows r this
        have := cnt_lt (n := z.length) (fun i _ h => mono r i h) hv h1 h2
        omega
  have hm := many r
  have hc := cnt_le (S r) z.length
  have hall := cnt_all (P := S r) (n := z.length) (by omega)
  have heq : rounds tol ls r z = d := gI_ext (by rw [rounds_len, hdl]) (fun i hi => (hS r i).1 (hall i (by rw [rounds_len] at hi; exact hi)))
  rw [heq, hR]

end Go.Proofs.Ytnlnelfncejcfaa.Lk
