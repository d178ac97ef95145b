/- The plain mathematics of joined levels: the least level of each group, and what keeps to it. -/
import Derived.Test.YtnlnelfncejcfaaLkPlain
namespace Go.Proofs.Ytnlnelfncejcfaa.Lk

/-- one link joins two groups -/
def jstep (J : Nat → Nat) (l : Link) : Nat → Nat := fun i =>
  if J i = max (J l.f.toNat) (J l.t.toNat) then min (J l.f.toNat) (J l.t.toNat) else J i
/-- the least level of each level's group -/
def joinF (ls : List Link) : Nat → Nat := ls.foldl jstep (fun i => i)

/-- J holds the least level of each group -/
structure IsJ (ls : List Link) (J : Nat → Nat) : Prop where
  same : ∀ l ∈ ls, J l.f.toNat = J l.t.toNat
  le : ∀ i, J i ≤ i
  conn : ∀ (g : Nat → Int), (∀ l ∈ ls, g l.f.toNat = g l.t.toNat) → ∀ i, g (J i) = g i
theorem IsJ.idem {ls : List Link} {J : Nat → Nat} (h : IsJ ls J) (i : Nat) : J (J i) = J i := by
  have := h.conn (fun i => (J i : Int)) (fun l hl => by rw [h.same l hl]) i
  omega
theorem isJ_nil : IsJ [] (fun i => i) := ⟨(fun _ h => by cases h), fun _ => Nat.le_refl _, fun _ _ _ => rfl⟩
theorem isJ_step {ls : List Link} {J : Nat → Nat} (h : IsJ ls J) (l : Link) : IsJ (ls ++ [l]) (jstep J l) := by
  refine ⟨fun x hx => ?_, fun i => ?_, fun g hg i => ?_⟩
  · rcases List.mem_append.1 hx with hx | hx
    · unfold jstep; rw [h.same x hx]
    · have : x = l := by simpa using hx
      subst this
      unfold jstep
      split <;> split <;> omega
  · have h1 := h.le i
    have h2 := h.le l.f.toNat
    have h3 := h.le l.t.toNat
    unfold jstep
    split <;> omega
  · have h0 := h.conn g (fun x hx => hg x (by simp [hx]))
    have hl := hg l (by simp)
    have h1 := h0 i
    have h2 := h0 l.f.toNat
    have h3 := h0 l.t.toNat
    unfold jstep
    split
    · rename_i e
      rcases Nat.le_total (J l.f.toNat) (J l.t.toNat) with hle | hle
      · rw [Nat.min_eq_left hle]
        rw [Nat.max_eq_right hle] at e
        rw [e] at h1; omega
      · rw [Nat.min_eq_right hle]
        rw [Nat.max_eq_left hle] at e
        rw [e] at h1; omega
    · exact h1
theorem isJ_fold (ls : List Link) : ∀ (pre : List Link) (J : Nat → Nat), IsJ pre J → IsJ (pre ++ ls) (ls.foldl jstep J) := by
  induction ls with
  | nil => intro pre J h; simpa using h
  | cons l ls ih =>
    intro pre J h
    have := ih (pre ++ [l]) (jstep J l) (isJ_step h l)
    simpa using this
theorem joinF_is (ls : List Link) : IsJ ls (joinF ls) := isJ_fold ls [] _ isJ_nil
theorem joinF_snoc (ls : List Link) (l : Link) : joinF (ls ++ [l]) = jstep (joinF ls) l := by simp [joinF]
theorem joinF_nil : joinF [] = fun i => i := rfl
theorem isJ_unique {ls : List Link} {J J' : Nat → Nat} (h : IsJ ls J) (h' : IsJ ls J') (i : Nat) : J i = J' i := by
  have a := h.conn (fun i => (J' i : Int)) (fun l hl => by rw [h'.same l hl]) i
  have b := h'.conn (fun i => (J i : Int)) (fun l hl => by rw [h.same l hl]) i
  have := h.le (J' i)
  have := h'.le (J i)
  omega
/-- a list that keeps to links, lies low and keeps in groups is the least one -/
theorem joined_unique {ls : List Link} {n : Nat} {z : List Int} (h1 : ∀ l ∈ ls, gI z l.f.toNat = gI z l.t.toNat)
    (h2 : ∀ i, i < n → 0 ≤ gI z i ∧ gI z i ≤ i) (h3 : ∀ g : Nat → Int, (∀ l ∈ ls, g l.f.toNat = g l.t.toNat) → ∀ i, i < n → g (gI z i).toNat = g i) : ∀ i, i < n → gI z i = (joinF ls i : Int) := by
  intro i hi
  have hJ := joinF_is ls
  have a := hJ.conn (gI z) h1 i
  have b := h3 (fun i => (joinF ls i : Int)) (fun l hl => by rw [hJ.same l hl]) i hi
  have c := hJ.le (gI z i).toNat
  have d := hJ.le i
  have e := h2 (joinF ls i) (by omega)
  have f := h2 i hi
  omega
/-- the list of the least levels -/
def joinL (ls : List Link) (n : Nat) : List Int := (List.range n).map fun i => (joinF ls i : Int)
theorem joinL_len (ls : List Link) (n : Nat) : (joinL ls n).length = n := by simp [joinL]
theorem joinL_at (ls : List Link) {n i : Nat} (h : i < n) : gI (joinL ls n) i = (joinF ls i : Int) := by simp [gI, joinL, h]
theorem joinL_of {ls : List Link} {n : Nat} {z : List Int} (hz : z.length = n) (h : ∀ i, i < n → gI z i = (joinF ls i : Int)) : z = joinL ls n :=
  gI_ext (by rw [hz, joinL_len]) fun i hi => by rw [h i (by omega), joinL_at ls (by omega)]

/-- what keeps to fewer links lies lower -/
theorem joinF_less {ls xs : List Link} (h : ∀ l ∈ xs, l ∈ ls) (i : Nat) : joinF ls i ≤ joinF xs i := by
  have a := (joinF_is xs).conn (fun i => (joinF ls i : Int)) (fun l hl => by rw [(joinF_is ls).same l (h l hl)]) i
  have := (joinF_is ls).le (joinF xs i)
  omega

/-! the reference: minima, round by round -/
/-- a link that tells no difference -/
def flat (l : Link) : Link := ⟨l.f, l.t, 0⟩
theorem set_self {z : List Int} {i : Nat} {v : Int} (hi : i < z.length) (h : v = gI z i) : z.set i v = z := by
  apply gI_ext (by simp)
  intro j _
  rw [gI_set hi]; split
  · rename_i e; rw [e, h]
  · rfl
theorem min_is (z : List Int) (l : Link) (hl : In z.length l) : (z.set l.f.toNat (min (gI z l.f.toNat) (gI z l.t.toNat))).set l.t.toNat (min (gI z l.f.toNat) (gI z l.t.toNat)) = rel1 0 z (flat l) := by
  obtain ⟨hf, ht⟩ := hl
  show _ = low (low z l.t.toNat (gI z l.f.toNat + 0 + 0)) l.f.toNat (gI (low z l.t.toNat (gI z l.f.toNat + 0 + 0)) l.t.toNat - 0 + 0)
  simp only [Int.add_zero, Int.sub_zero]
  by_cases c : gI z l.f.toNat < gI z l.t.toNat
  · have hne : l.f.toNat ≠ l.t.toNat := fun e => by rw [e] at c; omega
    rw [low_yes c, low_no (by rw [gI_set ht, if_pos rfl, gI_set ht, if_neg hne]; omega), Int.min_eq_left (by omega), set_self hf rfl]
  · rw [low_no c, Int.min_eq_right (by omega)]
    by_cases d : gI z l.t.toNat < gI z l.f.toNat
    · have hne : l.t.toNat ≠ l.f.toNat := fun e => by rw [e] at d; omega
      rw [low_yes d, set_self (by simpa using ht) (by rw [gI_set hf, if_neg hne])]
    · rw [low_no d, set_self hf (by omega), set_self ht rfl]

theorem low_in {g : Nat → Int} {n : Nat} {z : List Int} (h : ∀ i, i < n → g (gI z i).toNat = g i) {i : Nat} {v : Int} (hi : i < z.length) (hv : i < n → g v.toNat = g i) : ∀ j, j < n → g (gI (low z i v) j).toNat = g j := fun j hj => by
  unfold low; split
  · rw [gI_set hi]; split
    · rename_i e; rw [e]; exact hv (by omega)
    · exact h j hj
  · exact h j hj
theorem rel1_in {g : Nat → Int} {z : List Int} {l : Link} (hl : In z.length l) (hg : g l.f.toNat = g l.t.toNat) (h : ∀ i, i < z.length → g (gI z i).toNat = g i) : ∀ i, i < z.length → g (gI (rel1 0 z (flat l)) i).toNat = g i := by
  obtain ⟨hf, ht⟩ := hl
  have e : (relA 0 z (flat l)).length = z.length := low_len _ _ _
  have h1 : ∀ i, i < z.length → g (gI (relA 0 z (flat l)) i).toNat = g i := low_in h (i := l.t.toNat) ht (fun _ => by
    show g (gI z l.f.toNat + 0 + 0).toNat = _
    rw [Int.add_zero, Int.add_zero, h _ hf, hg])
  exact low_in h1 (i := l.f.toNat) (by omega) (fun _ => by
    show g (gI (relA 0 z (flat l)) l.t.toNat - 0 + 0).toNat = _
    rw [Int.sub_zero, Int.add_zero, h1 _ ht, hg])
theorem rel_in {g : Nat → Int} {ls : List Link} (hg : ∀ l ∈ ls, g l.f.toNat = g l.t.toNat) {z : List Int} (hl : ∀ l ∈ ls, In z.length l) (h : ∀ i, i < z.length → g (gI z i).toNat = g i) : ∀ i, i < z.length → g (gI (rel 0 (ls.map flat) z) i).toNat = g i := by
  induction ls generalizing z with
  | nil => exact h
  | cons l ls ih =>
    have e := rel1_len 0 z (flat l)
    have := ih (fun x hx => hg x (by simp [hx])) (z := rel1 0 z (flat l)) (fun x hx => by rw [e]; exact hl x (by simp [hx])) (by rw [e]; exact rel1_in (hl l (by simp)) (hg l (by simp)) h)
    rw [e] at this; exact this
theorem rounds_in {g : Nat → Int} {ls : List Link} (hg : ∀ l ∈ ls, g l.f.toNat = g l.t.toNat) {z : List Int} (hl : ∀ l ∈ ls, In z.length l) (h : ∀ i, i < z.length → g (gI z i).toNat = g i) (r : Nat) : ∀ i, i < z.length → g (gI (rounds 0 (ls.map flat) r z) i).toNat = g i := by
  induction r with
  | zero => exact h
  | succ r ih =>
    have e := rounds_len 0 (ls.map flat) r z
    have := rel_in hg (z := rounds 0 (ls.map flat) r z) (fun x hx => by rw [e]; exact hl x hx) (by rw [e]; exact ih)
    rw [e] at this; exact this
theorem joined_rounds {ls : List Link} {n : Nat} (hl : ∀ l ∈ ls, In n l) : rounds 0 (ls.map flat) n (iota 0 n) = joinL ls n := by
  have hn : (iota 0 n).length = n := iota_len 0 n
  have hr := rounds_len 0 (ls.map flat) n (iota 0 n)
  rw [hn] at hr
  have hl' : ∀ l ∈ ls.map flat, In (iota 0 n).length l := fun l h => by
    obtain ⟨x, hx, rfl⟩ := List.mem_map.1 h
    rw [hn]; exact hl x hx
  have hfit : Fit 0 (ls.map flat) (fun _ => 0) := fun l h => by
    obtain ⟨x, hx, rfl⟩ := List.mem_map.1 h
    exact ⟨by simp [flat], by simp [flat]⟩
  have hrest := rests_soon hl' hfit (r := n) (by omega)
  have hf := fit_of_rest (fun l h => by rw [hr]; rw [← hn]; exact hl' l h) hrest
  refine joinL_of hr (joined_unique (fun l h => ?_) (fun i hi => ?_) (fun g hg i hi => ?_))
  · obtain ⟨q1, q2⟩ := hf (flat l) (List.mem_map.2 ⟨l, h, rfl⟩)
    have q1' : gI (rounds 0 (ls.map flat) n (iota 0 n)) l.t.toNat ≤ gI (rounds 0 (ls.map flat) n (iota 0 n)) l.f.toNat + 0 + 0 := q1
    have q2' : gI (rounds 0 (ls.map flat) n (iota 0 n)) l.f.toNat ≤ gI (rounds 0 (ls.map flat) n (iota 0 n)) l.t.toNat - 0 + 0 := q2
    omega
  · have a := rounds_le 0 (ls.map flat) n (iota 0 n) i
    have b := rounds_ge hl' hfit (fun j hj => by rw [iota_at (by omega)]; omega) n i (by omega)
    rw [iota_at hi] at a
    omega
  · exact rounds_in hg (fun l h => by rw [hn]; exact hl l h) (fun j hj => by rw [iota_at (by omega)]; congr 1; omega) n i (by omega)

/-! the program: parents -/
/-- P holds parents that keep to J -/
structure Forest (n : Nat) (P : List Int) (J : Nat → Nat) : Prop where
  len : P.length = n
  le : ∀ i, i < n → 0 ≤ gI P i ∧ gI P i ≤ i
  same : ∀ i, i < n → J (gI P i).toNat = J i
  root : ∀ i, i < n → gI P i = i → J i = i
theorem forest_new (n : Nat) : Forest n (iota 0 n) (fun i => i) :=
  ⟨iota_len 0 n, fun i hi => by rw [iota_at hi]; omega, fun i hi => by rw [iota_at hi]; omega, fun _ _ _ => rfl⟩
theorem forest_halve {n : Nat} {P : List Int} {J : Nat → Nat} (h : Forest n P J) {i : Nat} (hi : i < n) : Forest n (P.set i (gI P (gI P i).toNat)) J := by
  have h1 := h.le i hi
  have h2 := h.le (gI P i).toNat (by omega)
  have hl := h.len
  refine ⟨by simp [hl], fun j hj => ?_, fun j hj => ?_, fun j hj => ?_⟩
  · rw [gI_set (by omega)]; split
    · omega
    · exact h.le j hj
  · rw [gI_set (by omega)]; split
    · rename_i e; rw [e, h.same _ (by omega), h.same i hi]
    · exact h.same j hj
  · rw [gI_set (by omega)]; split
    · rename_i e; intro e2
      exact h.root j hj (by rw [e] at e2 ⊢; omega)
    · exact h.root j hj
theorem forest_join {n : Nat} {P : List Int} {J : Nat → Nat} (h : Forest n P J) {l : Link} (hl : In n l) (hle : ∀ i, J i ≤ i) (hid : ∀ i, J (J i) = J i) :
    Forest n (P.set (max (J l.f.toNat) (J l.t.toNat)) (min (J l.f.toNat) (J l.t.toNat) : Nat)) (jstep J l) := by
  have a1 := hle l.f.toNat
  have a2 := hle l.t.toNat
  have i1 := hid l.f.toNat
  have i2 := hid l.t.toNat
  obtain ⟨hf, ht⟩ := hl
  have hlen := h.len
  refine ⟨by simp [hlen], fun j hj => ?_, fun j hj => ?_, fun j hj => ?_⟩
  · rw [gI_set (by omega)]; split
    · omega
    · exact h.le j hj
  · rw [gI_set (by omega)]; split
    · rename_i e
      rw [e]; unfold jstep
      rw [Int.toNat_natCast]
      have q1 : J (min (J l.f.toNat) (J l.t.toNat)) = min (J l.f.toNat) (J l.t.toNat) := by
        rcases Nat.le_total (J l.f.toNat) (J l.t.toNat) with hh | hh
        · rw [Nat.min_eq_left hh, i1]
        · rw [Nat.min_eq_right hh, i2]
      have q2 : J (max (J l.f.toNat) (J l.t.toNat)) = max (J l.f.toNat) (J l.t.toNat) := by
        rcases Nat.le_total (J l.f.toNat) (J l.t.toNat) with hh | hh
        · rw [Nat.max_eq_right hh, i2]
        · rw [Nat.max_eq_left hh, i1]
      rw [q1, q2, if_pos rfl]
      split <;> rfl
    · unfold jstep; rw [h.same j hj]
  · rw [gI_set (by omega)]; split
    · rename_i e
      intro e2
      have q : J j = j := by
        rcases Nat.le_total (J l.f.toNat) (J l.t.toNat) with hh | hh
        · rw [Nat.max_eq_right hh] at e; rw [e, i2]
        · rw [Nat.max_eq_left hh] at e; rw [e, i1]
      unfold jstep; rw [q]; split
      · omega
      · omega
    · rename_i e; intro e2
      have := h.root j hj e2
      unfold jstep; rw [this, if_neg e]

/-- each link joins two groups at most -/
theorem cnt_one {P Q : Nat → Bool} {k : Nat} (n : Nat) (h : ∀ i, i ≠ k → P i = true → Q i = true) : cnt P n ≤ cnt Q n + 1 := by
  induction n with
  | zero => simp [cnt]
  | succ n ih =>
    unfold cnt
    by_cases e : n = k
    · have := cnt_mono (n := n) (fun i hi => h i (by omega))
      split <;> split <;> omega
    · by_cases hp : P n = true
      · rw [if_pos hp, if_pos (h n e hp)]; omega
      · rw [if_neg hp]; omega
theorem cnt_true (n : Nat) {P : Nat → Bool} (h : ∀ i, P i = true) : cnt P n = n := by
  induction n with
  | zero => rfl
  | succ n ih => unfold cnt; rw [ih, if_pos (h n)]
theorem fold_roots (n : Nat) (xs : List Link) : ∀ (J : Nat → Nat), (∀ i, J (J i) = J i) → cnt (fun i => decide (J i = i)) n ≤ cnt (fun i => decide (xs.foldl jstep J i = i)) n + xs.length := by
  induction xs with
  | nil => intro J _; exact Nat.le_refl _
  | cons l xs ih =>
    intro J hid
    have hmm : ∀ i, jstep J l (jstep J l i) = jstep J l i := fun i => by
      have q1 : J (min (J l.f.toNat) (J l.t.toNat)) = min (J l.f.toNat) (J l.t.toNat) := by
        rcases Nat.le_total (J l.f.toNat) (J l.t.toNat) with hh | hh
        · rw [Nat.min_eq_left hh, hid]
        · rw [Nat.min_eq_right hh, hid]
      unfold jstep
      by_cases c : J i = max (J l.f.toNat) (J l.t.toNat)
      · rw [if_pos c, q1]; split <;> rfl
      · rw [if_neg c, hid, if_neg c]
    have a := ih (jstep J l) hmm
    have b := cnt_one (P := fun i => decide (J i = i)) (Q := fun i => decide (jstep J l i = i)) (k := max (J l.f.toNat) (J l.t.toNat)) n (fun i hne h => by
      simp only [decide_eq_true_eq] at *
      unfold jstep; rw [h, if_neg hne])
    show _ ≤ cnt (fun i => decide (xs.foldl jstep (jstep J l) i = i)) n + (xs.length + 1)
    omega
theorem joinF_roots (ls : List Link) (n : Nat) : n ≤ cnt (fun i => decide (joinF ls i = i)) n + ls.length := by
  have := fold_roots n ls (fun i => i) (fun _ => rfl)
  rw [cnt_true n (by simp)] at this
  exact this

end Go.Proofs.Ytnlnelfncejcfaa.Lk
