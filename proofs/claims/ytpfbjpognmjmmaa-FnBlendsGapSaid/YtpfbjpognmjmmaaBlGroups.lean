/- The plain mathematics of blends: ascending numbers cut at each gap. -/
import Derived.Test.YtpfbjpognmjmmaaBlPlain
namespace Go.Proofs.Ytpfbjpognmjmmaa.Bl

/-- does a new blend begin at place k -/
def cutB (zs : List Int) (w : Int) (k : Nat) : Bool := decide (k = 0) || decide (w < gI zs k - gI zs (k - 1))
/-- the blends of the first k numbers, the last one ahead -/
def grR (zs : List Int) (w : Int) : Nat → List (List Int)
  | 0 => []
  | k + 1 => if cutB zs w k = true then [gI zs k] :: grR zs w k else ((grR zs w k).headD [] ++ [gI zs k]) :: (grR zs w k).tail
/-- the blends of the first k numbers -/
def gr (zs : List Int) (w : Int) (k : Nat) : List (List Int) := (grR zs w k).reverse
theorem gr_zero (zs : List Int) (w : Int) : gr zs w 0 = [] := rfl
theorem grR_ne {zs : List Int} {w : Int} {k : Nat} (h : 0 < k) : grR zs w k ≠ [] := by
  cases k with
  | zero => omega
  | succ k => unfold grR; split <;> simp
theorem gr_new {zs : List Int} {w : Int} {k : Nat} (h : cutB zs w k = true) : gr zs w (k + 1) = gr zs w k ++ [[gI zs k]] := by
  unfold gr; rw [grR, if_pos h]; simp
theorem grR_form {zs : List Int} {w : Int} {k : Nat} (h : 0 < k) : ∃ g gs, grR zs w k = g :: gs ∧ gr zs w k = gs.reverse ++ [g] := by
  cases e : grR zs w k with
  | nil => exact absurd e (grR_ne h)
  | cons g gs => exact ⟨g, gs, rfl, by unfold gr; rw [e]; simp⟩
theorem cutB_no {zs : List Int} {w : Int} {k : Nat} (h : cutB zs w k = false) : 0 < k ∧ gI zs k - gI zs (k - 1) ≤ w := by
  unfold cutB at h; simp at h; omega
/-- the last blend grows -/
theorem gr_old {zs : List Int} {w : Int} {k : Nat} (h : cutB zs w k = false) : ∃ gs g, gr zs w k = gs ++ [g] ∧ gr zs w (k + 1) = gs ++ [g ++ [gI zs k]] := by
  obtain ⟨g, gs, e1, e2⟩ := grR_form (zs := zs) (w := w) (cutB_no h).1
  refine ⟨gs.reverse, g, e2, ?_⟩
  unfold gr; rw [grR, if_neg (by rw [h]; simp), e1]; simp
/-- the blends from a cut on -/
theorem gr_span {zs : List Int} {w : Int} {a : Nat} (ha : cutB zs w a = true) (m : Nat) (hm : ∀ j, a < j → j ≤ a + m → cutB zs w j = false) :
    gr zs w (a + m + 1) = gr zs w a ++ [(zs.drop a).take (m + 1)] ∨ zs.length < a + m + 1 := by
  induction m with
  | zero =>
    by_cases h : a < zs.length
    · left
      have e : (zs.drop a).take (0 + 1) = [gI zs a] := by rw [List.drop_eq_getElem_cons h, gI_lt h]; rfl
      show gr zs w (a + 1) = _
      rw [gr_new ha, e]
    · right; omega
  | succ m ih =>
    rcases ih (fun j h1 h2 => hm j h1 (by omega)) with h | h
    · by_cases hl : a + m + 1 < zs.length
      · left
        obtain ⟨gs, g, e1, e2⟩ := gr_old (hm (a + m + 1) (by omega) (by omega))
        rw [h] at e1
        have := List.append_inj' e1 rfl
        obtain ⟨rfl, e3⟩ := this
        simp only [List.cons.injEq, and_true] at e3
        rw [show a + (m + 1) + 1 = a + m + 1 + 1 by omega, e2, ← e3]
        have : (zs.drop a).take (m + 1 + 1) = (zs.drop a).take (m + 1) ++ [gI zs (a + m + 1)] := by
          rw [List.take_succ_eq_append_getElem (i := m + 1) (by simp; omega), List.getElem_drop, gI_lt hl]
          rfl
        rw [this]
      · right; omega
    · right; omega
theorem gr_len_le (zs : List Int) (w : Int) (k : Nat) : (gr zs w k).length ≤ k := by
  induction k with
  | zero => simp [gr_zero]
  | succ k ih =>
    rcases h : cutB zs w k with _ | _
    · obtain ⟨gs, g, e1, e2⟩ := gr_old h
      rw [e1] at ih; rw [e2]; simp at ih ⊢; omega
    · rw [gr_new h]; simp; exact ih
theorem gr_len_pos {zs : List Int} {w : Int} {k : Nat} (h : 0 < k) : 0 < (gr zs w k).length := by
  obtain ⟨g, gs, _, e⟩ := grR_form (zs := zs) (w := w) h
  rw [e]; simp
theorem gr_len_step (zs : List Int) (w : Int) (k : Nat) : (gr zs w (k + 1)).length = (gr zs w k).length + if cutB zs w k = true then 1 else 0 := by
  rcases h : cutB zs w k with _ | _
  · obtain ⟨gs, g, e1, e2⟩ := gr_old h
    rw [e1, e2]; simp
  · rw [gr_new h]; simp
theorem gr_len_mono {zs : List Int} {w : Int} {a b : Nat} (h : a ≤ b) : (gr zs w a).length ≤ (gr zs w b).length := by
  induction b with
  | zero => have : a = 0 := by omega
            rw [this]; exact Nat.le_refl _
  | succ b ih =>
    by_cases e : a = b + 1
    · rw [e]; exact Nat.le_refl _
    · have := ih (by omega)
      rw [gr_len_step]; omega

/-- BlendsOf's result: none for an invalid list or width -/
def blends (zs : List Int) (w : Int) : Option (List (List Int)) := if blOk zs = true ∧ 0 ≤ w ∧ w ≤ 200000 then some (gr zs w zs.length) else none
def blendsMany (zs : List Int) (w : Int) : Int := match blends zs w with | some g => (g.length : Int) | none => -1

/-- what a list of blends is made of -/
structure Grp (zs : List Int) (w : Int) (k : Nat) (G : List (List Int)) : Prop where
  /-- no blend is empty, and neighbours in it are near -/
  near : ∀ g ∈ G, 0 < g.length ∧ ∀ j, 0 < j → j < g.length → gI g j - gI g (j - 1) ≤ w
  /-- each blend's numbers are a part of the list -/
  part : ∀ g ∈ G, ∃ a, a + g.length ≤ k ∧ ∀ j, j < g.length → gI g j = gI zs (a + j)
theorem gr_grp (zs : List Int) (w : Int) (k : Nat) : Grp zs w k (gr zs w k) ∧ (∀ g, (gr zs w k).getLast? = some g → gI g (g.length - 1) = gI zs (k - 1) ∧ ∃ a, a + g.length = k ∧ ∀ j, j < g.length → gI g j = gI zs (a + j)) := by
  induction k with
  | zero => exact ⟨⟨(fun g h => by cases h), (fun g h => by cases h)⟩, (fun g h => by cases h)⟩
  | succ k ih =>
    obtain ⟨⟨h1, h2⟩, h3⟩ := ih
    rcases hc : cutB zs w k with _ | _
    · obtain ⟨gs, g, e1, e2⟩ := gr_old hc
      obtain ⟨hk, hn⟩ := cutB_no hc
      rw [e1] at h1 h2 h3
      obtain ⟨l1, a, l2, l3⟩ := h3 g (by simp)
      obtain ⟨g1, g2⟩ := h1 g (by simp)
      have hat : ∀ j, j < (g ++ [gI zs k]).length → gI (g ++ [gI zs k]) j = gI zs (a + j) := fun j hj => by
        by_cases c : j < g.length
        · rw [gI_append_lt c]; exact l3 j c
        · have : j = g.length := by simp at hj; omega
          subst this
          rw [gI_append_ge (Nat.le_refl _), Nat.sub_self, gI_cons_zero, l2]
      rw [e2]
      refine ⟨⟨fun x hx => ?_, fun x hx => ?_⟩, fun x hx => ?_⟩
      · rcases List.mem_append.1 hx with hx | hx
        · exact h1 x (by simp [hx])
        · have : x = g ++ [gI zs k] := by simpa using hx
          subst this
          refine ⟨by simp, fun j hj0 hj => ?_⟩
          by_cases c : j < g.length
          · rw [gI_append_lt c, gI_append_lt (by omega)]; exact g2 j hj0 c
          · have : j = g.length := by simp at hj; omega
            subst this
            rw [gI_append_ge (Nat.le_refl _), Nat.sub_self, gI_cons_zero, gI_append_lt (by omega), l1]; exact hn
      · rcases List.mem_append.1 hx with hx | hx
        · obtain ⟨b, q1, q2⟩ := h2 x (by simp [hx])
          exact ⟨b, by omega, q2⟩
        · have : x = g ++ [gI zs k] := by simpa using hx
          subst this
          exact ⟨a, by simp; omega, hat⟩
      · have : x = g ++ [gI zs k] := by simpa using hx.symm
        subst this
        refine ⟨?_, a, by simp; omega, hat⟩
        simp only [List.length_append, List.length_singleton, Nat.add_sub_cancel]
        rw [gI_append_ge (Nat.le_refl _), Nat.sub_self, gI_cons_zero]
    · rw [gr_new hc]
      refine ⟨⟨fun x hx => ?_, fun x hx => ?_⟩, fun x hx => ?_⟩
      · rcases List.mem_append.1 hx with hx | hx
        · exact h1 x hx
        · have : x = [gI zs k] := by simpa using hx
          subst this
          exact ⟨by simp, fun j hj0 hj => by simp at hj; omega⟩
      · rcases List.mem_append.1 hx with hx | hx
        · obtain ⟨b, q1, q2⟩ := h2 x hx
          exact ⟨b, by omega, q2⟩
        · have : x = [gI zs k] := by simpa using hx
          subst this
          exact ⟨k, by simp, fun j hj => by have : j = 0 := by simp at hj; omega
                                            subst this; rfl⟩
      · have : x = [gI zs k] := by simpa using hx.symm
        subst this
        exact ⟨rfl, k, by simp, fun j hj => by have : j = 0 := by simp at hj; omega
                                               subst this; rfl⟩
/-- between two blends there is a gap -/
theorem gr_far (zs : List Int) (w : Int) (k : Nat) : ∀ i, 0 < i → i < (gr zs w k).length → w < gI ((gr zs w k)[i]?.getD []) 0 - gI ((gr zs w k)[i - 1]?.getD []) (((gr zs w k)[i - 1]?.getD []).length - 1) := by
  induction k with
  | zero => intro i _ h; simp [gr_zero] at h
  | succ k ih =>
    intro i h0 hi
    obtain ⟨hG, hl⟩ := gr_grp zs w k
    rcases hc : cutB zs w k with _ | _
    · obtain ⟨gs, g, e1, e2⟩ := gr_old hc
      rw [e1] at ih hG
      rw [e2] at hi ⊢
      have hg := (hG.near g (by simp)).1
      have := ih i h0 (by simpa using hi)
      by_cases c : i < gs.length
      · rw [List.getElem?_append_left c, List.getElem?_append_left (by omega)] at this ⊢
        exact this
      · have ei : i = gs.length := by simp at hi; omega
        subst ei
        rw [List.getElem?_append_right (Nat.le_refl _), List.getElem?_append_left (by omega)] at this ⊢
        simp only [Nat.sub_self, List.getElem?_cons_zero, Option.getD_some] at this ⊢
        rw [gI_append_lt hg]; exact this
    · rw [gr_new hc] at hi ⊢
      by_cases c : i < (gr zs w k).length
      · rw [List.getElem?_append_left c, List.getElem?_append_left (by omega)]
        exact ih i h0 c
      · have ei : i = (gr zs w k).length := by simp at hi; omega
        have hk : 0 < k := by
          rcases Nat.eq_zero_or_pos k with h | h
          · rw [h, gr_zero] at ei; simp at ei; omega
          · exact h
        obtain ⟨g, gs, _, e2⟩ := grR_form (zs := zs) (w := w) hk
        have hlast := (hl g (by rw [e2]; simp)).1
        have hgap : w < gI zs k - gI zs (k - 1) := by
          unfold cutB at hc; simp at hc; omega
        rw [List.getElem?_append_right (by omega), List.getElem?_append_left (by omega), e2]
        have e3 : i - 1 = gs.reverse.length := by rw [ei, e2]; simp
        have e4 : i - (gs.reverse ++ [g]).length = 0 := by rw [ei, e2]; simp
        rw [e3, e4, List.getElem?_append_right (Nat.le_refl _)]
        simp only [Nat.sub_self, List.getElem?_cons_zero, Option.getD_some, gI_cons_zero]
        rw [hlast]; exact hgap
/-- a list without a gap is one blend -/
theorem gr_one {zs : List Int} {w : Int} {k : Nat} (h0 : 0 < k) (hk : k ≤ zs.length) (h : ∀ j, 0 < j → j < k → gI zs j - gI zs (j - 1) ≤ w) : gr zs w k = [zs.take k] := by
  have := gr_span (zs := zs) (w := w) (a := 0) (by simp [cutB]) (k - 1) (fun j h1 h2 => by unfold cutB; simp; have := h j h1 (by omega); omega)
  rcases this with e | e
  · rw [show 0 + (k - 1) + 1 = k by omega] at e
    rw [e, gr_zero]; simp [show k - 1 + 1 = k by omega]
  · omega
theorem gr_two {zs : List Int} {w : Int} {j k : Nat} (h0 : 0 < j) (hj : j < k) (h : w < gI zs j - gI zs (j - 1)) : 1 < (gr zs w k).length := by
  have a := gr_len_mono (zs := zs) (w := w) (a := j + 1) (b := k) (by omega)
  have b := gr_len_pos (zs := zs) (w := w) h0
  rw [gr_len_step, if_pos (by unfold cutB; simp; right; exact h)] at a
  omega
/-- a part of a valid list is valid -/
theorem blOk_part {zs g : List Int} (h : blOk zs = true) {a : Nat} (hl : a + g.length ≤ zs.length) (hg : ∀ j, j < g.length → gI g j = gI zs (a + j)) : blOk g = true := by
  have hz := blOk_len h
  refine blOk_mk (by omega) fun i hi => ?_
  have o := blOk_at h (i := a + i) (by omega)
  refine ⟨by rw [hg i hi]; exact o.1, by rw [hg i hi]; exact o.2.1, fun h0 => ?_⟩
  rw [hg i hi, hg (i - 1) (by omega)]
  have := o.2.2 (by omega)
  rw [show a + i - 1 = a + (i - 1) by omega] at this
  exact this
/-- the greatest gap is met -/
theorem bw_met {zs : List Int} {k : Nat} (h : 0 < bw zs k) : ∃ j, 0 < j ∧ j < k ∧ gI zs j - gI zs (j - 1) = bw zs k := by
  induction k with
  | zero => simp [bw] at h
  | succ k ih =>
    unfold bw at h ⊢
    split at h
    · omega
    · rename_i hk
      rw [if_neg hk]
      by_cases c : bw zs k ≤ gI zs k - gI zs (k - 1)
      · exact ⟨k, by omega, by omega, by omega⟩
      · obtain ⟨j, j1, j2, j3⟩ := ih (by omega)
        exact ⟨j, j1, by omega, by omega⟩
theorem bw_ge {zs : List Int} {k j : Nat} (h0 : 0 < j) (hj : j < k) : gI zs j - gI zs (j - 1) ≤ bw zs k := by
  induction k with
  | zero => omega
  | succ k ih =>
    unfold bw
    rw [if_neg (by omega)]
    by_cases e : j = k
    · subst e; omega
    · have := ih (by omega); omega
end Go.Proofs.Ytpfbjpognmjmmaa.Bl
