/- The plain mathematics of lists of wave numbers: valid ones, widths, sums. -/
import Derived.Test.YtpfbjpognmjmmaaPlain
namespace Go.Proofs.Ytpfbjpognmjmmaa.Bl

def okAt (zs : List Int) (i : Nat) : Prop := 0 ≤ gI zs i ∧ gI zs i ≤ 200000 ∧ (0 < i → gI zs (i - 1) < gI zs i)
instance (zs : List Int) (i : Nat) : Decidable (okAt zs i) := by unfold okAt; exact inferInstance
/-- are there not too many ascending wave numbers -/
def blOk (zs : List Int) : Bool := decide (zs.length ≤ 40) && decide (∀ i, i < zs.length → okAt zs i)

theorem blOk_len {zs : List Int} (h : blOk zs = true) : zs.length ≤ 40 := by unfold blOk at h; simp at h; exact h.1
theorem blOk_at {zs : List Int} (h : blOk zs = true) {i : Nat} (hi : i < zs.length) : okAt zs i := by unfold blOk at h; simp at h; exact h.2 i hi
theorem blOk_mk {zs : List Int} (h1 : zs.length ≤ 40) (h2 : ∀ i, i < zs.length → okAt zs i) : blOk zs = true := by unfold blOk; simp; exact ⟨h1, h2⟩
theorem blOk_bad {zs : List Int} {i : Nat} (hi : i < zs.length) (h : ¬ okAt zs i) : blOk zs = false := by
  rcases hb : blOk zs with _ | _
  · rfl
  · exact absurd (blOk_at hb hi) h
theorem blOk_long {zs : List Int} (h : 40 < zs.length) : blOk zs = false := by
  rcases hb : blOk zs with _ | _
  · rfl
  · have := blOk_len hb; omega

/-- the greatest gap among the first k numbers -/
def bw (zs : List Int) : Nat → Int
  | 0 => 0
  | k + 1 => if k = 0 then 0 else max (bw zs k) (gI zs k - gI zs (k - 1))
theorem bw_succ {zs : List Int} {k : Nat} (hk : 0 < k) : bw zs (k + 1) = max (bw zs k) (gI zs k - gI zs (k - 1)) := by
  rw [bw, if_neg (by omega)]
theorem bw_one (zs : List Int) : bw zs 1 = 0 := rfl
theorem bw_nonneg (zs : List Int) (k : Nat) : 0 ≤ bw zs k := by
  induction k with
  | zero => exact Int.le_refl _
  | succ k ih => unfold bw; split <;> omega
theorem bw_le {zs : List Int} (h : blOk zs = true) (k : Nat) (hk : k ≤ zs.length) : bw zs k ≤ 200000 := by
  induction k with
  | zero => simp [bw]
  | succ k ih =>
    unfold bw; split
    · omega
    · have h1 := blOk_at h (i := k) (by omega)
      have h2 := blOk_at h (i := k - 1) (by omega)
      have := ih (by omega)
      unfold okAt at h1 h2; omega
def blendWidth (zs : List Int) : Int := if blOk zs = true then bw zs zs.length else -1

/-- the sum of the first k numbers -/
def tot (zs : List Int) : Nat → Int
  | 0 => 0
  | k + 1 => tot zs k + gI zs k
/-- are the first k numbers wave numbers -/
def inR (zs : List Int) (k : Nat) : Prop := ∀ i, i < k → 0 ≤ gI zs i ∧ gI zs i ≤ 200000
instance (zs : List Int) (k : Nat) : Decidable (inR zs k) := by unfold inR; exact inferInstance
theorem tot_bd {zs : List Int} {k : Nat} (h : inR zs k) : 0 ≤ tot zs k ∧ tot zs k ≤ 200000 * k := by
  induction k with
  | zero => simp [tot]
  | succ k ih =>
    have := ih (fun i hi => h i (by omega))
    have := h k (by omega)
    unfold tot; omega
theorem inR_succ {zs : List Int} {k : Nat} (h : inR zs k) (h1 : 0 ≤ gI zs k) (h2 : gI zs k ≤ 200000) : inR zs (k + 1) := fun i hi => by
  by_cases e : i = k
  · subst e; exact ⟨h1, h2⟩
  · exact h i (by omega)
/-- may the mean of a list be formed -/
def meanOk (zs : List Int) : Bool := decide (0 < zs.length) && decide (zs.length ≤ 40) && decide (inR zs zs.length)
end Go.Proofs.Ytpfbjpognmjmmaa.Bl
