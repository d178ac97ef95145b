/- Sums of positions weighed by counts, with no program in sight. -/
import Derived.Test.YtddchlfhjiimcaaPkLaws
namespace Go.Proofs.Ytddchlfhjiimcaa.Pk

/-- a count as a natural number -/
def cN (zs : List Int) (i : Nat) : Nat := (gI zs i).toNat
theorem cN_eq {zs : List Int} (h : cOk zs = true) (i : Nat) : gI zs i = (cN zs i : Int) := by have := cOk_at h i; unfold cN; omega
theorem cN_le {zs : List Int} (h : cOk zs = true) (i : Nat) : cN zs i ≤ 9999 := by have := cOk_at h i; unfold cN; omega
/-- the sum of i * f i over the positions from lo on, below q; and of f i alone -/
def wS (f : Nat → Nat) (lo : Nat) : Nat → Nat
  | 0 => 0
  | q + 1 => wS f lo q + if lo ≤ q then q * f q else 0
def tS (f : Nat → Nat) (lo : Nat) : Nat → Nat
  | 0 => 0
  | q + 1 => tS f lo q + if lo ≤ q then f q else 0
theorem wS_lo (f : Nat → Nat) {lo q : Nat} (h : q ≤ lo) : wS f lo q = 0 := by
  induction q with
  | zero => rfl
  | succ q ih => unfold wS; rw [ih (by omega), if_neg (by omega)]
theorem tS_lo (f : Nat → Nat) {lo q : Nat} (h : q ≤ lo) : tS f lo q = 0 := by
  induction q with
  | zero => rfl
  | succ q ih => unfold tS; rw [ih (by omega), if_neg (by omega)]
theorem wS_step (f : Nat → Nat) {lo q : Nat} (h : lo ≤ q) : wS f lo (q + 1) = wS f lo q + q * f q := by rw [wS, if_pos h]
theorem tS_step (f : Nat → Nat) {lo q : Nat} (h : lo ≤ q) : tS f lo (q + 1) = tS f lo q + f q := by rw [tS, if_pos h]
theorem tS_bd {f : Nat → Nat} {lo : Nat} (h : ∀ i, f i ≤ 9999) (q : Nat) : tS f lo q ≤ 9999 * q := by
  induction q with
  | zero => simp [tS]
  | succ q ih => unfold tS; have := h q; split <;> omega
theorem wS_bd {f : Nat → Nat} {lo : Nat} (h : ∀ i, f i ≤ 9999) (q : Nat) (hq : q ≤ 200) : wS f lo q ≤ 1999800 * q := by
  induction q with
  | zero => simp [wS]
  | succ q ih =>
    have h1 := ih (by omega)
    have h2 : q * f q ≤ 200 * 9999 := Nat.mul_le_mul (by omega) (h q)
    unfold wS; split <;> omega

/-- the first position, and the one behind the last -/
def cLo (k h : Nat) : Nat := k - h
def cHi (k h n : Nat) : Nat := if k + h ≤ n - 1 then k + h + 1 else n
def cW (zs : List Int) (k h : Nat) : Nat := wS (cN zs) (cLo k h) (cHi k h zs.length)
def cT (zs : List Int) (k h : Nat) : Nat := tS (cN zs) (cLo k h) (cHi k h zs.length)
theorem cHi_le {k h n : Nat} (hk : k < n) : k < cHi k h n ∧ cHi k h n ≤ n := by unfold cHi; split <;> omega
theorem cLo_le {k h : Nat} : cLo k h ≤ k := by unfold cLo; omega
theorem wS_ge (f : Nat → Nat) (lo q : Nat) : lo * tS f lo q ≤ wS f lo q := by
  induction q with
  | zero => simp [tS, wS]
  | succ q ih =>
    unfold wS tS
    split
    · next h =>
      have : lo * f q ≤ q * f q := Nat.mul_le_mul_right _ h
      rw [Nat.mul_add]; omega
    · omega
theorem wS_le (f : Nat → Nat) (lo q m : Nat) (hm : q ≤ m + 1) : wS f lo q ≤ m * tS f lo q := by
  induction q with
  | zero => simp [tS, wS]
  | succ q ih =>
    have := ih (by omega)
    unfold wS tS
    split
    · have : q * f q ≤ m * f q := Nat.mul_le_mul_right _ (by omega)
      rw [Nat.mul_add]; omega
    · omega
end Go.Proofs.Ytddchlfhjiimcaa.Pk
