/- The plain mathematics of one round of bounds: how low they get, and whether one has been lowered. -/
import Derived.Test.YtnlnelfncejcfaaLkLawP
set_option linter.unusedVariables false
namespace Go.Proofs.Ytnlnelfncejcfaa.Lk

/-- numbers from -B to 0 -/
def Bd (B : Int) (z : List Int) : Prop := ∀ i, -B ≤ gI z i ∧ gI z i ≤ 0
theorem Bd.more {B C : Int} {z : List Int} (h : Bd B z) (hC : B ≤ C) : Bd C z := fun i => by have := h i; omega
theorem bd_zero (n : Nat) : Bd 0 (List.replicate n 0) := fun i => by rw [gI_rep]; omega
theorem bd_low {B v : Int} {z : List Int} {i : Nat} (hi : i < z.length) (h : Bd B z) (hB : 0 ≤ B) (hv : -(B + 200000) ≤ v) : Bd (B + 200000) (low z i v) := fun j => by
  have := h j
  unfold low; split
  · rename_i c
    have hz := h i
    rw [gI_set hi]; split <;> omega
  · omega
theorem bd_relA {B tol : Int} {z : List Int} {l : Link} (hl : In z.length l) (h : Bd B z) (hB : 0 ≤ B) (ht : 0 ≤ tol) (hd : -200000 ≤ l.d ∧ l.d ≤ 200000) : Bd (B + 200000) (relA tol z l) :=
  bd_low hl.2 h hB (by have := h l.f.toNat; omega)
theorem bd_relB {B tol : Int} {z : List Int} {l : Link} (hl : In z.length l) (h : Bd B z) (hB : 0 ≤ B) (ht : 0 ≤ tol) (hd : -200000 ≤ l.d ∧ l.d ≤ 200000) : Bd (B + 200000) (relB tol z l) :=
  bd_low hl.1 h hB (by have := h l.t.toNat; omega)
theorem relA_len (tol : Int) (z : List Int) (l : Link) : (relA tol z l).length = z.length := low_len _ _ _
theorem relB_len (tol : Int) (z : List Int) (l : Link) : (relB tol z l).length = z.length := low_len _ _ _
theorem bd_rel1 {B tol : Int} {z : List Int} {l : Link} (hl : In z.length l) (h : Bd B z) (hB : 0 ≤ B) (ht : 0 ≤ tol) (hd : -200000 ≤ l.d ∧ l.d ≤ 200000) : Bd (B + 400000) (rel1 tol z l) :=
  (bd_relB (z := relA tol z l) (by rw [relA_len]; exact hl) (bd_relA hl h hB ht hd) (by omega) ht hd).more (by omega)
theorem bd_rel {tol : Int} (ht : 0 ≤ tol) (ls : List Link) : ∀ {B : Int} {z : List Int}, (∀ l ∈ ls, In z.length l) → (∀ l ∈ ls, -200000 ≤ l.d ∧ l.d ≤ 200000) → Bd B z → 0 ≤ B → Bd (B + 400000 * ls.length) (rel tol ls z) := by
  induction ls with
  | nil => intro B z _ _ h _; exact h.more (by simp)
  | cons l ls ih =>
    intro B z hl hd h hB
    have e := rel1_len tol z l
    have := ih (B := B + 400000) (z := rel1 tol z l) (fun x hx => by rw [e]; exact hl x (by simp [hx])) (fun x hx => hd x (by simp [hx])) (bd_rel1 (hl l (by simp)) h hB ht (hd l (by simp))) (by omega)
    exact this.more (by simp only [List.length_cons]; omega)
/-- a lowered list is another one -/
theorem low_ne {z es : List Int} {i : Nat} {v : Int} (hi : i < z.length) (h : Le z es) (hv : v < gI z i) : low z i v ≠ es := fun e => by
  have a := h i
  have b := gI_set (zs := z) (i := i) (j := i) (v := v) hi
  rw [low_yes hv] at e
  rw [e, if_pos rfl] at b
  omega
theorem relA_yes {tol : Int} {z es : List Int} {l : Link} (hl : In z.length l) (h : Le z es) (c : gI z l.f.toNat + l.d + tol < gI z l.t.toNat) : relA tol z l = z.set l.t.toNat (gI z l.f.toNat + l.d + tol) ∧ decide (relA tol z l ≠ es) = true :=
  ⟨low_yes c, decide_eq_true (low_ne hl.2 h c)⟩
theorem relA_no {tol : Int} {z : List Int} {l : Link} (c : ¬ gI z l.f.toNat + l.d + tol < gI z l.t.toNat) : relA tol z l = z := low_no c
theorem relB_yes {tol : Int} {z es : List Int} {l : Link} (hl : In z.length l) (h : Le z es) (c : gI z l.t.toNat - l.d + tol < gI z l.f.toNat) : relB tol z l = z.set l.f.toNat (gI z l.t.toNat - l.d + tol) ∧ decide (relB tol z l ≠ es) = true :=
  ⟨low_yes c, decide_eq_true (low_ne hl.1 h c)⟩
theorem relB_no {tol : Int} {z : List Int} {l : Link} (c : ¬ gI z l.t.toNat - l.d + tol < gI z l.f.toNat) : relB tol z l = z := low_no c
theorem relA_le (tol : Int) (z : List Int) (l : Link) : Le (relA tol z l) z := low_le _ _ _
theorem relB_le (tol : Int) (z : List Int) (l : Link) : Le (relB tol z l) z := low_le _ _ _
end Go.Proofs.Ytnlnelfncejcfaa.Lk
