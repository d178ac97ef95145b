/- Energies and known levels in memory; what fits. -/
import Derived.Test.YtpkfpegilhadfabLkRelS
import Derived.Test.YtpkfpegilhadfabLkFitP
import Derived.Test.YtpkfpegilhadfabLkLawP
set_option linter.unusedVariables false
namespace Go.Proofs.Ytpkfpegilhadfab
open Go.RowKit Lk

/-- two slices of the call's own, that read as a state -/
structure StO (w : World) (b1 b2 g1 g2 n : Nat) (s : St) : Prop where
  ne : g1 ≠ g2
  eo : w.ownsRow b1 3 1 (.slice (some ⟨g1, 0, none⟩) n n) n (s.e.map (Value.int .i64))
  ko : w.ownsRow b2 4 1 (.slice (some ⟨g2, 0, none⟩) n n) n (s.k.map Value.bool)
theorem getElem?_map_bool {zs : List Bool} {i : Nat} (h : i < zs.length) : (zs.map Value.bool)[i]? = some (.bool (gB zs i)) := by
  simp [gB, h]
section
variable {w w' : World} {b1 b2 g1 g2 n : Nat} {s : St}
theorem StO.el (h : StO w b1 b2 g1 g2 n s) : s.e.length = n := by have := h.eo.1; simpa using this
theorem StO.kl (h : StO w b1 b2 g1 g2 n s) : s.k.length = n := by have := h.ko.1; simpa using this
theorem StO.lt1 (h : StO w b1 b2 g1 g2 n s) : g1 < w.heap.size := (h.eo.lt _ rfl).2
theorem StO.lt2 (h : StO w b1 b2 g1 g2 n s) : g2 < w.heap.size := (h.ko.lt _ rfl).2
theorem StO.alloc (h : StO w b1 b2 g1 g2 n s) (o : Obj) : StO (w.alloc o) b1 b2 g1 g2 n s := ⟨h.ne, h.eo.alloc o, h.ko.alloc o⟩
theorem StO.drewN (h : StO w b1 b2 g1 g2 n s) (k : Nat) : StO (w.drewN k) b1 b2 g1 g2 n s := ⟨h.ne, h.eo, h.ko⟩
theorem StO.drew (h : StO w b1 b2 g1 g2 n s) : StO w.drew b1 b2 g1 g2 n s := ⟨h.ne, h.eo, h.ko⟩
theorem StO.below (h : StO w b1 b2 g1 g2 n s) (hb : Below w.heap.size w w') : StO w' b1 b2 g1 g2 n s := ⟨h.ne, own_below h.eo hb, own_below h.ko hb⟩
theorem StO.setE (h : StO w b1 b2 g1 g2 n s) (i : Nat) (x : Int) : StO (w.setCell ⟨g1, i, none⟩ (.int .i64 x)) b1 b2 g1 g2 n ⟨s.e.set i x, s.k⟩ ∧ w.grownBy (w.setCell ⟨g1, i, none⟩ (.int .i64 x)) (some g1) := by
  have a := h.eo.stored i (.int .i64 x)
  rw [← List.map_set] at a
  exact ⟨⟨h.ne, a.1, h.ko.kept a.2 (.inr (by simp [Value.ownBlock]; exact fun e => h.ne e.symm))⟩, a.2⟩
theorem StO.setK (h : StO w b1 b2 g1 g2 n s) (i : Nat) (x : Bool) : StO (w.setCell ⟨g2, i, none⟩ (.bool x)) b1 b2 g1 g2 n ⟨s.e, s.k.set i x⟩ ∧ w.grownBy (w.setCell ⟨g2, i, none⟩ (.bool x)) (some g2) := by
  have a := h.ko.stored i (.bool x)
  rw [← List.map_set] at a
  exact ⟨⟨h.ne, h.eo.kept a.2 (.inr (by simp [Value.ownBlock]; exact h.ne)), a.1⟩, a.2⟩
theorem StO.atE (h : StO w b1 b2 g1 g2 n s) {i : Nat} (hi : i < n) : w.cell? ⟨g1, i, none⟩ = some (.int .i64 (gI s.e i)) := (h.eo.cellAt _ (by omega)).trans (getElem?_map_some (by rw [h.el]; exact hi))
theorem StO.atK (h : StO w b1 b2 g1 g2 n s) {i : Nat} (hi : i < n) : w.cell? ⟨g2, i, none⟩ = some (.bool (gB s.k i)) := (h.ko.cellAt _ (by omega)).trans (getElem?_map_bool (by rw [h.kl]; exact hi))
theorem StO.frE (h : StO w b1 b2 g1 g2 n s) (i : Nat) : w.frozen? ⟨g1, i, none⟩ = false := h.eo.frozenAt i
theorem StO.frK (h : StO w b1 b2 g1 g2 n s) (i : Nat) : w.frozen? ⟨g2, i, none⟩ = false := h.ko.frozenAt i
theorem StO.sz (h : StO w b1 b2 g1 g2 n s) : Sz n s := ⟨h.el, h.kl⟩
end
theorem below_set {B g i : Nat} {w0 w : World} {u : Value} (hb : Below B w0 w) (hg : w.grownBy (w.setCell ⟨g, i, none⟩ u) (some g)) (hB : B ≤ g) (hw : B ≤ w.heap.size) : Below B w0 (w.setCell ⟨g, i, none⟩ u) :=
  hb.grown hg hw (by intro q e; injection e; omega)

namespace Lk
theorem ref_see {n m : Nat} {ls : List Link} {s : St} (hm : m < n) (h : Ref n ls m s) : Sz n (see s m) ∧ Good n (see s m) := by
  have hset : ∀ i, gB (see s m).k i = if i = m then true else gB s.k i := fun i => gB_set (by rw [h.sz.2]; exact hm)
  have hkn : kn n s ≤ kn n (see s m) := cnt_mono fun i _ hi => by rw [hset]; split <;> first | rfl | exact hi
  refine ⟨⟨h.sz.1, by show (s.k.set m true).length = n; simp [h.sz.2]⟩, fun i hi hh => ?_, fun i hi => by have := h.good.small i hi; show _ ≤ gI s.e i ∧ gI s.e i ≤ _; omega⟩
  rw [hset] at hh
  split at hh
  · cases hh
  · exact h.good.zero i hi hh
theorem good_bd {n i : Nat} {s : St} (hn : n ≤ 12) (hi : i < n) (h : Good n s) : -2400000 ≤ gI s.e i ∧ gI s.e i ≤ 2400000 := by
  have := h.small i hi
  have := kn_le n s
  omega
open Classical in
/-- LinksFit's result -/
noncomputable def fitR (many : Int) (ls : List Link) : Option (List Int) :=
  if h : lsOk many ls = true ∧ ∃ es, FitE many.toNat ls es then some h.2.choose else none
theorem fitR_yes {N : Nat} {ls : List Link} {es : List Int} (h : lsOk (N : Int) ls = true) (hf : FitE N ls es) : fitR N ls = some es := by
  have hh : lsOk (N : Int) ls = true ∧ ∃ es, FitE (N : Int).toNat ls es := ⟨h, es, by rw [Int.toNat_natCast]; exact hf⟩
  unfold fitR
  rw [dif_pos hh]
  exact congrArg some (fitE_unique (n := N) hh.2.choose_spec hf)
theorem fitR_bad {many : Int} {ls : List Link} (h : lsOk many ls = false) : fitR many ls = none := by
  unfold fitR
  rw [dif_neg (fun hh => by rw [h] at hh; cases hh.1)]
theorem fitR_no {N : Nat} {ls : List Link} (h : ¬ ∃ p, Fit 0 ls p) : fitR N ls = none := by
  unfold fitR
  rw [dif_neg (fun hh => h (by obtain ⟨_, es, he⟩ := hh; exact ⟨_, he.fit⟩))]
theorem fitR_some {N : Nat} {ls : List Link} {es : List Int} (h : fitR N ls = some es) : lsOk (N : Int) ls = true ∧ FitE N ls es := by
  unfold fitR at h
  split at h
  · rename_i hh
    have := hh.2.choose_spec
    injection h with h
    rw [h] at this
    exact ⟨hh.1, this⟩
  · cases h
theorem fitR_none {N : Nat} {ls : List Link} (hok : lsOk (N : Int) ls = true) (h : fitR N ls = none) : ¬ ∃ p, Fit 0 ls p := fun ⟨p, hp⟩ => by
  rw [fitR_yes hok (aboveL_is (in_of_ok hok rfl) hp)] at h
  cases h
theorem fitE_bd {N : Nat} {ls : List Link} {es : List Int} (hok : lsOk (N : Int) ls = true) (h : FitE N ls es) : ∀ i, i < N → -2400000 ≤ gI es i ∧ gI es i ≤ 2400000 := by
  have hb := lsOk_bd hok
  have hl : ∀ l ∈ ls, In N l := in_of_ok hok rfl
  have hd : ∀ l ∈ ls, -200000 ≤ l.d ∧ l.d ≤ 200000 := fun l h => by have := lsOk_mem hok h; unfold lOk at this; omega
  have key : ∀ m, m ≤ N → ∃ s, Ref N ls m s := by
    intro m
    induction m with
    | zero => exact fun _ => ⟨_, ref_start N ls⟩
    | succ m ih =>
      intro hm
      obtain ⟨s, hs⟩ := ih (by omega)
      exact ⟨_, ref_step hl hd (by omega) hs⟩
  obtain ⟨s, hs⟩ := key N (Nat.le_refl _)
  obtain ⟨a, b⟩ := ref_end hl hs
  have e := fitE_unique h (a (b _ h.fit))
  intro i hi
  rw [e]
  exact good_bd (by omega) hi hs.good
theorem fitR_bd {many : Int} {ls : List Link} {es : List Int} (h : fitR many ls = some es) : es.length ≤ 12 ∧ (es.length : Int) = many ∧ (∀ z ∈ es, -2400000 ≤ z ∧ z ≤ 2400000) := by
  rcases hok : lsOk many ls with _ | _
  · rw [fitR_bad hok] at h; cases h
  · have hb := lsOk_bd hok
    obtain ⟨N, rfl⟩ := Int.eq_ofNat_of_zero_le (show 0 ≤ many by omega)
    obtain ⟨_, hf⟩ := fitR_some h
    have hl := hf.len
    refine ⟨by omega, by omega, fun z hz => ?_⟩
    obtain ⟨i, hi, rfl⟩ := List.mem_iff_getElem.1 hz
    have := fitE_bd hok hf i (by omega)
    rw [gI_lt hi] at this; exact this
end Lk
end Go.Proofs.Ytpkfpegilhadfab
