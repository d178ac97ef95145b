/- The plain mathematics of energies that fit links: spread from level to level. -/
import Derived.Test.YtnlnelfncejcfaaLkJoin
namespace Go.Proofs.Ytnlnelfncejcfaa.Lk

def gB (k : List Bool) (i : Nat) : Bool := k[i]?.getD false
theorem gB_lt {k : List Bool} {i : Nat} (h : i < k.length) : gB k i = k[i] := by simp [gB, h]
theorem gB_set {k : List Bool} {i j : Nat} {v : Bool} (h : i < k.length) : gB (k.set i v) j = if j = i then v else gB k j := by
  unfold gB
  rw [List.getElem?_set]
  by_cases e : i = j
  · subst e; simp [h]
  · rw [if_neg e, if_neg (fun h => e h.symm)]
theorem gB_ext {a b : List Bool} (hl : a.length = b.length) (h : ∀ i, i < a.length → gB a i = gB b i) : a = b := by
  apply List.ext_getElem hl
  intro i h1 h2
  have := h i h1
  rwa [gB_lt h1, gB_lt h2] at this

/-- energies and which of them are known -/
structure St where
  e : List Int
  k : List Bool
/-- one link gives an energy to a level that has none -/
def sp1 (s : St) (l : Link) : St :=
  if gB s.k l.f.toNat = true ∧ gB s.k l.t.toNat = false then ⟨s.e.set l.t.toNat (gI s.e l.f.toNat + l.d), s.k.set l.t.toNat true⟩
  else if gB s.k l.t.toNat = true ∧ gB s.k l.f.toNat = false then ⟨s.e.set l.f.toNat (gI s.e l.t.toNat - l.d), s.k.set l.f.toNat true⟩
  else s
def sp (ls : List Link) (s : St) : St := ls.foldl sp1 s
def sps (ls : List Link) : Nat → St → St
  | 0, s => s
  | r + 1, s => sp ls (sps ls r s)
theorem sp_snoc (ls : List Link) (l : Link) (s : St) : sp (ls ++ [l]) s = sp1 (sp ls s) l := by simp [sp]
theorem sp1_ft {s : St} {l : Link} (h1 : gB s.k l.f.toNat = true) (h2 : gB s.k l.t.toNat = false) : sp1 s l = ⟨s.e.set l.t.toNat (gI s.e l.f.toNat + l.d), s.k.set l.t.toNat true⟩ := if_pos ⟨h1, h2⟩
theorem sp1_tf {s : St} {l : Link} (h1 : gB s.k l.t.toNat = true) (h2 : gB s.k l.f.toNat = false) : sp1 s l = ⟨s.e.set l.f.toNat (gI s.e l.t.toNat - l.d), s.k.set l.f.toNat true⟩ := by
  unfold sp1; rw [if_neg (fun h => by rw [h2] at h; cases h.1), if_pos ⟨h1, h2⟩]
theorem sp1_no {s : St} {l : Link} (h : gB s.k l.t.toNat = gB s.k l.f.toNat) : sp1 s l = s := by
  unfold sp1
  rw [if_neg (fun hh => by rw [h, hh.1] at hh; cases hh.2), if_neg (fun hh => by rw [← h, hh.1] at hh; cases hh.2)]

/-- a state of n levels -/
def Sz (n : Nat) (s : St) : Prop := s.e.length = n ∧ s.k.length = n
theorem sp1_sz {n : Nat} {s : St} (h : Sz n s) (l : Link) : Sz n (sp1 s l) := by
  obtain ⟨h1, h2⟩ := h
  unfold sp1
  split
  · exact ⟨by simpa using h1, by simpa using h2⟩
  · split
    · exact ⟨by simpa using h1, by simpa using h2⟩
    · exact ⟨h1, h2⟩
theorem sp_sz {n : Nat} (ls : List Link) : ∀ {s : St}, Sz n s → Sz n (sp ls s) := by
  induction ls with
  | nil => intro s h; exact h
  | cons l ls ih => intro s h; exact ih (sp1_sz h l)
theorem sps_sz {n : Nat} (ls : List Link) {s : St} (h : Sz n s) (r : Nat) : Sz n (sps ls r s) := by
  induction r with
  | zero => exact h
  | succ r ih => exact sp_sz ls ih

/-- what is known stays known, with its energy -/
def Ext (s s' : St) : Prop := ∀ i, gB s.k i = true → gB s'.k i = true ∧ gI s'.e i = gI s.e i
theorem Ext.refl (s : St) : Ext s s := fun _ h => ⟨h, rfl⟩
theorem Ext.trans {a b c : St} (h : Ext a b) (k : Ext b c) : Ext a c := fun i hi => by
  obtain ⟨h1, h2⟩ := h i hi
  obtain ⟨k1, k2⟩ := k i h1
  exact ⟨k1, by rw [k2, h2]⟩
theorem sp1_ext {n : Nat} {s : St} {l : Link} (hs : Sz n s) (hl : In n l) : Ext s (sp1 s l) := by
  obtain ⟨s1, s2⟩ := hs
  obtain ⟨l1, l2⟩ := hl
  unfold sp1
  split
  · rename_i h
    intro i hi
    have hne : i ≠ l.t.toNat := fun e => by rw [e, h.2] at hi; cases hi
    exact ⟨by show gB (s.k.set _ _) _ = _; rw [gB_set (by omega), if_neg hne]; exact hi, by show gI (s.e.set _ _) _ = _; rw [gI_set (by omega), if_neg hne]⟩
  · split
    · rename_i h
      intro i hi
      have hne : i ≠ l.f.toNat := fun e => by rw [e, h.2] at hi; cases hi
      exact ⟨by show gB (s.k.set _ _) _ = _; rw [gB_set (by omega), if_neg hne]; exact hi, by show gI (s.e.set _ _) _ = _; rw [gI_set (by omega), if_neg hne]⟩
    · exact Ext.refl _
theorem sp_ext {n : Nat} {ls : List Link} (hl : ∀ l ∈ ls, In n l) : ∀ {s : St}, Sz n s → Ext s (sp ls s) := by
  induction ls with
  | nil => intro s _; exact Ext.refl _
  | cons l ls ih => intro s h; exact (sp1_ext h (hl l (by simp))).trans (ih (fun x hx => hl x (by simp [hx])) (sp1_sz h l))
theorem sps_ext {n : Nat} {ls : List Link} (hl : ∀ l ∈ ls, In n l) {s : St} (hs : Sz n s) (r : Nat) : Ext s (sps ls r s) := by
  induction r with
  | zero => exact Ext.refl _
  | succ r ih => exact ih.trans (sp_ext hl (sps_sz ls hs r))

/-- how many are known -/
def kn (n : Nat) (s : St) : Nat := cnt (gB s.k) n
theorem kn_le (n : Nat) (s : St) : kn n s ≤ n := cnt_le _ _
theorem ext_kn {n : Nat} {s s' : St} (h : Ext s s') : kn n s ≤ kn n s' := cnt_mono fun i _ hi => (h i hi).1
theorem sp1_kn {n : Nat} {s : St} {l : Link} (hs : Sz n s) (hl : In n l) (h : gB s.k l.t.toNat ≠ gB s.k l.f.toNat) : kn n s < kn n (sp1 s l) := by
  have hx := sp1_ext hs hl
  obtain ⟨s1, s2⟩ := hs
  obtain ⟨l1, l2⟩ := hl
  rcases hf : gB s.k l.f.toNat with _ | _ <;> rcases ht : gB s.k l.t.toNat with _ | _
  · rw [hf, ht] at h; exact absurd rfl h
  · refine cnt_lt (k := l.f.toNat) (fun i _ hi => (hx i hi).1) l1 hf ?_
    rw [sp1_tf ht hf]; show gB (s.k.set _ _) _ = _; rw [gB_set (by omega), if_pos rfl]
  · refine cnt_lt (k := l.t.toNat) (fun i _ hi => (hx i hi).1) l2 ht ?_
    rw [sp1_ft hf ht]; show gB (s.k.set _ _) _ = _; rw [gB_set (by omega), if_pos rfl]
  · rw [hf, ht] at h; exact absurd rfl h

/-- no link has just one known end -/
def Closed (ls : List Link) (s : St) : Prop := ∀ l ∈ ls, gB s.k l.t.toNat = gB s.k l.f.toNat
theorem sp_closed {ls : List Link} : ∀ {s : St}, Closed ls s → sp ls s = s := by
  induction ls with
  | nil => intro s _; rfl
  | cons l ls ih =>
    intro s h
    show sp ls (sp1 s l) = s
    rw [sp1_no (h l (by simp))]
    exact ih fun x hx => h x (by simp [hx])
theorem sp_grows {n : Nat} {ls : List Link} (hl : ∀ l ∈ ls, In n l) : ∀ {s : St}, Sz n s → ¬ Closed ls s → kn n s < kn n (sp ls s) := by
  induction ls with
  | nil => intro s _ h; exact absurd (fun l hl => by cases hl) h
  | cons l ls ih =>
    intro s hs h
    have hx := ext_kn (n := n) (sp_ext (ls := ls) (fun x hx => hl x (by simp [hx])) (sp1_sz hs l))
    show kn n s < kn n (sp ls (sp1 s l))
    by_cases c : gB s.k l.t.toNat = gB s.k l.f.toNat
    · rw [sp1_no c]
      exact ih (fun x hx => hl x (by simp [hx])) hs fun hc => h fun x hx => by
        rcases List.mem_cons.1 hx with rfl | hx
        · exact c
        · exact hc x hx
    · have := sp1_kn hs (hl l (by simp)) c
      omega
theorem sps_closed {n : Nat} {ls : List Link} (hl : ∀ l ∈ ls, In n l) {s : St} (hs : Sz n s) {r : Nat} (hr : n ≤ kn n s + r) : Closed ls (sps ls r s) := by
  suffices h : ∀ r, Closed ls (sps ls r s) ∨ kn n s + r ≤ kn n (sps ls r s) by
    by_cases hc : Closed ls (sps ls r s)
    · exact hc
    · rcases h r with h1 | h1
      · exact h1
      · have h2 := sp_grows hl (sps_sz ls hs r) hc
        have := kn_le n (sp ls (sps ls r s))
        omega
  intro r
  induction r with
  | zero => exact .inr (Nat.le_refl _)
  | succ r ih =>
    by_cases hc : Closed ls (sps ls r s)
    · left; show Closed ls (sp ls (sps ls r s)); rw [sp_closed hc]; exact hc
    · right
      have h2 := sp_grows hl (sps_sz ls hs r) hc
      rcases ih with h1 | h1
      · exact absurd h1 hc
      · show _ ≤ kn n (sp ls (sps ls r s)); omega
theorem sps_still {ls : List Link} {s : St} (h : Closed ls s) (r : Nat) : sps ls r s = s := by
  induction r with
  | zero => rfl
  | succ r ih => show sp ls (sps ls r s) = s; rw [ih, sp_closed h]

/-! what spreading keeps -/
/-- what is not known is nought; energies are small; what is known is bound to what a set of levels allows -/
structure Good (n : Nat) (s : St) : Prop where
  zero : ∀ i, i < n → gB s.k i = false → gI s.e i = 0
  small : ∀ i, i < n → -200000 * (kn n s : Int) ≤ gI s.e i ∧ gI s.e i ≤ 200000 * kn n s
theorem sp1_good {n : Nat} {s : St} {l : Link} (hs : Sz n s) (hl : In n l) (hd : -200000 ≤ l.d ∧ l.d ≤ 200000) (h : Good n s) : Good n (sp1 s l) := by
  obtain ⟨h1, h2⟩ := h
  by_cases c : gB s.k l.t.toNat = gB s.k l.f.toNat
  · rw [sp1_no c]; exact ⟨h1, h2⟩
  · have hk := sp1_kn hs hl c
    obtain ⟨s1, s2⟩ := hs
    obtain ⟨l1, l2⟩ := hl
    have b1 := h2 _ l1
    have b2 := h2 _ l2
    rcases hf : gB s.k l.f.toNat with _ | _ <;> rcases ht : gB s.k l.t.toNat with _ | _
    · rw [hf, ht] at c; exact absurd rfl c
    · rw [sp1_tf ht hf] at hk ⊢
      refine ⟨fun i hi h => ?_, fun i hi => ?_⟩
      · change gB (s.k.set _ _) _ = _ at h
        rw [gB_set (by omega)] at h
        show gI (s.e.set _ _) _ = _
        rw [gI_set (by omega)]
        split at h
        · cases h
        · rename_i e; rw [if_neg e]; exact h1 i hi h
      · have := h2 i hi
        show _ ≤ gI (s.e.set _ _) _ ∧ gI (s.e.set _ _) _ ≤ _
        rw [gI_set (by omega)]
        split <;> omega
    · rw [sp1_ft hf ht] at hk ⊢
      refine ⟨fun i hi h => ?_, fun i hi => ?_⟩
      · change gB (s.k.set _ _) _ = _ at h
        rw [gB_set (by omega)] at h
        show gI (s.e.set _ _) _ = _
        rw [gI_set (by omega)]
        split at h
        · cases h
        · rename_i e; rw [if_neg e]; exact h1 i hi h
      · have := h2 i hi
        show _ ≤ gI (s.e.set _ _) _ ∧ gI (s.e.set _ _) _ ≤ _
        rw [gI_set (by omega)]
        split <;> omega
    · rw [hf, ht] at c; exact absurd rfl c
/-- a property of a known level's energy that links hand on -/
def Keeps (R : Nat → Int → Prop) (l : Link) : Prop := (∀ v, R l.f.toNat v → R l.t.toNat (v + l.d)) ∧ (∀ v, R l.t.toNat v → R l.f.toNat (v - l.d))
def All (n : Nat) (R : Nat → Int → Prop) (s : St) : Prop := ∀ i, i < n → gB s.k i = true → R i (gI s.e i)
theorem sp1_all {n : Nat} {s : St} {l : Link} {R : Nat → Int → Prop} (hs : Sz n s) (hl : In n l) (hR : Keeps R l) (h : All n R s) : All n R (sp1 s l) := by
  by_cases c : gB s.k l.t.toNat = gB s.k l.f.toNat
  · rw [sp1_no c]; exact h
  · obtain ⟨s1, s2⟩ := hs
    obtain ⟨l1, l2⟩ := hl
    rcases hf : gB s.k l.f.toNat with _ | _ <;> rcases ht : gB s.k l.t.toNat with _ | _
    · rw [hf, ht] at c; exact absurd rfl c
    · rw [sp1_tf ht hf]
      intro i hi hk
      change gB (s.k.set _ _) _ = _ at hk
      rw [gB_set (by omega)] at hk
      show R i (gI (s.e.set _ _) _)
      rw [gI_set (by omega)]
      split
      · rename_i e; rw [e]; exact hR.2 _ (h _ l2 ht)
      · rename_i e; rw [if_neg e] at hk; exact h i hi hk
    · rw [sp1_ft hf ht]
      intro i hi hk
      change gB (s.k.set _ _) _ = _ at hk
      rw [gB_set (by omega)] at hk
      show R i (gI (s.e.set _ _) _)
      rw [gI_set (by omega)]
      split
      · rename_i e; rw [e]; exact hR.1 _ (h _ l1 hf)
      · rename_i e; rw [if_neg e] at hk; exact h i hi hk
    · rw [hf, ht] at c; exact absurd rfl c
theorem sp_good {n : Nat} {ls : List Link} (hl : ∀ l ∈ ls, In n l) (hd : ∀ l ∈ ls, -200000 ≤ l.d ∧ l.d ≤ 200000) : ∀ {s : St}, Sz n s → Good n s → Good n (sp ls s) := by
  induction ls with
  | nil => intro s _ h; exact h
  | cons l ls ih => intro s hs h; exact ih (fun x hx => hl x (by simp [hx])) (fun x hx => hd x (by simp [hx])) (sp1_sz hs l) (sp1_good hs (hl l (by simp)) (hd l (by simp)) h)
theorem sp_all {n : Nat} {ls : List Link} {R : Nat → Int → Prop} (hl : ∀ l ∈ ls, In n l) (hR : ∀ l ∈ ls, Keeps R l) : ∀ {s : St}, Sz n s → All n R s → All n R (sp ls s) := by
  induction ls with
  | nil => intro s _ h; exact h
  | cons l ls ih => intro s hs h; exact ih (fun x hx => hl x (by simp [hx])) (fun x hx => hR x (by simp [hx])) (sp1_sz hs l) (sp1_all hs (hl l (by simp)) (hR l (by simp)) h)
theorem sps_good {n : Nat} {ls : List Link} (hl : ∀ l ∈ ls, In n l) (hd : ∀ l ∈ ls, -200000 ≤ l.d ∧ l.d ≤ 200000) {s : St} (hs : Sz n s) (h : Good n s) (r : Nat) : Good n (sps ls r s) := by
  induction r with
  | zero => exact h
  | succ r ih => exact sp_good hl hd (sps_sz ls hs r) ih
theorem sps_all {n : Nat} {ls : List Link} {R : Nat → Int → Prop} (hl : ∀ l ∈ ls, In n l) (hR : ∀ l ∈ ls, Keeps R l) {s : St} (hs : Sz n s) (h : All n R s) (r : Nat) : All n R (sps ls r s) := by
  induction r with
  | zero => exact h
  | succ r ih => exact sp_all hl hR (sps_sz ls hs r) ih

/-- e fits all links, and is nought at each group's least level -/
structure FitE (n : Nat) (ls : List Link) (e : List Int) : Prop where
  len : e.length = n
  fit : Fit 0 ls (gI e)
  root : ∀ i, i < n → gI e (joinF ls i) = 0
theorem fit0 {ls : List Link} {p : Nat → Int} (h : Fit 0 ls p) {l : Link} (hl : l ∈ ls) : p l.t.toNat - p l.f.toNat = l.d := by
  have := h l hl
  unfold Fit1 at this; omega
theorem fit0_mk {ls : List Link} {p : Nat → Int} (h : ∀ l ∈ ls, p l.t.toNat - p l.f.toNat = l.d) : Fit 0 ls p := fun l hl => by
  have := h l hl
  unfold Fit1; omega
/-- the energies above the least levels -/
def above (ls : List Link) (p : Nat → Int) (i : Nat) : Int := p i - p (joinF ls i)
theorem above_fit {ls : List Link} {p : Nat → Int} (h : Fit 0 ls p) : Fit 0 ls (above ls p) := fit0_mk fun l hl => by
  have := fit0 h hl
  have e := (joinF_is ls).same l hl
  unfold above; rw [e]; omega
theorem above_root (ls : List Link) (p : Nat → Int) {i : Nat} (h : joinF ls i = i) : above ls p i = 0 := by unfold above; rw [h]; omega
theorem fit_only {n : Nat} {ls : List Link} {e : List Int} (h : FitE n ls e) {p : Nat → Int} (hp : Fit 0 ls p) {i : Nat} (hi : i < n) : gI e i = above ls p i := by
  have a := above_fit hp
  have := (joinF_is ls).conn (fun i => gI e i - above ls p i) (fun l hl => by
    have := fit0 h.fit hl
    have := fit0 a hl
    omega) i
  have r := h.root i hi
  have q := above_root ls p ((joinF_is ls).idem i)
  omega
theorem fitE_unique {n : Nat} {ls : List Link} {e e' : List Int} (h : FitE n ls e) (h' : FitE n ls e') : e = e' :=
  gI_ext (by rw [h.len, h'.len]) fun i hi => by rw [h.len] at hi; rw [fit_only h h'.fit hi, fit_only h' h'.fit hi]
/-- the canonical energies, as a list -/
def aboveL (n : Nat) (ls : List Link) (p : Nat → Int) : List Int := (List.range n).map (above ls p)
theorem aboveL_at {n : Nat} {ls : List Link} {p : Nat → Int} {i : Nat} (h : i < n) : gI (aboveL n ls p) i = above ls p i := by simp [gI, aboveL, h]
theorem aboveL_is {n : Nat} {ls : List Link} {p : Nat → Int} (hl : ∀ l ∈ ls, In n l) (h : Fit 0 ls p) : FitE n ls (aboveL n ls p) := by
  refine ⟨by simp [aboveL], fit0_mk fun l hl' => ?_, fun i hi => ?_⟩
  · obtain ⟨a, b⟩ := hl l hl'
    rw [aboveL_at a, aboveL_at b]; exact fit0 (above_fit h) hl'
  · have := (joinF_is ls).le i
    rw [aboveL_at (by omega)]; exact above_root ls p ((joinF_is ls).idem i)

/-- spreading with every level known at last: the energies are those that fit, if any do -/
theorem spread_fits {n : Nat} {ls : List Link} {s : St} (hs : Sz n s) (hall : ∀ i, i < n → gB s.k i = true) (hroot : ∀ i, i < n → joinF ls i = i → gI s.e i = 0)
    (hkeep : ∀ p, Fit 0 ls p → All n (fun i v => v = above ls p i) s) (hl : ∀ l ∈ ls, In n l) : (Fit 0 ls (gI s.e) → FitE n ls s.e) ∧ (∀ p, Fit 0 ls p → Fit 0 ls (gI s.e)) := by
  constructor
  · intro h
    refine ⟨hs.1, h, fun i hi => ?_⟩
    have := (joinF_is ls).le i
    exact hroot _ (by omega) ((joinF_is ls).idem i)
  · intro p hp
    have := hkeep p hp
    refine fit0_mk fun l hl' => ?_
    obtain ⟨a, b⟩ := hl l hl'
    rw [this _ a (hall _ a), this _ b (hall _ b)]
    exact fit0 (above_fit hp) hl'
theorem keeps_above {ls : List Link} {p : Nat → Int} (h : Fit 0 ls p) : ∀ l ∈ ls, Keeps (fun i v => v = above ls p i) l := fun l hl => by
  have := fit0 (above_fit h) hl
  exact ⟨fun v hv => by omega, fun v hv => by omega⟩
theorem keeps_join {ls : List Link} (m : Nat) : ∀ l ∈ ls, Keeps (fun i _ => joinF ls i < m) l := fun l hl => by
  have := (joinF_is ls).same l hl
  exact ⟨fun v hv => by omega, fun v hv => by omega⟩
theorem closed_join {ls : List Link} {s : St} (h : Closed ls s) (i : Nat) : gB s.k (joinF ls i) = gB s.k i := by
  have := (joinF_is ls).conn (fun i => if gB s.k i = true then 1 else 0) (fun l hl => by rw [h l hl]) i
  rcases h1 : gB s.k (joinF ls i) with _ | _ <;> rcases h2 : gB s.k i with _ | _ <;> simp [h1, h2] at this <;> rfl

/-- the reference's state before level m: just the groups with a lower level are known -/
structure Ref (n : Nat) (ls : List Link) (m : Nat) (s : St) : Prop where
  sz : Sz n s
  good : Good n s
  known : ∀ i, i < n → (gB s.k i = true ↔ joinF ls i < m)
  root : ∀ i, i < n → joinF ls i = i → gI s.e i = 0
  keep : ∀ p, Fit 0 ls p → All n (fun i v => v = above ls p i) s
theorem ref_closed {n m : Nat} {ls : List Link} {s : St} (hl : ∀ l ∈ ls, In n l) (h : Ref n ls m s) : Closed ls s := fun l hl' => by
  obtain ⟨a, b⟩ := hl l hl'
  have e := (joinF_is ls).same l hl'
  have k1 := h.known _ a
  have k2 := h.known _ b
  rw [← e, ← k1] at k2
  rcases h1 : gB s.k l.t.toNat with _ | _ <;> rcases h2 : gB s.k l.f.toNat with _ | _ <;> simp [h1, h2] at k2 <;> rfl
def see (s : St) (m : Nat) : St := ⟨s.e, s.k.set m true⟩
theorem ref_step {n m : Nat} {ls : List Link} {s : St} (hl : ∀ l ∈ ls, In n l) (hd : ∀ l ∈ ls, -200000 ≤ l.d ∧ l.d ≤ 200000) (hm : m < n) (h : Ref n ls m s) : Ref n ls (m + 1) (sps ls n (see s m)) := by
  have hle := (joinF_is ls).le m
  have hid := (joinF_is ls).idem m
  by_cases c : joinF ls m < m
  · have hk := (h.known m hm).2 c
    have e : see s m = s := by
      unfold see
      have : s.k.set m true = s.k := gB_ext (by simp) fun i _ => by
        rw [gB_set (by rw [h.sz.2]; exact hm)]; split
        · rename_i e; rw [e, hk]
        · rfl
      rw [this]
    rw [e, sps_still (ref_closed hl h)]
    refine ⟨h.sz, h.good, fun i hi => ?_, h.root, h.keep⟩
    rw [h.known i hi]
    constructor
    · intro a; omega
    · intro a
      by_cases e : joinF ls i = m
      · have := (joinF_is ls).idem i
        rw [e] at this; omega
      · omega
  · have hjm : joinF ls m = m := by omega
    have hk : gB s.k m = false := by
      rcases hh : gB s.k m with _ | _
      · rfl
      · exact absurd ((h.known m hm).1 hh) c
    have hsz : Sz n (see s m) := ⟨h.sz.1, by show (s.k.set m true).length = n; simp [h.sz.2]⟩
    have hset : ∀ i, gB (see s m).k i = if i = m then true else gB s.k i := fun i => gB_set (by rw [h.sz.2]; exact hm)
    have hkn : kn n s < kn n (see s m) := cnt_lt (k := m) (fun i _ hi => by rw [hset]; split <;> first | rfl | exact hi) hm hk (by rw [hset, if_pos rfl])
    have hgood : Good n (see s m) := ⟨fun i hi hh => by
      rw [hset] at hh
      split at hh
      · cases hh
      · exact h.good.zero i hi hh, fun i hi => by have := h.good.small i hi; show _ ≤ gI s.e i ∧ gI s.e i ≤ _; omega⟩
    have hclosed : Closed ls (sps ls n (see s m)) := sps_closed hl hsz (by omega)
    have hext := sps_ext hl hsz n
    have hj : All n (fun i _ => joinF ls i < m + 1) (see s m) := fun i hi hh => by
      rw [hset] at hh
      split at hh
      · rename_i e; rw [e]; omega
      · have := (h.known i hi).1 hh; omega
    have hj' := sps_all hl (keeps_join (m + 1)) hsz hj n
    have hz := sps_sz ls hsz n
    refine ⟨hz, sps_good hl hd hsz hgood n, fun i hi => ⟨fun hh => hj' i hi hh, fun hh => ?_⟩, fun i hi hji => ?_, fun p hp => ?_⟩
    · rw [← closed_join hclosed i]
      by_cases e : joinF ls i = m
      · rw [e]; exact (hext m (by rw [hset, if_pos rfl])).1
      · have hi2 := (joinF_is ls).le i
        have := (h.known (joinF ls i) (by omega)).2 (by rw [(joinF_is ls).idem]; omega)
        exact (hext _ (by rw [hset, if_neg e]; exact this)).1
    · by_cases e : i = m
      · have := (hext m (by rw [hset, if_pos rfl])).2
        rw [e, this]; exact h.good.zero m hm hk
      · rcases hh : gB (sps ls n (see s m)).k i with _ | _
        · exact (sps_good hl hd hsz hgood n).zero i hi hh
        · have a := hj' i hi hh
          dsimp only at a
          have b := (h.known i hi).2 (by omega)
          have := (hext i (by rw [hset, if_neg e]; exact b)).2
          rw [this]; exact h.root i hi hji
    · refine sps_all hl (keeps_above hp) hsz (fun i hi hh => ?_) n
      rw [hset] at hh
      show gI s.e i = _
      split at hh
      · rename_i e; rw [e, h.good.zero m hm hk, above_root ls p hjm]
      · exact h.keep p hp i hi hh
def st0 (n : Nat) : St := ⟨List.replicate n 0, List.replicate n false⟩
theorem gI_rep (n i : Nat) : gI (List.replicate n 0) i = 0 := by
  by_cases h : i < n
  · simp [gI, h]
  · simp [gI, h]
theorem gB_rep (n i : Nat) : gB (List.replicate n false) i = false := by
  by_cases h : i < n
  · simp [gB, h]
  · simp [gB, h]
theorem ref_start (n : Nat) (ls : List Link) : Ref n ls 0 (st0 n) := by
  refine ⟨⟨by simp [st0], by simp [st0]⟩, ⟨fun i _ _ => gI_rep n i, fun i _ => ?_⟩, fun i _ => ?_, fun i _ _ => gI_rep n i, fun p _ i _ h => ?_⟩
  · show _ ≤ gI (List.replicate n 0) i ∧ gI (List.replicate n 0) i ≤ _
    rw [gI_rep]; omega
  · show gB (List.replicate n false) i = true ↔ _
    rw [gB_rep]; simp
  · change gB (List.replicate n false) i = true at h
    rw [gB_rep] at h; cases h
theorem ref_end {n : Nat} {ls : List Link} {s : St} (hl : ∀ l ∈ ls, In n l) (h : Ref n ls n s) : (Fit 0 ls (gI s.e) → FitE n ls s.e) ∧ (∀ p, Fit 0 ls p → Fit 0 ls (gI s.e)) :=
  spread_fits h.sz (fun i hi => (h.known i hi).2 (by have := (joinF_is ls).le i; omega)) h.root h.keep hl

/-- the program's state: the roots are known from the first -/
structure Run (n : Nat) (ls : List Link) (s : St) : Prop where
  sz : Sz n s
  good : Good n s
  known : ∀ i, i < n → joinF ls i = i → gB s.k i = true ∧ gI s.e i = 0
  keep : ∀ p, Fit 0 ls p → All n (fun i v => v = above ls p i) s
theorem run_step {n : Nat} {ls : List Link} {s : St} {l : Link} (hl : l ∈ ls) (hi : In n l) (hd : -200000 ≤ l.d ∧ l.d ≤ 200000) (h : Run n ls s) : Run n ls (sp1 s l) := by
  have hx := sp1_ext h.sz hi
  refine ⟨sp1_sz h.sz l, sp1_good h.sz hi hd h.good, fun i hi' hj => ?_, fun p hp => sp1_all h.sz hi (keeps_above hp l hl) (h.keep p hp)⟩
  obtain ⟨a, b⟩ := h.known i hi' hj
  obtain ⟨c, d⟩ := hx i a
  exact ⟨c, by rw [d, b]⟩
/-- which levels are roots -/
def rootsB (ls : List Link) (n : Nat) : List Bool := (List.range n).map fun i => decide (joinF ls i = i)
theorem rootsB_at {ls : List Link} {n i : Nat} (h : i < n) : gB (rootsB ls n) i = decide (joinF ls i = i) := by simp [gB, rootsB, h]
theorem run_start (n : Nat) (ls : List Link) : Run n ls ⟨List.replicate n 0, rootsB ls n⟩ := by
  refine ⟨⟨by simp, by simp [rootsB]⟩, ⟨fun i _ _ => gI_rep n i, fun i _ => ?_⟩, fun i hi h => ⟨by show gB (rootsB ls n) i = true; rw [rootsB_at hi]; simpa using h, gI_rep n i⟩, fun p _ i hi h => ?_⟩
  · show _ ≤ gI (List.replicate n 0) i ∧ gI (List.replicate n 0) i ≤ _
    rw [gI_rep]; omega
  · change gB (rootsB ls n) i = true at h
    rw [rootsB_at hi] at h
    show gI (List.replicate n 0) i = _
    rw [gI_rep, above_root ls p (by simpa using h)]
theorem run_end {n : Nat} {ls : List Link} {s : St} (hl : ∀ l ∈ ls, In n l) (h : Run n ls s) (hc : Closed ls s) : (Fit 0 ls (gI s.e) → FitE n ls s.e) ∧ (∀ p, Fit 0 ls p → Fit 0 ls (gI s.e)) :=
  spread_fits h.sz (fun i hi => by
    have := (joinF_is ls).le i
    rw [← closed_join hc i]; exact (h.known _ (by omega) ((joinF_is ls).idem i)).1) (fun i hi hj => (h.known i hi hj).2) h.keep hl

end Go.Proofs.Ytnlnelfncejcfaa.Lk
