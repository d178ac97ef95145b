/- The plain mathematics of the laws on links: gaps, near links, least tolerances, turned and mixed links. -/
import Derived.Test.YtnlnelfncejcfaaLkFitP
namespace Go.Proofs.Ytnlnelfncejcfaa.Lk

/-- are there energies at most a tolerance from all links -/
def Near (ls : List Link) (t : Int) : Prop := ∃ p, Fit t ls p
theorem near_mono {ls : List Link} {t u : Int} (h : Near ls t) (htu : t ≤ u) : Near ls u := by
  obtain ⟨p, hp⟩ := h
  exact ⟨p, fun l hl => by have := hp l hl; unfold Fit1 at *; omega⟩
theorem near_less {ls xs : List Link} {t : Int} (h : Near ls t) (hx : ∀ l ∈ xs, l ∈ ls) : Near xs t := by
  obtain ⟨p, hp⟩ := h
  exact ⟨p, fun l hl => hp l (hx l hl)⟩
theorem in_of_ok {many : Int} {n : Nat} {ls : List Link} (h : lsOk many ls = true) (hn : many = n) : ∀ l ∈ ls, In n l := fun l hl => by
  have := lsOk_mem h hl
  unfold lOk at this
  exact ⟨by omega, by omega⟩
theorem near_all {many : Int} {ls : List Link} (h : lsOk many ls = true) : Near ls 200000 :=
  ⟨fun _ => 0, fun l hl => by have := lsOk_mem h hl; unfold lOk at this; unfold Fit1; dsimp only; omega⟩

/-- does a round come to rest -/
def nearB (n : Nat) (ls : List Link) (t : Int) : Bool := decide (rel t ls (rounds t ls n (List.replicate n 0)) = rounds t ls n (List.replicate n 0))
theorem rest_near {n : Nat} {ls : List Link} {t : Int} (hl : ∀ l ∈ ls, In n l) {r : Nat} (h : rel t ls (rounds t ls r (List.replicate n 0)) = rounds t ls r (List.replicate n 0)) : Near ls t :=
  ⟨_, fit_of_rest (fun l hl' => by rw [rounds_len, List.length_replicate]; exact hl l hl') h⟩
theorem near_rest {n : Nat} {ls : List Link} {t : Int} (hl : ∀ l ∈ ls, In n l) (h : Near ls t) {r : Nat} (hr : n ≤ r + 1) : rel t ls (rounds t ls r (List.replicate n 0)) = rounds t ls r (List.replicate n 0) := by
  obtain ⟨p, hp⟩ := h
  exact rests_soon (fun l hl' => by rw [List.length_replicate]; exact hl l hl') hp (by rw [List.length_replicate]; exact hr)
theorem nearB_iff {n : Nat} {ls : List Link} {t : Int} (hl : ∀ l ∈ ls, In n l) : nearB n ls t = true ↔ Near ls t := by
  unfold nearB
  rw [decide_eq_true_eq]
  exact ⟨rest_near hl, fun h => near_rest hl h (by omega)⟩
theorem nearB_rest {n : Nat} {ls : List Link} {t : Int} (hl : ∀ l ∈ ls, In n l) {r : Nat} (h : rel t ls (rounds t ls r (List.replicate n 0)) = rounds t ls r (List.replicate n 0)) : nearB n ls t = true := (nearB_iff hl).2 (rest_near hl h)
theorem nearB_no {n : Nat} {ls : List Link} {t : Int} (hl : ∀ l ∈ ls, In n l) {r : Nat} (hr : n ≤ r + 1) (h : rel t ls (rounds t ls r (List.replicate n 0)) ≠ rounds t ls r (List.replicate n 0)) : nearB n ls t = false := by
  rcases hb : nearB n ls t with _ | _
  · rfl
  · exact absurd (near_rest hl ((nearB_iff hl).1 hb) hr) h

/-- v is the least tolerance -/
structure IsLeast (ls : List Link) (v : Int) : Prop where
  pos : 0 ≤ v
  le : v ≤ 200000
  near : Near ls v
  least : ∀ t, 0 ≤ t → t < v → ¬ Near ls t
theorem least_unique {ls : List Link} {u v : Int} (h : IsLeast ls u) (k : IsLeast ls v) : u = v := by
  rcases Int.lt_trichotomy u v with c | c | c
  · exact absurd h.near (k.least u h.pos c)
  · exact c
  · exact absurd k.near (h.least v k.pos c)
theorem least_le {ls : List Link} {v t : Int} (h : IsLeast ls v) (ht : 0 ≤ t) (hn : Near ls t) : v ≤ t := by
  rcases Int.lt_or_le t v with c | c
  · exact absurd hn (h.least t ht c)
  · exact c
theorem least_ex {many : Int} {ls : List Link} (h : lsOk many ls = true) : ∃ v, IsLeast ls v := by
  have key : ∀ k : Nat, k ≤ 200000 → Near ls k → ∃ v, IsLeast ls v := by
    intro k
    induction k with
    | zero => exact fun _ hn => ⟨0, by omega, by omega, hn, fun t h1 h2 => by omega⟩
    | succ k ih =>
      intro hk hn
      by_cases c : Near ls (k : Int)
      · exact ih (by omega) c
      · exact ⟨(k + 1 : Nat), by omega, by omega, hn, fun t h1 h2 ht => c (near_mono ht (by omega))⟩
  exact key 200000 (Nat.le_refl _) (near_all h)
/-- the same links for tolerances -/
theorem least_same {ls xs : List Link} {v : Int} (h : IsLeast ls v) (hs : ∀ t, Near xs t ↔ Near ls t) : IsLeast xs v :=
  ⟨h.pos, h.le, (hs v).2 h.near, fun t h1 h2 hn => h.least t h1 h2 ((hs t).1 hn)⟩

/-- what a search hands back -/
theorem count_mono {p : Nat → Bool} (n : Nat) (h : ∀ a b, a ≤ b → p a = true → p b = true) : (∀ i, i < (List.range n).countP (fun i => !p i) → p i = false) ∧ (∀ i, (List.range n).countP (fun i => !p i) ≤ i → i < n → p i = true) ∧ (List.range n).countP (fun i => !p i) ≤ n := by
  induction n with
  | zero => exact ⟨fun i hi => by simp at hi, fun i _ hi => by omega, by simp⟩
  | succ n ih =>
    obtain ⟨h1, h2, h3⟩ := ih
    rw [List.range_succ, List.countP_append]
    rcases hp : p n with _ | _
    · have e : List.countP (fun i => !p i) [n] = 1 := by simp [hp]
      rw [e]
      have hc : (List.range n).countP (fun i => !p i) = n := by
        rcases Nat.lt_or_ge ((List.range n).countP (fun i => !p i)) n with c | c
        · have := h (n - 1) n (by omega) (h2 (n - 1) (by omega) (by omega))
          rw [hp] at this; cases this
        · omega
      rw [hc] at h1 ⊢
      refine ⟨fun i hi => ?_, fun i hi hi2 => by omega, Nat.le_refl _⟩
      by_cases e : i = n
      · rw [e]; exact hp
      · exact h1 i (by omega)
    · have e : List.countP (fun i => !p i) [n] = 0 := by simp [hp]
      rw [e]
      refine ⟨fun i hi => h1 i hi, fun i hi hi2 => ?_, by omega⟩
      by_cases e : i = n
      · rw [e]; exact hp
      · exact h2 i hi (by omega)
theorem least_count {many : Int} {n : Nat} {ls : List Link} (h : lsOk many ls = true) (hn : many = n) : IsLeast ls ((List.range 200000).countP (fun i => !nearB n ls (i : Nat)) : Nat) := by
  have hl := in_of_ok h hn
  obtain ⟨h1, h2, h3⟩ := count_mono (p := fun i => nearB n ls (i : Nat)) 200000 (fun a b hab ha => by
    rw [nearB_iff hl] at *
    exact near_mono ha (by omega))
  generalize (List.range 200000).countP (fun i => !nearB n ls (i : Nat)) = c at *
  refine ⟨by omega, by omega, ?_, fun t ht1 ht2 hn => ?_⟩
  · by_cases e : c = 200000
    · rw [e]; exact near_all h
    · exact (nearB_iff hl).1 (h2 c (Nat.le_refl _) (by omega))
  · obtain ⟨k, rfl⟩ := Int.eq_ofNat_of_zero_le ht1
    have := h1 k (by omega)
    rw [(nearB_iff hl).2 hn] at this; cases this

/-- how far an energy is from a link -/
def offL (e : List Int) (l : Link) : Int := gI e l.t.toNat - gI e l.f.toNat - l.d
/-- the greatest distance from the first k links -/
def gp (ls : List Link) (e : List Int) : Nat → Int
  | 0 => 0
  | k + 1 => max (gp ls e k) ((offL e (gL ls k)).natAbs : Int)
def gapF (ls : List Link) (e : List Int) : Int := gp ls e ls.length
theorem gp_nonneg (ls : List Link) (e : List Int) (k : Nat) : 0 ≤ gp ls e k := by
  induction k with
  | zero => exact Int.le_refl _
  | succ k ih => unfold gp; omega
theorem gp_ge {ls : List Link} {e : List Int} {k i : Nat} (h : i < k) : ((offL e (gL ls i)).natAbs : Int) ≤ gp ls e k := by
  induction k with
  | zero => omega
  | succ k ih =>
    unfold gp
    by_cases c : i = k
    · rw [c]; omega
    · have := ih (by omega); omega
theorem gp_met {ls : List Link} {e : List Int} {k : Nat} (h : 0 < k) : ∃ i, i < k ∧ ((offL e (gL ls i)).natAbs : Int) = gp ls e k := by
  induction k with
  | zero => omega
  | succ k ih =>
    unfold gp
    by_cases c : gp ls e k ≤ ((offL e (gL ls k)).natAbs : Int)
    · exact ⟨k, by omega, by omega⟩
    · by_cases hk : 0 < k
      · obtain ⟨i, h1, h2⟩ := ih hk
        exact ⟨i, by omega, by omega⟩
      · have : k = 0 := by omega
        subst this
        unfold gp at c; omega
theorem gap_fit {ls : List Link} {e : List Int} {t : Int} (h : gapF ls e ≤ t) : Fit t ls (gI e) := fun l hl => by
  obtain ⟨i, hi, rfl⟩ := mem_gL hl
  have := gp_ge (ls := ls) (e := e) hi
  unfold gapF at h
  unfold offL at this
  unfold Fit1; omega
theorem fit_gap {ls : List Link} {e : List Int} (h : Fit 0 ls (gI e)) : gapF ls e = 0 := by
  have a := gp_nonneg ls e ls.length
  unfold gapF
  by_cases c : 0 < ls.length
  · obtain ⟨i, h1, h2⟩ := gp_met (ls := ls) (e := e) c
    have := fit0 h (gL_mem h1)
    rw [← h2]; unfold offL; omega
  · rw [show ls.length = 0 by omega]; rfl
/-- are energies in their range -/
def eOk (e : List Int) : Prop := ∀ i, i < e.length → -10000000 ≤ gI e i ∧ gI e i ≤ 10000000
instance (e : List Int) : Decidable (eOk e) := by unfold eOk; exact inferInstance
def linksGap (many : Int) (ls : List Link) (e : List Int) : Int := if lsOk many ls = true ∧ (e.length : Int) = many ∧ eOk e then gapF ls e else -1
theorem linksGap_parts {many : Int} {ls : List Link} {e : List Int} (h : 0 ≤ linksGap many ls e) : lsOk many ls = true ∧ (e.length : Int) = many ∧ eOk e ∧ linksGap many ls e = gapF ls e := by
  unfold linksGap at *
  split at h
  · rename_i c; exact ⟨c.1, c.2.1, c.2.2, by rw [if_pos c]⟩
  · omega

/-! links turned, mixed, left out, added -/
def turn (l : Link) : Link := ⟨l.t, l.f, 0 - l.d⟩
theorem fit_turn {ls : List Link} {t : Int} {p : Nat → Int} (h : Fit t ls p) : Fit t (ls.map turn) p := fun l hl => by
  obtain ⟨x, hx, rfl⟩ := List.mem_map.1 hl
  obtain ⟨a, b⟩ := h x hx
  exact ⟨by show p x.f.toNat ≤ p x.t.toNat + (0 - x.d) + t; omega, by show p x.t.toNat ≤ p x.f.toNat - (0 - x.d) + t; omega⟩
theorem turn_turn (ls : List Link) : (ls.map turn).map turn = ls := by
  rw [List.map_map]
  have : turn ∘ turn = id := by
    funext l
    show (⟨l.f, l.t, 0 - (0 - l.d)⟩ : Link) = l
    rw [show 0 - (0 - l.d) = l.d by omega]
  rw [this, List.map_id]
theorem near_turn (ls : List Link) (t : Int) : Near (ls.map turn) t ↔ Near ls t := by
  constructor
  · rintro ⟨p, hp⟩
    have := fit_turn hp
    rw [turn_turn] at this; exact ⟨p, this⟩
  · rintro ⟨p, hp⟩; exact ⟨p, fit_turn hp⟩
theorem joinF_turn (ls : List Link) (i : Nat) : joinF (ls.map turn) i = joinF ls i := by
  have h := joinF_is ls
  refine isJ_unique (joinF_is _) ⟨fun l hl => ?_, h.le, fun g hg => h.conn g fun l hl => ?_⟩ i
  · obtain ⟨x, hx, rfl⟩ := List.mem_map.1 hl
    exact (h.same x hx).symm
  · exact (hg (turn l) (List.mem_map.2 ⟨l, hl, rfl⟩)).symm
theorem fitE_turn {n : Nat} {ls : List Link} {e : List Int} (h : FitE n ls e) : FitE n (ls.map turn) e :=
  ⟨h.len, fit_turn h.fit, fun i hi => by rw [joinF_turn]; exact h.root i hi⟩
theorem lsOk_turn {many : Int} {ls : List Link} (h : lsOk many ls = true) : lsOk many (ls.map turn) = true := by
  have := lsOk_bd h
  refine lsOk_of this.1 this.2.1 (by simp; omega) fun l hl => ?_
  obtain ⟨x, hx, rfl⟩ := List.mem_map.1 hl
  have := lsOk_mem h hx
  unfold lOk turn at *
  dsimp only
  omega
theorem joinF_mix {ls xs : List Link} (h : ∀ l, l ∈ xs ↔ l ∈ ls) (i : Nat) : joinF xs i = joinF ls i := by
  have k := joinF_is ls
  exact isJ_unique (joinF_is _) ⟨fun l hl => k.same l ((h l).1 hl), k.le, fun g hg => k.conn g fun l hl => hg l ((h l).2 hl)⟩ i
theorem fitE_mix {n : Nat} {ls xs : List Link} {e : List Int} (h : FitE n ls e) (hm : ∀ l, l ∈ xs ↔ l ∈ ls) : FitE n xs e :=
  ⟨h.len, fun l hl => h.fit l ((hm l).1 hl), fun i hi => by rw [joinF_mix hm]; exact h.root i hi⟩
theorem rot_mem (ls : List Link) (k : Nat) (l : Link) : l ∈ ls.drop k ++ ls.take k ↔ l ∈ ls := by
  have := List.take_append_drop k ls
  constructor
  · intro h
    rw [← this, List.mem_append]
    rcases List.mem_append.1 h with h | h
    · exact .inr h
    · exact .inl h
  · intro h
    rw [← this, List.mem_append] at h
    rw [List.mem_append]
    exact h.symm
theorem lsOk_sub {many : Int} {ls xs : List Link} (h : lsOk many ls = true) (hl : xs.length ≤ 30) (hm : ∀ l ∈ xs, l ∈ ls) : lsOk many xs = true := by
  have := lsOk_bd h
  exact lsOk_of this.1 this.2.1 hl fun l hl => lsOk_mem h (hm l hl)
theorem lsOk_snoc {many : Int} {ls : List Link} {l : Link} (h : lsOk many ls = true) (hl : ls.length < 30) (ho : lOk many l) : lsOk many (ls ++ [l]) = true := by
  have := lsOk_bd h
  refine lsOk_of this.1 this.2.1 (by simp; omega) fun x hx => ?_
  rcases List.mem_append.1 hx with hx | hx
  · exact lsOk_mem h hx
  · have : x = l := by simpa using hx
    rw [this]; exact ho
theorem drop_one_mem (ls : List Link) (k : Nat) (l : Link) (h : l ∈ ls.take k ++ ls.drop (k + 1)) : l ∈ ls := by
  rcases List.mem_append.1 h with h | h
  · exact List.mem_of_mem_take h
  · exact List.mem_of_mem_drop h
/-- what follows can be added -/
theorem fitE_more {n : Nat} {ls : List Link} {e : List Int} {l : Link} (h : FitE n ls e) (hj : joinF ls l.f.toNat = joinF ls l.t.toNat) (hd : gI e l.t.toNat - gI e l.f.toNat = l.d) : FitE n (ls ++ [l]) e := by
  refine ⟨h.len, fit0_mk fun x hx => ?_, fun i hi => ?_⟩
  · rcases List.mem_append.1 hx with hx | hx
    · exact fit0 h.fit hx
    · have : x = l := by simpa using hx
      rw [this]; exact hd
  · have : joinF (ls ++ [l]) i = joinF ls i := by
      rw [joinF_snoc]; unfold jstep
      rw [hj, Nat.max_self, Nat.min_self]
      split
      · rename_i c; exact c.symm
      · rfl
    rw [this]; exact h.root i hi
theorem fit_not {n : Nat} {ls : List Link} {e : List Int} {l : Link} (h : FitE n ls e) (hl : In n l) (hj : joinF ls l.f.toNat = joinF ls l.t.toNat) (hd : gI e l.t.toNat - gI e l.f.toNat ≠ l.d) : ¬ ∃ p, Fit 0 (ls ++ [l]) p := by
  rintro ⟨p, hp⟩
  have hp' : Fit 0 ls p := fun x hx => hp x (by simp [hx])
  have a := fit_only h hp' hl.1
  have b := fit_only h hp' hl.2
  have c := fit0 hp (l := l) (by simp)
  unfold above at a b
  rw [hj] at a
  omega
/-- two links between two levels need half of their gap -/
theorem least_loop {d : Int} (h0 : 0 ≤ d) (h1 : d ≤ 300) : IsLeast [⟨0, 1, 50⟩, ⟨0, 1, 50 + d⟩] ((d + 1) / 2) := by
  refine ⟨by omega, by omega, ⟨fun i => if i = 0 then 0 else 50 + d / 2, fun l hl => ?_⟩, fun t ht1 ht2 ⟨p, hp⟩ => ?_⟩
  · simp only [List.mem_cons, List.not_mem_nil, or_false] at hl
    rcases hl with rfl | rfl
    · unfold Fit1; simp; omega
    · unfold Fit1; simp; omega
  · have a := hp ⟨0, 1, 50⟩ (by simp)
    have b := hp ⟨0, 1, 50 + d⟩ (by simp)
    unfold Fit1 at a b
    dsimp only at a b
    omega
end Go.Proofs.Ytnlnelfncejcfaa.Lk
