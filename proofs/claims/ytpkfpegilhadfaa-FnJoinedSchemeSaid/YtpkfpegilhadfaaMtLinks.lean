/- The plain mathematics that binds lines to links: levels that are connected, energies out of lines, small errors. -/
import Derived.Test.YtpkfpegilhadfaaMtPlain
import Derived.Test.YtpkfpegilhadfaaLkLawP
namespace Go.Proofs.Ytpkfpegilhadfaa.Mt
open Lk

/-! a mark that spreads from level to level -/
def rs (A : Nat → Nat → Bool) (b : List Bool) (i k : Nat) : List Bool := if gB b k = true ∧ A i k = true then b.set i true else b
def rrow (A : Nat → Nat → Bool) (b : List Bool) (i : Nat) : Nat → List Bool
  | 0 => b
  | k + 1 => rs A (rrow A b i k) i k
def rall (A : Nat → Nat → Bool) (n : Nat) (b : List Bool) : Nat → List Bool
  | 0 => b
  | i + 1 => rrow A (rall A n b i) i n
def rnds (A : Nat → Nat → Bool) (n : Nat) (b : List Bool) : Nat → List Bool
  | 0 => b
  | r + 1 => rall A n (rnds A n b r) n
theorem rs_len (A : Nat → Nat → Bool) (b : List Bool) (i k : Nat) : (rs A b i k).length = b.length := by unfold rs; split <;> simp
theorem rrow_len (A : Nat → Nat → Bool) (b : List Bool) (i k : Nat) : (rrow A b i k).length = b.length := by
  induction k with
  | zero => rfl
  | succ k ih => unfold rrow; rw [rs_len, ih]
theorem rall_len (A : Nat → Nat → Bool) (n : Nat) (b : List Bool) (i : Nat) : (rall A n b i).length = b.length := by
  induction i with
  | zero => rfl
  | succ i ih => unfold rall; rw [rrow_len, ih]
theorem rnds_len (A : Nat → Nat → Bool) (n : Nat) (b : List Bool) (r : Nat) : (rnds A n b r).length = b.length := by
  induction r with
  | zero => rfl
  | succ r ih => unfold rnds; rw [rall_len, ih]
/-- more is marked -/
def Sub (a b : List Bool) : Prop := ∀ i, gB a i = true → gB b i = true
theorem rs_sub (A : Nat → Nat → Bool) (b : List Bool) (i k : Nat) : Sub b (rs A b i k) := fun j h => by
  unfold rs; split
  · by_cases hi : i < b.length
    · rw [gB_set hi]; split
      · rfl
      · exact h
    · rw [List.set_eq_of_length_le (by omega)]; exact h
  · exact h
theorem rrow_sub (A : Nat → Nat → Bool) (b : List Bool) (i : Nat) {k m : Nat} (h : k ≤ m) : Sub (rrow A b i k) (rrow A b i m) := by
  induction m with
  | zero => have : k = 0 := by omega
            subst this; exact fun _ h => h
  | succ m ih =>
    by_cases e : k = m + 1
    · subst e; exact fun _ h => h
    · exact fun j hj => rs_sub A _ i m j (ih (by omega) j hj)
theorem rall_sub (A : Nat → Nat → Bool) (n : Nat) (b : List Bool) {i m : Nat} (h : i ≤ m) : Sub (rall A n b i) (rall A n b m) := by
  induction m with
  | zero => have : i = 0 := by omega
            subst this; exact fun _ h => h
  | succ m ih =>
    by_cases e : i = m + 1
    · subst e; exact fun _ h => h
    · exact fun j hj => rrow_sub A (rall A n b m) m (Nat.zero_le n) j (ih (by omega) j hj)
theorem rnds_sub (A : Nat → Nat → Bool) (n : Nat) (b : List Bool) (r : Nat) : Sub b (rnds A n b r) := by
  induction r with
  | zero => exact fun _ h => h
  | succ r ih => exact fun j hj => rall_sub A n _ (Nat.zero_le n) j (ih j hj)
theorem rall_does {A : Nat → Nat → Bool} {n : Nat} {b : List Bool} {i k : Nat} (hb : b.length = n) (hi : i < n) (hk : k < n) (hA : A i k = true) (h : gB b k = true) : gB (rall A n b n) i = true := by
  have h1 : gB (rall A n b i) k = true := rall_sub A n b (Nat.zero_le i) k h
  have h2 : gB (rrow A (rall A n b i) i k) k = true := rrow_sub A _ i (Nat.zero_le k) k h1
  have h3 : gB (rrow A (rall A n b i) i (k + 1)) i = true := by
    show gB (rs A (rrow A (rall A n b i) i k) i k) i = true
    unfold rs
    rw [if_pos ⟨h2, hA⟩, gB_set (by rw [rrow_len, rall_len]; omega), if_pos rfl]
  have h4 : gB (rall A n b (i + 1)) i = true := rrow_sub A (rall A n b i) i (show k + 1 ≤ n by omega) i h3
  exact rall_sub A n b (show i + 1 ≤ n by omega) i h4
/-- marks obey a law that the relation hands on -/
theorem rs_all {A : Nat → Nat → Bool} {n : Nat} {R : Nat → Prop} {b : List Bool} {i k : Nat} (hb : b.length = n) (hi : i < n) (hk : k < n) (hR : A i k = true → R k → R i) (h : ∀ j, j < n → gB b j = true → R j) : ∀ j, j < n → gB (rs A b i k) j = true → R j := fun j hj hg => by
  unfold rs at hg
  split at hg
  · rename_i c
    rw [gB_set (by omega)] at hg
    split at hg
    · rename_i e; rw [e]; exact hR c.2 (h k hk c.1)
    · exact h j hj hg
  · exact h j hj hg
theorem rrow_all {A : Nat → Nat → Bool} {n : Nat} {R : Nat → Prop} {b : List Bool} {i : Nat} (hb : b.length = n) (hi : i < n) (hR : ∀ k, k < n → A i k = true → R k → R i) (h : ∀ j, j < n → gB b j = true → R j) (k : Nat) (hk : k ≤ n) : ∀ j, j < n → gB (rrow A b i k) j = true → R j := by
  induction k with
  | zero => exact h
  | succ k ih => exact rs_all (by rw [rrow_len]; exact hb) hi (by omega) (hR k (by omega)) (ih (by omega))
theorem rall_all {A : Nat → Nat → Bool} {n : Nat} {R : Nat → Prop} {b : List Bool} (hb : b.length = n) (hR : ∀ i k, i < n → k < n → A i k = true → R k → R i) (h : ∀ j, j < n → gB b j = true → R j) (i : Nat) (hi : i ≤ n) : ∀ j, j < n → gB (rall A n b i) j = true → R j := by
  induction i with
  | zero => exact h
  | succ i ih => exact rrow_all (by rw [rall_len]; exact hb) (by omega) (fun k hk => hR i k (by omega) hk) (ih (by omega)) n (Nat.le_refl _)
theorem rnds_all {A : Nat → Nat → Bool} {n : Nat} {R : Nat → Prop} {b : List Bool} (hb : b.length = n) (hR : ∀ i k, i < n → k < n → A i k = true → R k → R i) (h : ∀ j, j < n → gB b j = true → R j) (r : Nat) : ∀ j, j < n → gB (rnds A n b r) j = true → R j := by
  induction r with
  | zero => exact h
  | succ r ih => exact rall_all (by rw [rnds_len]; exact hb) hR ih n (Nat.le_refl _)
/-- nothing more can be marked -/
def Shut (A : Nat → Nat → Bool) (n : Nat) (b : List Bool) : Prop := ∀ i k, i < n → k < n → A i k = true → gB b k = true → gB b i = true
theorem shut_still {A : Nat → Nat → Bool} {n : Nat} {b : List Bool} (hb : b.length = n) (h : Shut A n b) : rall A n b n = b := by
  apply gB_ext (rall_len _ _ _ _)
  intro i hi
  rw [rall_len] at hi
  rw [Bool.eq_iff_iff]
  exact ⟨fun hg => rall_all (R := fun j => gB b j = true) hb h (fun _ _ h => h) n (Nat.le_refl _) i (by omega) hg, fun hg => rall_sub A n b (Nat.zero_le n) i hg⟩
theorem rnds_shut {A : Nat → Nat → Bool} {n : Nat} {b : List Bool} (hb : b.length = n) (h0 : 0 < n) (hg : gB b 0 = true) : Shut A n (rnds A n b n) := by
  have key : ∀ r, Shut A n (rnds A n b r) ∨ r + 1 ≤ cnt (gB (rnds A n b r)) n := fun r => by
    induction r with
    | zero =>
      right
      have := cnt_lt (P := fun _ => false) (Q := gB b) (n := n) (k := 0) (fun _ _ h => by cases h) h0 rfl hg
      show 0 + 1 ≤ cnt (gB b) n
      omega
    | succ r ih =>
      have hl := rnds_len A n b r
      by_cases c : Shut A n (rnds A n b r)
      · left; show Shut A n (rall A n (rnds A n b r) n); rw [shut_still (by omega) c]; exact c
      · right
        have : ∃ i k, i < n ∧ k < n ∧ A i k = true ∧ gB (rnds A n b r) k = true ∧ gB (rnds A n b r) i = false := by
          apply Classical.byContradiction
          intro hno
          apply c
          intro i k hi hk hA hgk
          rcases hh : gB (rnds A n b r) i with _ | _
          · exact absurd ⟨i, k, hi, hk, hA, hgk, hh⟩ hno
          · rfl
        obtain ⟨i, k, hi, hk, hA, hgk, hgi⟩ := this
        have hd := rall_does (by omega) hi hk hA hgk
        have := cnt_lt (P := gB (rnds A n b r)) (Q := gB (rall A n (rnds A n b r) n)) (n := n) (k := i) (fun j _ hj => rall_sub A n _ (Nat.zero_le n) j hj) hi hgi hd
        rcases ih with h | h
        · exact absurd h c
        · show r + 1 + 1 ≤ cnt (gB (rall A n (rnds A n b r) n)) n
          omega
  rcases key n with h | h
  · exact h
  · have := cnt_le (gB (rnds A n b n)) n
    omega

/-! lines as links -/
def lk (x : Line) : Link := ⟨x.l, x.u, x.n⟩
def ku (x : Line) : Link := ⟨x.u, x.l, 0⟩
theorem joinF_ku (L : List Line) (i : Nat) : joinF (L.map ku) i = joinF (L.map lk) i := by
  have h := joinF_is (L.map lk)
  refine isJ_unique (joinF_is _) ⟨fun l hl => ?_, h.le, fun g hg => h.conn g fun l hl => ?_⟩ i
  · obtain ⟨x, hx, rfl⟩ := List.mem_map.1 hl
    exact (h.same (lk x) (List.mem_map.2 ⟨x, hx, rfl⟩)).symm
  · obtain ⟨x, hx, rfl⟩ := List.mem_map.1 hl
    exact (hg (ku x) (List.mem_map.2 ⟨x, hx, rfl⟩)).symm
/-- is a level connected with the first one -/
def reach (s : List Nd) (i : Nat) : Bool := decide (joinF ((lines s).map lk) i = joinF ((lines s).map lk) 0)
def reachL (s : List Nd) : List Bool := if sOk s = true then (List.range s.length).map (reach s) else []
theorem join0 (ls : List Link) : joinF ls 0 = 0 := by have := (joinF_is ls).le 0; omega
theorem lines_link {s : List Nd} (h : sOk s = true) {i k : Nat} (hi : i < s.length) (hk : k < s.length) (ha : allowed (gN s i) (gN s k) = true) (hne : i ≠ k) :
    ∃ x, x ∈ lines s ∧ ((x.u = i ∧ x.l = k) ∨ (x.u = k ∧ x.l = i)) := by
  rcases Nat.lt_or_ge k i with c | c
  · exact ⟨mkL s i k, (lines_mem h).2 ⟨i, k, hi, c, ha, rfl⟩, .inl ⟨rfl, rfl⟩⟩
  · exact ⟨mkL s k i, (lines_mem h).2 ⟨k, i, hk, by omega, by rw [allowed_symm]; exact ha, rfl⟩, .inr ⟨rfl, rfl⟩⟩
theorem join_allowed {s : List Nd} (h : sOk s = true) {i k : Nat} (hi : i < s.length) (hk : k < s.length) (ha : allowed (gN s i) (gN s k) = true) : joinF ((lines s).map lk) i = joinF ((lines s).map lk) k := by
  by_cases hne : i = k
  · rw [hne]
  · obtain ⟨x, hx, hc⟩ := lines_link h hi hk ha hne
    have := (joinF_is ((lines s).map lk)).same (lk x) (List.mem_map.2 ⟨x, hx, rfl⟩)
    change joinF _ x.l.toNat = joinF _ x.u.toNat at this
    rcases hc with ⟨e1, e2⟩ | ⟨e1, e2⟩
    · rw [e1, e2, Int.toNat_natCast, Int.toNat_natCast] at this; exact this.symm
    · rw [e1, e2, Int.toNat_natCast, Int.toNat_natCast] at this; exact this
/-- the reference's marks -/
theorem rnds_reach {s : List Nd} (h : sOk s = true) : rnds (fun i k => allowed (gN s i) (gN s k)) s.length ((List.replicate s.length false).set 0 true) s.length = reachL s := by
  have hb := sOk_bd h
  have hl : ((List.replicate s.length false).set 0 true).length = s.length := by simp
  have hz : ∀ i, gB ((List.replicate s.length false).set 0 true) i = if i = 0 then true else false := fun i => by
    rw [gB_set (by simp; omega), gB_rep]
  have hs := rnds_shut (A := fun i k => allowed (gN s i) (gN s k)) hl (by omega) (by rw [hz]; rfl)
  have hR := rnds_all (A := fun i k => allowed (gN s i) (gN s k)) (R := fun i => joinF ((lines s).map lk) i = 0) hl (fun i k hi hk hA hk' => by
    rw [join_allowed h hi hk hA]; exact hk') (fun j _ hj => by
    rw [hz] at hj
    split at hj
    · rename_i e; rw [e, join0]
    · cases hj) s.length
  have h0 := rnds_sub (fun i k => allowed (gN s i) (gN s k)) s.length ((List.replicate s.length false).set 0 true) s.length 0 (by rw [hz]; rfl)
  unfold reachL
  rw [if_pos h]
  apply gB_ext
  · rw [rnds_len, hl]; simp
  · intro i hi
    rw [rnds_len, hl] at hi
    have e : gB ((List.range s.length).map (reach s)) i = reach s i := by simp [gB, hi]
    rw [e, Bool.eq_iff_iff]
    unfold reach
    rw [join0, decide_eq_true_eq]
    constructor
    · exact fun hg => hR i hi hg
    · intro hj
      generalize rnds (fun i k => allowed (gN s i) (gN s k)) s.length ((List.replicate s.length false).set 0 true) s.length = m at *
      have := (joinF_is ((lines s).map lk)).conn (fun i => if gB m i = true then 1 else 0) (fun l hl' => by
        obtain ⟨x, hx, rfl⟩ := List.mem_map.1 hl'
        obtain ⟨u, v, q1, q2, q3, rfl⟩ := (lines_mem h).1 hx
        show (if gB m ((v : Int)).toNat = true then (1 : Int) else 0) = if gB m ((u : Int)).toNat = true then 1 else 0
        rw [Int.toNat_natCast, Int.toNat_natCast]
        have a := hs u v q1 (by omega) q3
        have b := hs v u (by omega) q1 (by show allowed (gN s v) (gN s u) = true; rw [allowed_symm]; exact q3)
        rcases c1 : gB m u with _ | _ <;> rcases c2 : gB m v with _ | _
        · rfl
        · have := a c2; rw [c1] at this; cases this
        · have := b c1; rw [c2] at this; cases this
        · rfl) i
      rw [hj, if_pos h0] at this
      split at this
      · assumption
      · omega

/-- the links of a scheme's lines -/
def linksOf (L : List Line) : List Link := (L.take 30).map lk
theorem linksOf_len (L : List Line) : (linksOf L).length = min 30 L.length := by simp [linksOf]
theorem linksOf_ok {s : List Nd} (h : sOk s = true) : lsOk (s.length : Int) (linksOf (lines s)) = true := by
  have hb := sOk_bd h
  refine lsOk_of (by omega) (by omega) (by rw [linksOf_len]; omega) fun l hl => ?_
  obtain ⟨x, hx, rfl⟩ := List.mem_map.1 hl
  have := lines_in h (List.mem_of_mem_take hx)
  unfold lOk lk; dsimp only; omega
theorem linksOf_fit {s : List Nd} (h : sOk s = true) : Fit 0 (linksOf (lines s)) (fun i => (gN s i).e) := fit0_mk fun l hl => by
  obtain ⟨x, hx, rfl⟩ := List.mem_map.1 hl
  have := lines_in h (List.mem_of_mem_take hx)
  unfold lk; dsimp only; omega
/-- small errors need a small tolerance -/
theorem noise_fit {s : List Nd} (h : sOk s = true) {ls : List Link} (hl : ls.length = (linksOf (lines s)).length)
    (hx : ∀ i, i < ls.length → (gL ls i).f = (gL (linksOf (lines s)) i).f ∧ (gL ls i).t = (gL (linksOf (lines s)) i).t ∧ (gL (linksOf (lines s)) i).d - 3 ≤ (gL ls i).d ∧ (gL ls i).d ≤ (gL (linksOf (lines s)) i).d + 3 ∧ (gL ls i).d ≤ 200000) :
    lsOk (s.length : Int) ls = true ∧ Near ls 3 := by
  have ho := linksOf_ok h
  have hb := lsOk_bd ho
  have hin : ∀ i, i < ls.length → 0 < (gL (linksOf (lines s)) i).d := fun i hi => by
    have hm := gL_mem (ls := linksOf (lines s)) (i := i) (by omega)
    obtain ⟨x, hx, e⟩ := List.mem_map.1 hm
    have := lines_in h (List.mem_of_mem_take hx)
    rw [← e]; unfold lk; dsimp only; omega
  refine ⟨lsOk_mk hb.1 hb.2.1 (by omega) fun i hi => ?_, ⟨fun i => (gN s i).e, fun l hl' => ?_⟩⟩
  · obtain ⟨a, b, c, d, e⟩ := hx i hi
    have := lsOk_at ho (i := i) (by omega)
    have := hin i hi
    unfold lOk at *
    rw [a, b]; omega
  · obtain ⟨i, hi, rfl⟩ := mem_gL hl'
    obtain ⟨a, b, c, d, e⟩ := hx i hi
    have := fit0 (linksOf_fit h) (gL_mem (ls := linksOf (lines s)) (i := i) (by omega))
    unfold Fit1
    rw [a, b]
    dsimp only at *
    omega
end Go.Proofs.Ytpkfpegilhadfaa.Mt
