/- Slices of structs in memory: what can be read of them, and what the call itself owns. Small lemmas over any world, no program in sight. -/
import Derived.Test.YtnlnelfncejcfaaMem
import Derived.Deep.Fields
import Derived.Deep.Slices
import Derived.ChangeSame
namespace Go.Proofs.Ytnlnelfncejcfaa
open Go.RowKit

/-- the slice '.slice A n c' of structs of s cells reads as R (row by row) in w, and lies below block B -/
structure RSl (w : World) (B s : Nat) (A : Option Addr) (n c : Nat) (R : Nat → Nat → Value) : Prop where
  cap : n ≤ c
  mem : 0 < n → ∃ b off, A = some ⟨b, off, none⟩ ∧ b < B ∧ ∀ i j, i < n → j < s → w.cell? ⟨b, off + i * s + j, none⟩ = some (R i j)

/-- the slice value v of n structs of s cells is the call's own, and reads as R -/
def OwnR (w : World) (base : Nat) (E : TypeId) (s : Nat) (v : Value) (n : Nat) (R : Nat → Nat → Value) : Prop :=
  ∃ xs : List Value, w.ownsRow base E s v n xs ∧ ∀ i j, i < n → j < s → xs[i * s + j]? = some (R i j)

section
variable {w w' : World} {B B' s : Nat} {A : Option Addr} {n c : Nat} {R R' : Nat → Nat → Value} {base base' g : Nat} {E : TypeId} {v : Value}

theorem RSl.keep (h : RSl w B s A n c R) (hk : ∀ b off, b < B → w'.cell? ⟨b, off, none⟩ = w.cell? ⟨b, off, none⟩) : RSl w' B s A n c R :=
  ⟨h.cap, fun hn => by
    obtain ⟨b, off, e, hb, hc⟩ := h.mem hn
    exact ⟨b, off, e, hb, fun i j hi hj => (hk _ _ hb).trans (hc i j hi hj)⟩⟩
theorem RSl.more (h : RSl w B s A n c R) (hB : B ≤ B') : RSl w B' s A n c R :=
  ⟨h.cap, fun hn => by
    obtain ⟨b, off, e, hb, hc⟩ := h.mem hn
    exact ⟨b, off, e, by omega, hc⟩⟩
theorem RSl.below (h : RSl w B s A n c R) (hb : Below B w w') : RSl w' B s A n c R := h.keep fun b off hp => hb.cell (p := ⟨b, off, none⟩) hp
theorem RSl.drewN (h : RSl w B s A n c R) (k : Nat) : RSl (w.drewN k) B s A n c R := h.keep fun _ _ _ => rfl
theorem RSl.nil (w : World) (B s : Nat) (A : Option Addr) (c : Nat) (R : Nat → Nat → Value) : RSl w B s A 0 c R := ⟨Nat.zero_le _, fun h => absurd h (by omega)⟩
theorem RSl.at_ (h : RSl w B s A n c R) {k : Nat} (hk : k < n) : ∃ b off, A = some ⟨b, off, none⟩ ∧ b < B ∧ ∀ i j, i < n → j < s → w.cell? ⟨b, off + i * s + j, none⟩ = some (R i j) := h.mem (by omega)
theorem RSl.congr (h : RSl w B s A n c R) (hr : ∀ i j, i < n → j < s → R i j = R' i j) : RSl w B s A n c R' :=
  ⟨h.cap, fun hn => by
    obtain ⟨b, off, e, hb, hc⟩ := h.mem hn
    exact ⟨b, off, e, hb, fun i j hi hj => by rw [← hr i j hi hj]; exact hc i j hi hj⟩⟩
/-- the first k structs -/
theorem RSl.cut (h : RSl w B s A n c R) {k : Nat} (hk : k ≤ n) : RSl w B s A k c R :=
  ⟨Nat.le_trans hk h.cap, fun hn => by
    obtain ⟨b, off, e, hb, hc⟩ := h.mem (by omega)
    exact ⟨b, off, e, hb, fun i j hi hj => hc i j (by omega) hj⟩⟩

theorem OwnR.map (h : OwnR w base E s v n R) (hk : ∀ xs, w.ownsRow base E s v n xs → w'.ownsRow base' E s v n xs) : OwnR w' base' E s v n R := by
  obtain ⟨xs, h1, h2⟩ := h
  exact ⟨xs, hk xs h1, h2⟩
theorem OwnR.congr (h : OwnR w base E s v n R) (hr : ∀ i j, i < n → j < s → R i j = R' i j) : OwnR w base E s v n R' := by
  obtain ⟨xs, h1, h2⟩ := h
  exact ⟨xs, h1, fun i j hi hj => by rw [← hr i j hi hj]; exact h2 i j hi hj⟩
theorem OwnR.below (h : OwnR w base E s v n R) (hb : Below w.heap.size w w') : OwnR w' base E s v n R := h.map fun _ h => own_below h hb
theorem OwnR.base_ (h : OwnR w base E s v n R) (hb : base' ≤ base) : OwnR w base' E s v n R := h.map fun _ h => own_base h hb
theorem OwnR.keep (h : OwnR w base E s v n R) {g : Nat} (hg : w.grownBy w' (some g)) (hlt : g < base) : OwnR w' base E s v n R := h.map fun _ h => own_keep h hg hlt
theorem OwnR.alloc (h : OwnR w base E s v n R) (o : Obj) : OwnR (w.alloc o) base E s v n R := h.map fun _ h => h.alloc o
theorem OwnR.drewN (h : OwnR w base E s v n R) (k : Nat) : OwnR (w.drewN k) base E s v n R := h.map fun _ h => h
theorem OwnR.form (h : OwnR w base E s v n R) : ∃ A c, v = .slice A n c := by
  obtain ⟨xs, h1, _⟩ := h
  exact own_form h1
theorem OwnR.lt (h : OwnR w base E s v n R) : ∀ k, v.ownBlock = some k → base ≤ k ∧ k < w.heap.size := by
  obtain ⟨xs, h1, _⟩ := h
  exact h1.lt
theorem OwnR.few (h : OwnR w base E s (.slice A n c) n R) : n ≤ maxLen := by
  obtain ⟨xs, h1, _⟩ := h
  rcases h1.2 with ⟨e, rfl⟩ | ⟨g, cap, cur, e, _, _, hc, hm, _⟩
  · exact Nat.zero_le _
  · injection e with e1 e2 e3; omega
theorem OwnR.at_ (h : OwnR w base E s (.slice A n c) n R) (hn : 0 < n) : ∃ g, A = some ⟨g, 0, none⟩ ∧ base ≤ g ∧ g < w.heap.size := by
  obtain ⟨xs, h1, _⟩ := h
  exact own_at h1 hn
theorem OwnR.nil (w : World) (base : Nat) (E : TypeId) (s : Nat) (R : Nat → Nat → Value) : OwnR w base E s (.slice none 0 0) 0 R := ⟨[], World.ownsRow_nil w base E s, fun i j hi => by omega⟩
theorem OwnR.lit0 (w : World) (E : TypeId) (s : Nat) (R : Nat → Nat → Value) : OwnR (w.alloc (.cells #[] E)) w.heap.size E s (.slice (some ⟨w.heap.size, 0, none⟩) 0 0) 0 R :=
  ⟨[], World.ownsRow_lit w #[] 0 (Nat.le_refl _) (by unfold maxLen; omega) (by simp), fun i j hi => by omega⟩
/-- what the call itself made reads as what it owns -/
theorem RSl.of_own (h : OwnR w base E s (.slice A n c) n R) : RSl w w.heap.size s A n c R := by
  obtain ⟨xs, h1, h2⟩ := h
  refine ⟨?_, fun hn => ?_⟩
  · rcases h1.2 with ⟨e, rfl⟩ | ⟨g, cap, cur, e, _, _, hc, _⟩
    · omega
    · injection e with e1 e2 e3; omega
  · obtain ⟨g, rfl, _, hlt⟩ := own_at h1 hn
    refine ⟨g, 0, rfl, hlt, fun i j hi hj => ?_⟩
    have hlt : i * s + j < n * s := by
      have : (i + 1) * s ≤ n * s := Nat.mul_le_mul_right s hi
      rw [Nat.add_mul] at this; omega
    rw [Nat.zero_add, h1.cellAt _ hlt]; exact h2 i j hi hj
theorem OwnR.cell (h : OwnR w base E s (.slice (some ⟨g, 0, none⟩) n c) n R) {i j : Nat} (hi : i < n) (hj : j < s) : w.cell? ⟨g, i * s + j, none⟩ = some (R i j) := by
  obtain ⟨xs, h1, h2⟩ := h
  have hlt : i * s + j < n * s := by
    have : (i + 1) * s ≤ n * s := Nat.mul_le_mul_right s hi
    rw [Nat.add_mul] at this; omega
  rw [h1.cellAt _ hlt]; exact h2 i j hi hj
theorem OwnR.frozen (h : OwnR w base E s (.slice (some ⟨g, 0, none⟩) n c) n R) (j : Nat) : w.frozen? ⟨g, j, none⟩ = false := by
  obtain ⟨xs, h1, _⟩ := h
  exact h1.frozenAt j
/-- one cell turned -/
def setR (R : Nat → Nat → Value) (i j : Nat) (u : Value) : Nat → Nat → Value := fun a b => if a = i ∧ b = j then u else R a b
theorem OwnR.set_ (h : OwnR w base E s (.slice (some ⟨g, 0, none⟩) n c) n R) {i j : Nat} (hi : i < n) (hj : j < s) (u : Value) :
    OwnR (w.setCell ⟨g, i * s + j, none⟩ u) base E s (.slice (some ⟨g, 0, none⟩) n c) n (setR R i j u) ∧ w.grownBy (w.setCell ⟨g, i * s + j, none⟩ u) (some g) := by
  obtain ⟨xs, h1, h2⟩ := h
  have hst := h1.stored (i * s + j) u
  refine ⟨⟨_, hst.1, fun a b ha hb => ?_⟩, hst.2⟩
  have hl : xs.length = n * s := h1.1
  have hlt : i * s + j < n * s := by
    have : (i + 1) * s ≤ n * s := Nat.mul_le_mul_right s hi
    rw [Nat.add_mul] at this; omega
  unfold setR
  by_cases e : a = i ∧ b = j
  · obtain ⟨rfl, rfl⟩ := e
    rw [if_pos ⟨rfl, rfl⟩]; simp [hl, hlt]
  · rw [if_neg e, List.getElem?_set_ne, h2 a b ha hb]
    intro he
    apply e
    rcases Nat.lt_trichotomy a i with c | c | c
    · have : (a + 1) * s ≤ i * s := Nat.mul_le_mul_right s c
      rw [Nat.add_mul] at this; omega
    · subst c; exact ⟨rfl, by omega⟩
    · have : (i + 1) * s ≤ a * s := Nat.mul_le_mul_right s c
      rw [Nat.add_mul] at this; omega
/-- one struct more -/
def snocR (R : Nat → Nat → Value) (n : Nat) (T : Nat → Value) : Nat → Nat → Value := fun a b => if a = n then T b else R a b
theorem OwnR.snoc {xs : List Value} (h2 : ∀ i j, i < n → j < s → xs[i * s + j]? = some (R i j)) {news : List Value} {T : Nat → Value} (hl : xs.length = n * s) (hn : ∀ j, j < s → news[j]? = some (T j))
    (h : w.ownsRow base E s v (n + 1) (xs ++ news)) : OwnR w base E s v (n + 1) (snocR R n T) := by
  refine ⟨_, h, fun i j hi hj => ?_⟩
  unfold snocR
  by_cases e : i = n
  · subst e
    rw [if_pos rfl, List.getElem?_append_right (by omega), hl, show i * s + j - i * s = j by omega]; exact hn j hj
  · have hlt : i * s + j < n * s := by
      have : (i + 1) * s ≤ n * s := Nat.mul_le_mul_right s (by omega)
      rw [Nat.add_mul] at this; omega
    rw [if_neg e, List.getElem?_append_left (by omega)]; exact h2 i j (by omega) hj
theorem OwnR.mark (h : OwnR w base E s v n R) (hb : base ≤ w.heap.size) (hg : w.grownBy w' v.ownBlock) : Below base w w' :=
  (Below.refl _ _).grown hg hb (fun k hk => (h.lt k hk).1)
end

/-! rows of the call's own, one written beside others -/
section
variable {w w' wb wx : World} {n n' : Nat} {base base' s s' : Nat} {e e' : TypeId} {v v' : Value} {R R' : Nat → Nat → Value} {xs xs' : List Value} {size size' : Nat}
theorem OwnR.own_far1 {base2 size2 n2 : Nat} {e2 : TypeId} {xs2 : List Value} (h : w.ownsRow base e size v n xs) (hv : wb.ownsRow base2 e2 size2 v n2 xs2) (hx : OwnR w base' e' s' v' n' R') (hle : wb.heap.size ≤ base') (hg : w.grownBy w' v'.ownBlock) : w'.ownsRow base e size v n xs := by
  obtain ⟨ys, h1, _⟩ := hx
  exact Go.Proofs.Ytnlnelfncejcfaa.own_far1 h hv h1 hle hg
theorem OwnR.own_far2 (h : w.ownsRow base e size v n xs) (hx : OwnR wx base' e' s' v' n' R') (hle : wx.heap.size ≤ base) (hg : w.grownBy w' v'.ownBlock) : w'.ownsRow base e size v n xs := by
  obtain ⟨ys, h1, _⟩ := hx
  exact Go.Proofs.Ytnlnelfncejcfaa.own_far2 h h1 hle hg
theorem OwnR.far1 {base2 s2 n2 : Nat} {e2 : TypeId} {R2 : Nat → Nat → Value} (h : OwnR w base e s v n R) (hv : OwnR wb base2 e2 s2 v n2 R2) (hx : OwnR w base' e' s' v' n' R') (hle : wb.heap.size ≤ base') (hg : w.grownBy w' v'.ownBlock) : OwnR w' base e s v n R := by
  obtain ⟨ys, h1, _⟩ := hx
  obtain ⟨zs, h2, _⟩ := hv
  exact h.map fun _ h => Go.Proofs.Ytnlnelfncejcfaa.own_far1 h h2 h1 hle hg
theorem OwnR.far2 (h : OwnR w base e s v n R) (hx : OwnR wx base' e' s' v' n' R') (hle : wx.heap.size ≤ base) (hg : w.grownBy w' v'.ownBlock) : OwnR w' base e s v n R := by
  obtain ⟨ys, h1, _⟩ := hx
  exact h.map fun _ h => Go.Proofs.Ytnlnelfncejcfaa.own_far2 h h1 hle hg
/-- a row of structs beside a row of plain cells that is written -/
theorem OwnR.far1' {base2 s2 n2 : Nat} {e2 : TypeId} {R2 : Nat → Nat → Value} (h : OwnR w base e s v n R) (hv : OwnR wb base2 e2 s2 v n2 R2) (hx : w.ownsRow base' e' size' v' n' xs') (hle : wb.heap.size ≤ base') (hg : w.grownBy w' v'.ownBlock) : OwnR w' base e s v n R := by
  obtain ⟨zs, h2, _⟩ := hv
  exact h.map fun _ h => Go.Proofs.Ytnlnelfncejcfaa.own_far1 h h2 hx hle hg
theorem OwnR.far2' (h : OwnR w base e s v n R) (hx : wx.ownsRow base' e' size' v' n' xs') (hle : wx.heap.size ≤ base) (hg : w.grownBy w' v'.ownBlock) : OwnR w' base e s v n R :=
  h.map fun _ h => Go.Proofs.Ytnlnelfncejcfaa.own_far2 h hx hle hg
end

/-! an argument that is a slice of structs (after the kit's own words on slices of structs) -/
section
open Go.ChangeShapes Go.WideShapes Go.Deep
variable {H : Type} {enc : TypeId × Value → H} {P : Program} {w : World} {base : Nat} {spare : Nat → Bool} {held : Bool}
theorem open_slice_fields {t e : TypeId} {fs : Array Field} {fuel : Nat} {cs : List Value} {x : DataW H × List MemPlace} (ht : P.underlying t = some (.slice e)) (he : P.underlying e = some (.struct fs))
    (hone : oneCellFields P fs = true) (hC : P.cellsOf e = fs.size) (h : DataW.trod enc P w base spare held fuel t cs = some x) :
    (cs = [.slice none 0 0] ∧ x = (.nil, [])) ∨
    ∃ (a : Addr) (len cap : Nat), cs = [.slice (some a) len cap] ∧ len ≤ cap ∧ cap ≤ maxLen ∧
      ∀ i, i < len → ∀ (j : Nat) (f : Field), fs[j]? = some f → ∃ (v : Value) (y : DataW H × List MemPlace) (n : Nat), w.cell? (a.add (i * fs.size + j)) = some v ∧ DataW.trod enc P w base spare held n f.type [v] = some y := by
  rcases open_slice ht h with h0 | ⟨a, len, cap, m, n, D, Pl, hcs, hb, hl, hm, hmm, hx, hi⟩
  · exact .inl h0
  · refine .inr ⟨a, len, cap, hcs, hl, hm, fun i him j f hj => ?_⟩
    obtain ⟨cs', hc, ht'⟩ := hi i (by rw [hmm]; split <;> omega)
    rw [hC] at hc
    obtain ⟨ys, n', hn', hy, hlen, hyl, hf⟩ := DataW.trod_struct he ht'
    obtain ⟨_, hcl, hat⟩ := World.cells?_some hc
    obtain ⟨ho, hk⟩ := hone_of hone j f hj
    have hjl : j < fs.size := (Array.getElem?_eq_some_iff.1 hj).1
    have hcell := hat j hjl
    have hv : cs'[j]? = some (cs'[j]'(by omega)) := List.getElem?_eq_getElem (by omega)
    have h1 := hf j f hj
    rw [ho, hk] at h1
    have hone' : (cs'.drop j).take 1 = [cs'[j]'(by omega)] := by
      rw [List.drop_eq_getElem_cons (by omega)]
      rfl
    rw [hone'] at h1
    have hys : ys[j]? = some (ys[j]'(by omega)) := List.getElem?_eq_getElem (by omega)
    refine ⟨_, _, _, ?_, h1.trans hys⟩
    rw [← Go.Deep.add_add, hcell, hv]
end
end Go.Proofs.Ytnlnelfncejcfaa
