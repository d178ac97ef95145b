/- Slices of links in memory. Small lemmas over any world, no program in sight. -/
import Derived.Test.YtnlnelfncejcfaaStruct
import Derived.Test.YtnlnelfncejcfaaLkPlain
namespace Go.Proofs.Ytnlnelfncejcfaa
open Go.RowKit Lk

/-- a link's three cells -/
def linkC (l : Link) (j : Nat) : Value := match j with | 0 => .int .i64 l.f | 1 => .int .i64 l.t | _ => .int .i64 l.d
def linkV (ls : List Link) (i j : Nat) : Value := linkC (gL ls i) j
/-- a link's numbers are ints of 64 bits -/
def InL (l : Link) : Prop := InI l.f ∧ InI l.t ∧ InI l.d

/-- the slice '.slice A n c' reads as the links ls in w, and lies below block B -/
structure LSl (w : World) (B : Nat) (A : Option Addr) (n c : Nat) (ls : List Link) : Prop where
  len : ls.length = n
  inI : ∀ l ∈ ls, InL l
  row : RSl w B 3 A n c (linkV ls)
  few : n ≤ maxLen
/-- the slice value v of n links is the call's own, and reads as ls -/
structure LOwn (w : World) (base : Nat) (E : TypeId) (v : Value) (n : Nat) (ls : List Link) : Prop where
  len : ls.length = n
  row : OwnR w base E 3 v n (linkV ls)

section
variable {w w' : World} {B B' : Nat} {A : Option Addr} {n c : Nat} {ls : List Link} {base base' g : Nat} {E : TypeId} {v : Value}
theorem LSl.keep (h : LSl w B A n c ls) (hk : ∀ b off, b < B → w'.cell? ⟨b, off, none⟩ = w.cell? ⟨b, off, none⟩) : LSl w' B A n c ls := ⟨h.len, h.inI, h.row.keep hk, h.few⟩
theorem LSl.more (h : LSl w B A n c ls) (hB : B ≤ B') : LSl w B' A n c ls := ⟨h.len, h.inI, h.row.more hB, h.few⟩
theorem LSl.below (h : LSl w B A n c ls) (hb : Below B w w') : LSl w' B A n c ls := ⟨h.len, h.inI, h.row.below hb, h.few⟩
theorem LSl.drewN (h : LSl w B A n c ls) (k : Nat) : LSl (w.drewN k) B A n c ls := ⟨h.len, h.inI, h.row.drewN k, h.few⟩
theorem LSl.cap (h : LSl w B A n c ls) : n ≤ c := h.row.cap
theorem LSl.at_ (h : LSl w B A n c ls) {k : Nat} (hk : k < n) : ∃ b off, A = some ⟨b, off, none⟩ ∧ b < B ∧ k < ls.length ∧
    ∀ i, i < n → w.cell? ⟨b, off + i * 3, none⟩ = some (.int .i64 (gL ls i).f) ∧ w.cell? ⟨b, off + i * 3 + 1, none⟩ = some (.int .i64 (gL ls i).t) ∧ w.cell? ⟨b, off + i * 3 + 2, none⟩ = some (.int .i64 (gL ls i).d) := by
  obtain ⟨b, off, e, hb, hc⟩ := h.row.at_ hk
  exact ⟨b, off, e, hb, by have := h.len; omega, fun i hi => ⟨hc i 0 hi (by omega), hc i 1 hi (by omega), hc i 2 hi (by omega)⟩⟩
theorem LSl.inAt (h : LSl w B A n c ls) (i : Nat) : InL (gL ls i) := by
  by_cases hi : i < ls.length
  · exact h.inI _ (gL_mem hi)
  · unfold gL; rw [List.getElem?_eq_none (by omega)]; unfold InL InI; simp
theorem LSl.nil (w : World) (B : Nat) (A : Option Addr) (c : Nat) : LSl w B A 0 c [] := ⟨rfl, (fun _ h => by cases h), RSl.nil _ _ _ _ _ _, Nat.zero_le _⟩
theorem LSl.of_own (h : LOwn w base E (.slice A n c) n ls) (hi : ∀ l ∈ ls, InL l) : LSl w w.heap.size A n c ls := ⟨h.len, hi, RSl.of_own h.row, h.row.few⟩
theorem LSl.cut (h : LSl w B A n c ls) {k : Nat} (hk : k ≤ n) : LSl w B A k c (ls.take k) := by
  refine ⟨by have := h.len; simp; omega, fun l hl => h.inI l (List.mem_of_mem_take hl), (h.row.cut hk).congr fun i j hi _ => ?_, Nat.le_trans hk h.few⟩
  unfold linkV
  have : gL (ls.take k) i = gL ls i := by simp [gL, hi]
  rw [this]

theorem LOwn.below (h : LOwn w base E v n ls) (hb : Below w.heap.size w w') : LOwn w' base E v n ls := ⟨h.len, h.row.below hb⟩
theorem LOwn.base_ (h : LOwn w base E v n ls) (hb : base' ≤ base) : LOwn w base' E v n ls := ⟨h.len, h.row.base_ hb⟩
theorem LOwn.keep (h : LOwn w base E v n ls) {g : Nat} (hg : w.grownBy w' (some g)) (hlt : g < base) : LOwn w' base E v n ls := ⟨h.len, h.row.keep hg hlt⟩
theorem LOwn.alloc (h : LOwn w base E v n ls) (o : Obj) : LOwn (w.alloc o) base E v n ls := ⟨h.len, h.row.alloc o⟩
theorem LOwn.drewN (h : LOwn w base E v n ls) (k : Nat) : LOwn (w.drewN k) base E v n ls := ⟨h.len, h.row.drewN k⟩
theorem LOwn.form (h : LOwn w base E v n ls) : ∃ A c, v = .slice A n c := h.row.form
theorem LOwn.at_ (h : LOwn w base E (.slice A n c) n ls) (hn : 0 < n) : ∃ g, A = some ⟨g, 0, none⟩ ∧ base ≤ g ∧ g < w.heap.size := h.row.at_ hn
theorem LOwn.lit0 (w : World) (E : TypeId) : LOwn (w.alloc (.cells #[] E)) w.heap.size E (.slice (some ⟨w.heap.size, 0, none⟩) 0 0) 0 [] := ⟨rfl, OwnR.lit0 w E 3 _⟩
theorem LOwn.cells (h : LOwn w base E (.slice (some ⟨g, 0, none⟩) n c) n ls) {i : Nat} (hi : i < n) :
    w.cell? ⟨g, i * 3, none⟩ = some (.int .i64 (gL ls i).f) ∧ w.cell? ⟨g, i * 3 + 1, none⟩ = some (.int .i64 (gL ls i).t) ∧ w.cell? ⟨g, i * 3 + 2, none⟩ = some (.int .i64 (gL ls i).d) :=
  ⟨h.row.cell hi (show 0 < 3 by omega), h.row.cell hi (show 1 < 3 by omega), h.row.cell hi (show 2 < 3 by omega)⟩
theorem LOwn.frozen (h : LOwn w base E (.slice (some ⟨g, 0, none⟩) n c) n ls) (j : Nat) : w.frozen? ⟨g, j, none⟩ = false := h.row.frozen j
theorem LOwn.mark (h : LOwn w base E v n ls) (hb : base ≤ w.heap.size) (hg : w.grownBy w' v.ownBlock) : Below base w w' := h.row.mark hb hg
theorem gL_set {ls : List Link} {i j : Nat} {l : Link} (h : i < ls.length) : gL (ls.set i l) j = if j = i then l else gL ls j := by
  unfold gL
  rw [List.getElem?_set]
  by_cases e : i = j
  · subst e; simp [h]
  · rw [if_neg e, if_neg (fun h => e h.symm)]
/-- one field turned -/
theorem LOwn.set_ (h : LOwn w base E (.slice (some ⟨g, 0, none⟩) n c) n ls) {i j : Nat} (hi : i < n) (hj : j < 3) {u : Value} {l : Link} (hl : ∀ b, b < 3 → linkC l b = if b = j then u else linkC (gL ls i) b) :
    LOwn (w.setCell ⟨g, i * 3 + j, none⟩ u) base E (.slice (some ⟨g, 0, none⟩) n c) n (ls.set i l) ∧ w.grownBy (w.setCell ⟨g, i * 3 + j, none⟩ u) (some g) := by
  obtain ⟨h1, h2⟩ := h.row.set_ hi hj u
  refine ⟨⟨by simp [h.len], h1.congr fun a b ha hb => ?_⟩, h2⟩
  unfold setR linkV
  rw [gL_set (by rw [h.len]; exact hi)]
  by_cases e : a = i
  · subst e
    rw [if_pos rfl, hl b hb]
    by_cases e2 : b = j
    · rw [if_pos ⟨rfl, e2⟩, if_pos e2]
    · rw [if_neg (fun h => e2 h.2), if_neg e2]
  · rw [if_neg (fun h => e h.1), if_neg e]
theorem LOwn.setF (h : LOwn w base E (.slice (some ⟨g, 0, none⟩) n c) n ls) {i : Nat} (hi : i < n) (x : Int) :
    LOwn (w.setCell ⟨g, i * 3, none⟩ (.int .i64 x)) base E (.slice (some ⟨g, 0, none⟩) n c) n (ls.set i ⟨x, (gL ls i).t, (gL ls i).d⟩) ∧ w.grownBy (w.setCell ⟨g, i * 3, none⟩ (.int .i64 x)) (some g) :=
  h.set_ hi (j := 0) (by omega) (fun b hb => by match b, hb with | 0, _ => rfl | 1, _ => rfl | 2, _ => rfl)
theorem LOwn.setT (h : LOwn w base E (.slice (some ⟨g, 0, none⟩) n c) n ls) {i : Nat} (hi : i < n) (x : Int) :
    LOwn (w.setCell ⟨g, i * 3 + 1, none⟩ (.int .i64 x)) base E (.slice (some ⟨g, 0, none⟩) n c) n (ls.set i ⟨(gL ls i).f, x, (gL ls i).d⟩) ∧ w.grownBy (w.setCell ⟨g, i * 3 + 1, none⟩ (.int .i64 x)) (some g) :=
  h.set_ hi (by omega) (fun b hb => by match b, hb with | 0, _ => rfl | 1, _ => rfl | 2, _ => rfl)
theorem LOwn.setD (h : LOwn w base E (.slice (some ⟨g, 0, none⟩) n c) n ls) {i : Nat} (hi : i < n) (x : Int) :
    LOwn (w.setCell ⟨g, i * 3 + 2, none⟩ (.int .i64 x)) base E (.slice (some ⟨g, 0, none⟩) n c) n (ls.set i ⟨(gL ls i).f, (gL ls i).t, x⟩) ∧ w.grownBy (w.setCell ⟨g, i * 3 + 2, none⟩ (.int .i64 x)) (some g) :=
  h.set_ hi (by omega) (fun b hb => by match b, hb with | 0, _ => rfl | 1, _ => rfl | 2, _ => rfl)
/-- a whole link turned -/
theorem LOwn.set3 (h : LOwn w base E (.slice (some ⟨g, 0, none⟩) n c) n ls) {i : Nat} (hi : i < n) (l : Link) :
    LOwn (((w.setCell ⟨g, i * 3, none⟩ (.int .i64 l.f)).setCell ⟨g, i * 3 + 1, none⟩ (.int .i64 l.t)).setCell ⟨g, i * 3 + 2, none⟩ (.int .i64 l.d)) base E (.slice (some ⟨g, 0, none⟩) n c) n (ls.set i l) ∧
    w.grownBy (((w.setCell ⟨g, i * 3, none⟩ (.int .i64 l.f)).setCell ⟨g, i * 3 + 1, none⟩ (.int .i64 l.t)).setCell ⟨g, i * 3 + 2, none⟩ (.int .i64 l.d)) (some g) := by
  have hl := h.len
  have e : ∀ X : Link, gL (ls.set i X) i = X := fun X => by rw [gL_set (by omega), if_pos rfl]
  obtain ⟨a1, a2⟩ := h.setF hi l.f
  obtain ⟨b1, b2⟩ := a1.setT hi l.t
  rw [e, List.set_set] at b1
  obtain ⟨c1, c2⟩ := b1.setD hi l.d
  rw [e, List.set_set] at c1
  exact ⟨c1, (a2.trans b2).trans c2⟩
/-- one link more -/
theorem LOwn.snoc {xs : List Value} (hx : ∀ i j, i < n → j < 3 → xs[i * 3 + j]? = some (linkV ls i j)) (hl : ls.length = n) (hxl : xs.length = n * 3) {l : Link}
    (h : w.ownsRow base E 3 v (n + 1) (xs ++ [.int .i64 l.f, .int .i64 l.t, .int .i64 l.d])) : LOwn w base E v (n + 1) (ls ++ [l]) := by
  refine ⟨by simp [hl], (OwnR.snoc hx hxl (T := linkC l) (fun j hj => by match j, hj with | 0, _ => rfl | 1, _ => rfl | 2, _ => rfl) h).congr fun i j hi hj => ?_⟩
  unfold snocR linkV
  by_cases e : i = n
  · subst e
    rw [if_pos rfl]
    have : gL (ls ++ [l]) i = l := by unfold gL; rw [List.getElem?_append_right (by omega), hl, Nat.sub_self]; rfl
    rw [this]
  · rw [if_neg e]
    have : gL (ls ++ [l]) i = gL ls i := by unfold gL; rw [List.getElem?_append_left (by omega)]
    rw [this]
theorem gL_ext {xs ys : List Link} (hl : xs.length = ys.length) (h : ∀ i, i < xs.length → gL xs i = gL ys i) : xs = ys := by
  apply List.ext_getElem hl
  intro i h1 h2
  have := h i h1
  rwa [gL_lt h1, gL_lt h2] at this
end
end Go.Proofs.Ytnlnelfncejcfaa
