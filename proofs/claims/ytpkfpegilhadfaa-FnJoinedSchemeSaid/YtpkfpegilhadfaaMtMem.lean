/- Slices of nodes in memory. Small lemmas over any world, no program in sight. -/
import Derived.Test.YtpkfpegilhadfaaStruct
import Derived.Test.YtpkfpegilhadfaaMtPlain
namespace Go.Proofs.Ytpkfpegilhadfaa
open Go.RowKit Mt

/-- a node's three cells -/
def nodeC (l : Nd) (j : Nat) : Value := match j with | 0 => .int .i64 l.e | 1 => .int .i64 l.j | _ => .bool l.o
def nodeV (ls : List Nd) (i j : Nat) : Value := nodeC (gN ls i) j
/-- a node's numbers are ints of 64 bits -/
def InN (l : Nd) : Prop := InI l.e ∧ InI l.j

/-- the slice '.slice A n c' reads as the nodes ls in w, and lies below block B -/
structure NSl (w : World) (B : Nat) (A : Option Addr) (n c : Nat) (ls : List Nd) : Prop where
  len : ls.length = n
  inI : ∀ l ∈ ls, InN l
  row : RSl w B 3 A n c (nodeV ls)
  few : n ≤ maxLen
/-- the slice value v of n nodes is the call's own, and reads as ls -/
structure NOwn (w : World) (base : Nat) (E : TypeId) (v : Value) (n : Nat) (ls : List Nd) : Prop where
  len : ls.length = n
  row : OwnR w base E 3 v n (nodeV ls)

section
variable {w w' : World} {B B' : Nat} {A : Option Addr} {n c : Nat} {ls : List Nd} {base base' g : Nat} {E : TypeId} {v : Value}
theorem NSl.keep (h : NSl w B A n c ls) (hk : ∀ b off, b < B → w'.cell? ⟨b, off, none⟩ = w.cell? ⟨b, off, none⟩) : NSl w' B A n c ls := ⟨h.len, h.inI, h.row.keep hk, h.few⟩
theorem NSl.more (h : NSl w B A n c ls) (hB : B ≤ B') : NSl w B' A n c ls := ⟨h.len, h.inI, h.row.more hB, h.few⟩
theorem NSl.below (h : NSl w B A n c ls) (hb : Below B w w') : NSl w' B A n c ls := ⟨h.len, h.inI, h.row.below hb, h.few⟩
theorem NSl.drewN (h : NSl w B A n c ls) (k : Nat) : NSl (w.drewN k) B A n c ls := ⟨h.len, h.inI, h.row.drewN k, h.few⟩
theorem NSl.cap (h : NSl w B A n c ls) : n ≤ c := h.row.cap
theorem NSl.at_ (h : NSl w B A n c ls) {k : Nat} (hk : k < n) : ∃ b off, A = some ⟨b, off, none⟩ ∧ b < B ∧ k < ls.length ∧
    ∀ i, i < n → w.cell? ⟨b, off + i * 3, none⟩ = some (.int .i64 (gN ls i).e) ∧ w.cell? ⟨b, off + i * 3 + 1, none⟩ = some (.int .i64 (gN ls i).j) ∧ w.cell? ⟨b, off + i * 3 + 2, none⟩ = some (.bool (gN ls i).o) := by
  obtain ⟨b, off, e, hb, hc⟩ := h.row.at_ hk
  exact ⟨b, off, e, hb, by have := h.len; omega, fun i hi => ⟨hc i 0 hi (by omega), hc i 1 hi (by omega), hc i 2 hi (by omega)⟩⟩
theorem NSl.inAt (h : NSl w B A n c ls) (i : Nat) : InN (gN ls i) := by
  by_cases hi : i < ls.length
  · exact h.inI _ (gN_mem hi)
  · unfold gN; rw [List.getElem?_eq_none (by omega)]; unfold InN InI; simp
theorem NSl.nil (w : World) (B : Nat) (A : Option Addr) (c : Nat) : NSl w B A 0 c [] := ⟨rfl, (fun _ h => by cases h), RSl.nil _ _ _ _ _ _, Nat.zero_le _⟩
theorem NSl.of_own (h : NOwn w base E (.slice A n c) n ls) (hi : ∀ l ∈ ls, InN l) : NSl w w.heap.size A n c ls := ⟨h.len, hi, RSl.of_own h.row, h.row.few⟩
theorem NSl.cut (h : NSl w B A n c ls) {k : Nat} (hk : k ≤ n) : NSl w B A k c (ls.take k) := by
  refine ⟨by have := h.len; simp; omega, fun l hl => h.inI l (List.mem_of_mem_take hl), (h.row.cut hk).congr fun i j hi _ => ?_, Nat.le_trans hk h.few⟩
  unfold nodeV
  have : gN (ls.take k) i = gN ls i := by simp [gN, hi]
  rw [this]

theorem NOwn.below (h : NOwn w base E v n ls) (hb : Below w.heap.size w w') : NOwn w' base E v n ls := ⟨h.len, h.row.below hb⟩
theorem NOwn.base_ (h : NOwn w base E v n ls) (hb : base' ≤ base) : NOwn w base' E v n ls := ⟨h.len, h.row.base_ hb⟩
theorem NOwn.keep (h : NOwn w base E v n ls) {g : Nat} (hg : w.grownBy w' (some g)) (hlt : g < base) : NOwn w' base E v n ls := ⟨h.len, h.row.keep hg hlt⟩
theorem NOwn.alloc (h : NOwn w base E v n ls) (o : Obj) : NOwn (w.alloc o) base E v n ls := ⟨h.len, h.row.alloc o⟩
theorem NOwn.drewN (h : NOwn w base E v n ls) (k : Nat) : NOwn (w.drewN k) base E v n ls := ⟨h.len, h.row.drewN k⟩
theorem NOwn.form (h : NOwn w base E v n ls) : ∃ A c, v = .slice A n c := h.row.form
theorem NOwn.at_ (h : NOwn w base E (.slice A n c) n ls) (hn : 0 < n) : ∃ g, A = some ⟨g, 0, none⟩ ∧ base ≤ g ∧ g < w.heap.size := h.row.at_ hn
theorem NOwn.lit0 (w : World) (E : TypeId) : NOwn (w.alloc (.cells #[] E)) w.heap.size E (.slice (some ⟨w.heap.size, 0, none⟩) 0 0) 0 [] := ⟨rfl, OwnR.lit0 w E 3 _⟩
theorem NOwn.cells (h : NOwn w base E (.slice (some ⟨g, 0, none⟩) n c) n ls) {i : Nat} (hi : i < n) :
    w.cell? ⟨g, i * 3, none⟩ = some (.int .i64 (gN ls i).e) ∧ w.cell? ⟨g, i * 3 + 1, none⟩ = some (.int .i64 (gN ls i).j) ∧ w.cell? ⟨g, i * 3 + 2, none⟩ = some (.bool (gN ls i).o) :=
  ⟨h.row.cell hi (show 0 < 3 by omega), h.row.cell hi (show 1 < 3 by omega), h.row.cell hi (show 2 < 3 by omega)⟩
theorem NOwn.frozen (h : NOwn w base E (.slice (some ⟨g, 0, none⟩) n c) n ls) (j : Nat) : w.frozen? ⟨g, j, none⟩ = false := h.row.frozen j
theorem NOwn.mark (h : NOwn w base E v n ls) (hb : base ≤ w.heap.size) (hg : w.grownBy w' v.ownBlock) : Below base w w' := h.row.mark hb hg
theorem gN_set {ls : List Nd} {i j : Nat} {l : Nd} (h : i < ls.length) : gN (ls.set i l) j = if j = i then l else gN ls j := by
  unfold gN
  rw [List.getElem?_set]
  by_cases e : i = j
  · subst e; simp [h]
  · rw [if_neg e, if_neg (fun h => e h.symm)]
/-- one field turned -/
theorem NOwn.set_ (h : NOwn w base E (.slice (some ⟨g, 0, none⟩) n c) n ls) {i j : Nat} (hi : i < n) (hj : j < 3) {u : Value} {l : Nd} (hl : ∀ b, b < 3 → nodeC l b = if b = j then u else nodeC (gN ls i) b) :
    NOwn (w.setCell ⟨g, i * 3 + j, none⟩ u) base E (.slice (some ⟨g, 0, none⟩) n c) n (ls.set i l) ∧ w.grownBy (w.setCell ⟨g, i * 3 + j, none⟩ u) (some g) := by
  obtain ⟨h1, h2⟩ := h.row.set_ hi hj u
  refine ⟨⟨by simp [h.len], h1.congr fun a b ha hb => ?_⟩, h2⟩
  unfold setR nodeV
  rw [gN_set (by rw [h.len]; exact hi)]
  by_cases e : a = i
  · subst e
    rw [if_pos rfl, hl b hb]
    by_cases e2 : b = j
    · rw [if_pos ⟨rfl, e2⟩, if_pos e2]
    · rw [if_neg (fun h => e2 h.2), if_neg e2]
  · rw [if_neg (fun h => e h.1), if_neg e]
theorem NOwn.setE (h : NOwn w base E (.slice (some ⟨g, 0, none⟩) n c) n ls) {i : Nat} (hi : i < n) (x : Int) :
    NOwn (w.setCell ⟨g, i * 3, none⟩ (.int .i64 x)) base E (.slice (some ⟨g, 0, none⟩) n c) n (ls.set i ⟨x, (gN ls i).j, (gN ls i).o⟩) ∧ w.grownBy (w.setCell ⟨g, i * 3, none⟩ (.int .i64 x)) (some g) :=
  h.set_ hi (j := 0) (by omega) (fun b hb => by match b, hb with | 0, _ => rfl | 1, _ => rfl | 2, _ => rfl)
theorem NOwn.setJ (h : NOwn w base E (.slice (some ⟨g, 0, none⟩) n c) n ls) {i : Nat} (hi : i < n) (x : Int) :
    NOwn (w.setCell ⟨g, i * 3 + 1, none⟩ (.int .i64 x)) base E (.slice (some ⟨g, 0, none⟩) n c) n (ls.set i ⟨(gN ls i).e, x, (gN ls i).o⟩) ∧ w.grownBy (w.setCell ⟨g, i * 3 + 1, none⟩ (.int .i64 x)) (some g) :=
  h.set_ hi (by omega) (fun b hb => by match b, hb with | 0, _ => rfl | 1, _ => rfl | 2, _ => rfl)
theorem NOwn.setO (h : NOwn w base E (.slice (some ⟨g, 0, none⟩) n c) n ls) {i : Nat} (hi : i < n) (x : Bool) :
    NOwn (w.setCell ⟨g, i * 3 + 2, none⟩ (.bool x)) base E (.slice (some ⟨g, 0, none⟩) n c) n (ls.set i ⟨(gN ls i).e, (gN ls i).j, x⟩) ∧ w.grownBy (w.setCell ⟨g, i * 3 + 2, none⟩ (.bool x)) (some g) :=
  h.set_ hi (by omega) (fun b hb => by match b, hb with | 0, _ => rfl | 1, _ => rfl | 2, _ => rfl)
/-- a whole node turned -/
theorem NOwn.set3 (h : NOwn w base E (.slice (some ⟨g, 0, none⟩) n c) n ls) {i : Nat} (hi : i < n) (l : Nd) :
    NOwn (((w.setCell ⟨g, i * 3, none⟩ (.int .i64 l.e)).setCell ⟨g, i * 3 + 1, none⟩ (.int .i64 l.j)).setCell ⟨g, i * 3 + 2, none⟩ (.bool l.o)) base E (.slice (some ⟨g, 0, none⟩) n c) n (ls.set i l) ∧
    w.grownBy (((w.setCell ⟨g, i * 3, none⟩ (.int .i64 l.e)).setCell ⟨g, i * 3 + 1, none⟩ (.int .i64 l.j)).setCell ⟨g, i * 3 + 2, none⟩ (.bool l.o)) (some g) := by
  have hl := h.len
  have e : ∀ X : Nd, gN (ls.set i X) i = X := fun X => by rw [gN_set (by omega), if_pos rfl]
  obtain ⟨a1, a2⟩ := h.setE hi l.e
  obtain ⟨b1, b2⟩ := a1.setJ hi l.j
  rw [e, List.set_set] at b1
  obtain ⟨c1, c2⟩ := b1.setO hi l.o
  rw [e, List.set_set] at c1
  exact ⟨c1, (a2.trans b2).trans c2⟩
/-- one node more -/
theorem NOwn.snoc {xs : List Value} (hx : ∀ i j, i < n → j < 3 → xs[i * 3 + j]? = some (nodeV ls i j)) (hl : ls.length = n) (hxl : xs.length = n * 3) {l : Nd}
    (h : w.ownsRow base E 3 v (n + 1) (xs ++ [.int .i64 l.e, .int .i64 l.j, .bool l.o])) : NOwn w base E v (n + 1) (ls ++ [l]) := by
  refine ⟨by simp [hl], (OwnR.snoc hx hxl (T := nodeC l) (fun j hj => by match j, hj with | 0, _ => rfl | 1, _ => rfl | 2, _ => rfl) h).congr fun i j hi hj => ?_⟩
  unfold snocR nodeV
  by_cases e : i = n
  · subst e
    rw [if_pos rfl]
    have : gN (ls ++ [l]) i = l := by unfold gN; rw [List.getElem?_append_right (by omega), hl, Nat.sub_self]; rfl
    rw [this]
  · rw [if_neg e]
    have : gN (ls ++ [l]) i = gN ls i := by unfold gN; rw [List.getElem?_append_left (by omega)]
    rw [this]
theorem gN_ext {xs ys : List Nd} (hl : xs.length = ys.length) (h : ∀ i, i < xs.length → gN xs i = gN ys i) : xs = ys := by
  apply List.ext_getElem hl
  intro i h1 h2
  have := h i h1
  rwa [gN_lt h1, gN_lt h2] at this
end
end Go.Proofs.Ytpkfpegilhadfaa
