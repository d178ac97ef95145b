/- Slices of marks in memory. Small lemmas over any world, no program in sight. -/
import Derived.Test.YtdhpnjmnjckihaaStruct
import Derived.Test.YtdhpnjmnjckihaaMkPlain
namespace Go.Proofs.Ytdhpnjmnjckihaa
open Go.RowKit Mk

/-- a mark's two cells -/
def markC (l : Mrk) (j : Nat) : Value := match j with | 0 => .int .i64 l.p | _ => .int .i64 l.n
def markV (ls : List Mrk) (i j : Nat) : Value := markC (gM ls i) j
/-- a mark's numbers are ints of 64 bits -/
def InM (l : Mrk) : Prop := InI l.p ∧ InI l.n

/-- the slice '.slice A n c' reads as the marks ls in w, and lies below block B -/
structure MSl (w : World) (B : Nat) (A : Option Addr) (n c : Nat) (ls : List Mrk) : Prop where
  len : ls.length = n
  inI : ∀ l ∈ ls, InM l
  row : RSl w B 2 A n c (markV ls)
  few : n ≤ maxLen
/-- the slice value v of n marks is the call's own, and reads as ls -/
structure MOwn (w : World) (base : Nat) (E : TypeId) (v : Value) (n : Nat) (ls : List Mrk) : Prop where
  len : ls.length = n
  row : OwnR w base E 2 v n (markV ls)

section
variable {w w' : World} {B B' : Nat} {A : Option Addr} {n c : Nat} {ls : List Mrk} {base base' g : Nat} {E : TypeId} {v : Value}
theorem MSl.keep (h : MSl w B A n c ls) (hk : ∀ b off, b < B → w'.cell? ⟨b, off, none⟩ = w.cell? ⟨b, off, none⟩) : MSl w' B A n c ls := ⟨h.len, h.inI, h.row.keep hk, h.few⟩
theorem MSl.more (h : MSl w B A n c ls) (hB : B ≤ B') : MSl w B' A n c ls := ⟨h.len, h.inI, h.row.more hB, h.few⟩
theorem MSl.below (h : MSl w B A n c ls) (hb : Below B w w') : MSl w' B A n c ls := ⟨h.len, h.inI, h.row.below hb, h.few⟩
theorem MSl.drewN (h : MSl w B A n c ls) (k : Nat) : MSl (w.drewN k) B A n c ls := ⟨h.len, h.inI, h.row.drewN k, h.few⟩
theorem MSl.cap (h : MSl w B A n c ls) : n ≤ c := h.row.cap
theorem MSl.at_ (h : MSl w B A n c ls) {k : Nat} (hk : k < n) : ∃ b off, A = some ⟨b, off, none⟩ ∧ b < B ∧ k < ls.length ∧
    ∀ i, i < n → w.cell? ⟨b, off + i * 2, none⟩ = some (.int .i64 (gM ls i).p) ∧ w.cell? ⟨b, off + i * 2 + 1, none⟩ = some (.int .i64 (gM ls i).n) := by
  obtain ⟨b, off, e, hb, hc⟩ := h.row.at_ hk
  exact ⟨b, off, e, hb, by have := h.len; omega, fun i hi => ⟨hc i 0 hi (by omega), hc i 1 hi (by omega)⟩⟩
theorem MSl.inAt (h : MSl w B A n c ls) (i : Nat) : InM (gM ls i) := by
  by_cases hi : i < ls.length
  · exact h.inI _ (gM_mem hi)
  · unfold gM; rw [List.getElem?_eq_none (by omega)]; unfold InM InI; simp
theorem MSl.nil (w : World) (B : Nat) (A : Option Addr) (c : Nat) : MSl w B A 0 c [] := ⟨rfl, (fun _ h => by cases h), RSl.nil _ _ _ _ _ _, Nat.zero_le _⟩
theorem MSl.of_own (h : MOwn w base E (.slice A n c) n ls) (hi : ∀ l ∈ ls, InM l) : MSl w w.heap.size A n c ls := ⟨h.len, hi, RSl.of_own h.row, h.row.few⟩
theorem MSl.cut (h : MSl w B A n c ls) {k : Nat} (hk : k ≤ n) : MSl w B A k c (ls.take k) := by
  refine ⟨by have := h.len; simp; omega, fun l hl => h.inI l (List.mem_of_mem_take hl), (h.row.cut hk).congr fun i j hi _ => ?_, Nat.le_trans hk h.few⟩
  unfold markV
  have : gM (ls.take k) i = gM ls i := by simp [gM, hi]
  rw [this]

theorem MOwn.below (h : MOwn w base E v n ls) (hb : Below w.heap.size w w') : MOwn w' base E v n ls := ⟨h.len, h.row.below hb⟩
theorem MOwn.base_ (h : MOwn w base E v n ls) (hb : base' ≤ base) : MOwn w base' E v n ls := ⟨h.len, h.row.base_ hb⟩
theorem MOwn.keep (h : MOwn w base E v n ls) {g : Nat} (hg : w.grownBy w' (some g)) (hlt : g < base) : MOwn w' base E v n ls := ⟨h.len, h.row.keep hg hlt⟩
theorem MOwn.alloc (h : MOwn w base E v n ls) (o : Obj) : MOwn (w.alloc o) base E v n ls := ⟨h.len, h.row.alloc o⟩
theorem MOwn.drewN (h : MOwn w base E v n ls) (k : Nat) : MOwn (w.drewN k) base E v n ls := ⟨h.len, h.row.drewN k⟩
theorem MOwn.form (h : MOwn w base E v n ls) : ∃ A c, v = .slice A n c := h.row.form
theorem MOwn.at_ (h : MOwn w base E (.slice A n c) n ls) (hn : 0 < n) : ∃ g, A = some ⟨g, 0, none⟩ ∧ base ≤ g ∧ g < w.heap.size := h.row.at_ hn
theorem MOwn.lit0 (w : World) (E : TypeId) : MOwn (w.alloc (.cells #[] E)) w.heap.size E (.slice (some ⟨w.heap.size, 0, none⟩) 0 0) 0 [] := ⟨rfl, OwnR.lit0 w E 2 _⟩
theorem MOwn.cells (h : MOwn w base E (.slice (some ⟨g, 0, none⟩) n c) n ls) {i : Nat} (hi : i < n) :
    w.cell? ⟨g, i * 2, none⟩ = some (.int .i64 (gM ls i).p) ∧ w.cell? ⟨g, i * 2 + 1, none⟩ = some (.int .i64 (gM ls i).n) :=
  ⟨h.row.cell hi (show 0 < 2 by omega), h.row.cell hi (show 1 < 2 by omega)⟩
theorem MOwn.frozen (h : MOwn w base E (.slice (some ⟨g, 0, none⟩) n c) n ls) (j : Nat) : w.frozen? ⟨g, j, none⟩ = false := h.row.frozen j
theorem MOwn.mark (h : MOwn w base E v n ls) (hb : base ≤ w.heap.size) (hg : w.grownBy w' v.ownBlock) : Below base w w' := h.row.mark hb hg
theorem gM_set {ls : List Mrk} {i j : Nat} {l : Mrk} (h : i < ls.length) : gM (ls.set i l) j = if j = i then l else gM ls j := by
  unfold gM
  rw [List.getElem?_set]
  by_cases e : i = j
  · subst e; simp [h]
  · rw [if_neg e, if_neg (fun h => e h.symm)]
/-- one field turned -/
theorem MOwn.set_ (h : MOwn w base E (.slice (some ⟨g, 0, none⟩) n c) n ls) {i j : Nat} (hi : i < n) (hj : j < 2) {u : Value} {l : Mrk} (hl : ∀ b, b < 2 → markC l b = if b = j then u else markC (gM ls i) b) :
    MOwn (w.setCell ⟨g, i * 2 + j, none⟩ u) base E (.slice (some ⟨g, 0, none⟩) n c) n (ls.set i l) ∧ w.grownBy (w.setCell ⟨g, i * 2 + j, none⟩ u) (some g) := by
  obtain ⟨h1, h2⟩ := h.row.set_ hi hj u
  refine ⟨⟨by simp [h.len], h1.congr fun a b ha hb => ?_⟩, h2⟩
  unfold setR markV
  rw [gM_set (by rw [h.len]; exact hi)]
  by_cases e : a = i
  · subst e
    rw [if_pos rfl, hl b hb]
    by_cases e2 : b = j
    · rw [if_pos ⟨rfl, e2⟩, if_pos e2]
    · rw [if_neg (fun h => e2 h.2), if_neg e2]
  · rw [if_neg (fun h => e h.1), if_neg e]
theorem MOwn.setP (h : MOwn w base E (.slice (some ⟨g, 0, none⟩) n c) n ls) {i : Nat} (hi : i < n) (x : Int) :
    MOwn (w.setCell ⟨g, i * 2, none⟩ (.int .i64 x)) base E (.slice (some ⟨g, 0, none⟩) n c) n (ls.set i ⟨x, (gM ls i).n⟩) ∧ w.grownBy (w.setCell ⟨g, i * 2, none⟩ (.int .i64 x)) (some g) :=
  h.set_ hi (j := 0) (by omega) (fun b hb => by match b, hb with | 0, _ => rfl | 1, _ => rfl)
theorem MOwn.setN (h : MOwn w base E (.slice (some ⟨g, 0, none⟩) n c) n ls) {i : Nat} (hi : i < n) (x : Int) :
    MOwn (w.setCell ⟨g, i * 2 + 1, none⟩ (.int .i64 x)) base E (.slice (some ⟨g, 0, none⟩) n c) n (ls.set i ⟨(gM ls i).p, x⟩) ∧ w.grownBy (w.setCell ⟨g, i * 2 + 1, none⟩ (.int .i64 x)) (some g) :=
  h.set_ hi (by omega) (fun b hb => by match b, hb with | 0, _ => rfl | 1, _ => rfl)
/-- a whole mark turned -/
theorem MOwn.set2 (h : MOwn w base E (.slice (some ⟨g, 0, none⟩) n c) n ls) {i : Nat} (hi : i < n) (l : Mrk) :
    MOwn ((w.setCell ⟨g, i * 2, none⟩ (.int .i64 l.p)).setCell ⟨g, i * 2 + 1, none⟩ (.int .i64 l.n)) base E (.slice (some ⟨g, 0, none⟩) n c) n (ls.set i l) ∧
    w.grownBy ((w.setCell ⟨g, i * 2, none⟩ (.int .i64 l.p)).setCell ⟨g, i * 2 + 1, none⟩ (.int .i64 l.n)) (some g) := by
  have hl := h.len
  have e : ∀ X : Mrk, gM (ls.set i X) i = X := fun X => by rw [gM_set (by omega), if_pos rfl]
  obtain ⟨a1, a2⟩ := h.setP hi l.p
  obtain ⟨b1, b2⟩ := a1.setN hi l.n
  rw [e, List.set_set] at b1
  exact ⟨b1, a2.trans b2⟩
/-- one mark more -/
theorem MOwn.snoc {xs : List Value} (hx : ∀ i j, i < n → j < 2 → xs[i * 2 + j]? = some (markV ls i j)) (hl : ls.length = n) (hxl : xs.length = n * 2) {l : Mrk}
    (h : w.ownsRow base E 2 v (n + 1) (xs ++ [.int .i64 l.p, .int .i64 l.n])) : MOwn w base E v (n + 1) (ls ++ [l]) := by
  refine ⟨by simp [hl], (OwnR.snoc hx hxl (T := markC l) (fun j hj => by match j, hj with | 0, _ => rfl | 1, _ => rfl) h).congr fun i j hi hj => ?_⟩
  unfold snocR markV
  by_cases e : i = n
  · subst e
    rw [if_pos rfl]
    have : gM (ls ++ [l]) i = l := by unfold gM; rw [List.getElem?_append_right (by omega), hl, Nat.sub_self]; rfl
    rw [this]
  · rw [if_neg e]
    have : gM (ls ++ [l]) i = gM ls i := by unfold gM; rw [List.getElem?_append_left (by omega)]
    rw [this]
/-- marks more, all at once -/
theorem MOwn.more {xs ys : List Value} {m : Nat} {ms : List Mrk} (hx : ∀ i j, i < n → j < 2 → xs[i * 2 + j]? = some (markV ls i j)) (hy : ∀ i j, i < m → j < 2 → ys[i * 2 + j]? = some (markV ms i j)) (hl : ls.length = n) (hm : ms.length = m) (hxl : xs.length = n * 2)
    (h : w.ownsRow base E 2 v (n + m) (xs ++ ys)) : MOwn w base E v (n + m) (ls ++ ms) := by
  refine ⟨by simp [hl, hm], _, h, fun i j hi hj => ?_⟩
  unfold markV
  by_cases e : i < n
  · have hlt : i * 2 + j < n * 2 := by omega
    have : gM (ls ++ ms) i = gM ls i := by unfold gM; rw [List.getElem?_append_left (by omega)]
    rw [List.getElem?_append_left (by omega), this]; exact hx i j e hj
  · have : gM (ls ++ ms) i = gM ms (i - n) := by unfold gM; rw [List.getElem?_append_right (by omega), hl]
    rw [List.getElem?_append_right (by omega), hxl, this, show i * 2 + j - n * 2 = (i - n) * 2 + j by omega]; exact hy (i - n) j (by omega) hj
end
end Go.Proofs.Ytdhpnjmnjckihaa
