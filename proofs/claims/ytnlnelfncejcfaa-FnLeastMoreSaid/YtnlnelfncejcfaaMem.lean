/- Slices of integers in memory: what can be read of them, and that it is kept. Small lemmas over any world, no program in sight. -/
import Derived.Test.YtnlnelfncejcfaaPlain
import Derived.WalkKit
import Derived.WalkSpells
import Derived.WalkLawsBesides
import Derived.Handy
import Derived.Laws.OwnMore
import Derived.Deep.Draws
import Derived.Lib.Hide
namespace Go.Proofs.Ytnlnelfncejcfaa
open Go.RowKit

/-- an int of 64 bits -/
def InI (z : Int) : Prop := -9223372036854775808 ≤ z ∧ z ≤ 9223372036854775807

/-- the slice of integers '.slice A n c' reads as zs in w, and lies below block B -/
structure ISl (w : World) (B : Nat) (A : Option Addr) (n c : Nat) (zs : List Int) : Prop where
  len : zs.length = n
  cap : n ≤ c
  inI : ∀ z ∈ zs, InI z
  mem : 0 < n → ∃ b off, A = some ⟨b, off, none⟩ ∧ b < B ∧ ∀ i, i < n → w.cell? ⟨b, off + i, none⟩ = some (.int .i64 (gI zs i))

section
variable {w w' : World} {B B' : Nat} {A : Option Addr} {n c : Nat} {zs : List Int}

theorem ISl.keep (h : ISl w B A n c zs) (hk : ∀ b off, b < B → w'.cell? ⟨b, off, none⟩ = w.cell? ⟨b, off, none⟩) : ISl w' B A n c zs :=
  ⟨h.len, h.cap, h.inI, fun hn => by
    obtain ⟨b, off, e, hb, hc⟩ := h.mem hn
    exact ⟨b, off, e, hb, fun i hi => (hk _ _ hb).trans (hc i hi)⟩⟩
theorem ISl.more (h : ISl w B A n c zs) (hB : B ≤ B') : ISl w B' A n c zs :=
  ⟨h.len, h.cap, h.inI, fun hn => by
    obtain ⟨b, off, e, hb, hc⟩ := h.mem hn
    exact ⟨b, off, e, by omega, hc⟩⟩
theorem ISl.below (h : ISl w B A n c zs) (hb : Below B w w') : ISl w' B A n c zs := h.keep fun b off hp => hb.cell (p := ⟨b, off, none⟩) hp
theorem ISl.drew (h : ISl w B A n c zs) : ISl w.drew B A n c zs := h.keep fun _ _ _ => rfl
theorem ISl.drewN (h : ISl w B A n c zs) (k : Nat) : ISl (w.drewN k) B A n c zs := h.keep fun _ _ _ => rfl
theorem ISl.alloc (h : ISl w B A n c zs) (hB : B ≤ w.heap.size) (o : Obj) : ISl (w.alloc o) B A n c zs := h.below ((Below.refl _ _).alloc hB o)
theorem ISl.grown (h : ISl w B A n c zs) {row : Option Nat} (hg : w.grownBy w' row) (hB : B ≤ w.heap.size) (hr : ∀ g, row = some g → B ≤ g) : ISl w' B A n c zs :=
  h.below ((Below.refl _ _).grown hg hB hr)
theorem ISl.at_ (h : ISl w B A n c zs) {k : Nat} (hk : k < n) : ∃ b off, A = some ⟨b, off, none⟩ ∧ b < B ∧ k < zs.length ∧ ∀ i, i < n → w.cell? ⟨b, off + i, none⟩ = some (.int .i64 (gI zs i)) := by
  obtain ⟨b, off, e, hb, hc⟩ := h.mem (by omega)
  exact ⟨b, off, e, hb, by have := h.len; omega, hc⟩
theorem ISl.nil (w : World) (B : Nat) (A : Option Addr) (c : Nat) : ISl w B A 0 c [] := ⟨rfl, Nat.zero_le _, by simp, fun h => absurd h (by omega)⟩
theorem ISl.inAt (h : ISl w B A n c zs) (i : Nat) : -9223372036854775808 ≤ gI zs i ∧ gI zs i ≤ 9223372036854775807 := by
  by_cases hi : i < zs.length
  · have := h.inI zs[i] (List.getElem_mem hi)
    rw [gI_lt hi]; exact this
  · rw [gI_ge (by omega)]; omega

/-- what the call itself made reads as what it owns -/
theorem ISl.of_own {base : Nat} {e : TypeId} (h : w.ownsRow base e 1 (.slice A n c) n (zs.map (Value.int .i64))) (hi : ∀ z ∈ zs, InI z) : ISl w w.heap.size A n c zs := by
  have hl : zs.length = n := by have := h.1; simpa using this
  refine ⟨hl, ?_, hi, fun hn => ?_⟩
  · rcases h.2 with ⟨e, rfl⟩ | ⟨g, cap, cur, e, _, _, hc, _⟩
    · omega
    · injection e with e1 e2 e3; omega
  · rcases h.2 with ⟨_, rfl⟩ | ⟨g, cap, cur, e, hb, hh, hc, _⟩
    · omega
    · injection e with e1 e2 e3
      subst e1
      refine ⟨g, 0, rfl, (h.lt g rfl).2, fun i hi => ?_⟩
      have := h.cells (g := g) rfl i (.int .i64 (zs[i]'(by omega))) (by simp [show i < zs.length by omega])
      rw [Nat.zero_add]
      have ea : (⟨g, 0, none⟩ : Addr).add i = ⟨g, i, none⟩ := by unfold Addr.add; split <;> simp_all
      rw [ea] at this
      rw [gI_lt (by omega)]; exact this

/-- an owned slice has a slice's shape -/
theorem own_form {base : Nat} {e : TypeId} {size : Nat} {v : Value} {xs : List Value} (h : w.ownsRow base e size v n xs) : ∃ A c, v = .slice A n c := by
  rcases h.2 with ⟨rfl, rfl⟩ | ⟨g, cap, cur, rfl, _⟩
  · exact ⟨_, _, rfl⟩
  · exact ⟨_, _, rfl⟩

/-- where an owned slice that is not empty lies -/
theorem own_at {base : Nat} {e : TypeId} {size : Nat} {xs : List Value} (h : w.ownsRow base e size (.slice A n c) n xs) (hn : 0 < n) : ∃ g, A = some ⟨g, 0, none⟩ ∧ base ≤ g ∧ g < w.heap.size := by
  rcases h.2 with ⟨_, rfl⟩ | ⟨g, cap, cur, e, hb, hh, hc, _⟩
  · omega
  · injection e with e1 e2 e3
    subst e1
    exact ⟨g, rfl, hb, (h.lt g rfl).2⟩

theorem cell_lt {p : Addr} {u : Value} (h : w.cell? p = some u) : p.block < w.heap.size := by
  rcases Nat.lt_or_ge p.block w.heap.size with hlt | hge
  · exact hlt
  · simp [World.cell?, Array.getElem?_eq_none hge] at h

theorem ISl.of_open {x : Addr} {l : Nat} (hl : l ≤ c) (hz : zs.length = c) (hcell : ∀ i, i < zs.length → w.cell? (x.add i) = some (.int .i64 (zs.getD i 0))) (hwz : ∀ n ∈ zs, (Lit.int .i64 n).wf = true) :
    ISl w w.heap.size (some x) l c (zs.take l) := by
  refine ⟨by simp; omega, hl, fun z hz' => ?_, fun hn => ?_⟩
  · have := hwz z (List.mem_of_mem_take hz')
    simp only [Lit.wf, Bool.and_eq_true, decide_eq_true_eq] at this
    exact this
  · obtain ⟨b, off, spot⟩ := x
    have h0 := hcell 0 (by omega)
    have hs : spot = none := by simpa [Addr.add] using World.cell?_spot h0
    subst hs
    refine ⟨b, off, rfl, by simpa [Addr.add] using cell_lt h0, fun i hi => ?_⟩
    have := hcell i (by omega)
    have ea : (⟨b, off, none⟩ : Addr).add i = ⟨b, off + i, none⟩ := by unfold Addr.add; split <;> simp_all
    rw [ea] at this
    rw [gI_take hi, this]
    simp [gI]

theorem ini_of_wf {a : Int} (h : (Lit.int .i64 a).wf = true) : InI a := by
  simp only [Lit.wf, Bool.and_eq_true, decide_eq_true_eq] at h
  exact h

theorem below_drewN {a : World} (h : Below B a w) (n : Nat) : Below B a (w.drewN n) := ⟨h.os, h.tape, h.output, h.size, h.block⟩

theorem own_below {base : Nat} {e : TypeId} {size : Nat} {v : Value} {xs : List Value} (h : w.ownsRow base e size v n xs) (hb : Below w.heap.size w w') : w'.ownsRow base e size v n xs := by
  refine ⟨h.1, ?_⟩
  rcases h.2 with ⟨rfl, rfl⟩ | ⟨g, cap, cur, rfl, hbg, hh, r⟩
  · exact .inl ⟨rfl, rfl⟩
  · refine .inr ⟨g, cap, cur, rfl, hbg, ?_, r⟩
    rw [hb.block g ((h.lt g rfl).2)]; exact hh

theorem own_base {base base' : Nat} {e : TypeId} {size : Nat} {v : Value} {xs : List Value} (h : w.ownsRow base e size v n xs) (hb : base' ≤ base) : w.ownsRow base' e size v n xs := by
  refine ⟨h.1, ?_⟩
  rcases h.2 with ⟨rfl, rfl⟩ | ⟨g, cap, cur, rfl, hbg, r⟩
  · exact .inl ⟨rfl, rfl⟩
  · exact .inr ⟨g, cap, cur, rfl, by omega, r⟩
end

/-- the slice of bytes '.slice A n c' reads as bs in w, and lies below block B -/
structure BSl (w : World) (B : Nat) (A : Option Addr) (n c : Nat) (bs : List Int) : Prop where
  len : bs.length = n
  cap : n ≤ c
  inB : ∀ i, 0 ≤ gI bs i ∧ gI bs i ≤ 255
  mem : 0 < n → ∃ b off, A = some ⟨b, off, none⟩ ∧ b < B ∧ ∀ i, i < n → w.cell? ⟨b, off + i, none⟩ = some (.int .u8 (gI bs i))

section
variable {w w' : World} {B B' : Nat} {A : Option Addr} {n c : Nat} {zs : List Int}
theorem BSl.keep (h : BSl w B A n c zs) (hk : ∀ b off, b < B → w'.cell? ⟨b, off, none⟩ = w.cell? ⟨b, off, none⟩) : BSl w' B A n c zs :=
  ⟨h.len, h.cap, h.inB, fun hn => by
    obtain ⟨b, off, e, hb, hc⟩ := h.mem hn
    exact ⟨b, off, e, hb, fun i hi => (hk _ _ hb).trans (hc i hi)⟩⟩
theorem BSl.more (h : BSl w B A n c zs) (hB : B ≤ B') : BSl w B' A n c zs :=
  ⟨h.len, h.cap, h.inB, fun hn => by
    obtain ⟨b, off, e, hb, hc⟩ := h.mem hn
    exact ⟨b, off, e, by omega, hc⟩⟩
theorem BSl.below (h : BSl w B A n c zs) (hb : Below B w w') : BSl w' B A n c zs := h.keep fun b off hp => hb.cell (p := ⟨b, off, none⟩) hp
theorem BSl.at_ (h : BSl w B A n c zs) {k : Nat} (hk : k < n) : ∃ b off, A = some ⟨b, off, none⟩ ∧ b < B ∧ k < zs.length ∧ ∀ i, i < n → w.cell? ⟨b, off + i, none⟩ = some (.int .u8 (gI zs i)) := by
  obtain ⟨b, off, e, hb, hc⟩ := h.mem (by omega)
  exact ⟨b, off, e, hb, by have := h.len; omega, hc⟩
theorem BSl.nil (w : World) (B : Nat) (A : Option Addr) (c : Nat) : BSl w B A 0 c [] := ⟨rfl, Nat.zero_le _, fun i => by simp [gI], fun h => absurd h (by omega)⟩
theorem BSl.of_open {x : Addr} {l : Nat} (hl : l ≤ c) (hz : zs.length = c) (hcell : ∀ i, i < zs.length → w.cell? (x.add i) = some (.int .u8 (zs.getD i 0))) (hwz : ∀ n ∈ zs, (Lit.int .u8 n).wf = true) :
    BSl w w.heap.size (some x) l c (zs.take l) := by
  refine ⟨by simp; omega, hl, fun i => ?_, fun hn => ?_⟩
  · by_cases hi : i < (zs.take l).length
    · have := hwz _ (List.mem_of_mem_take (gI_mem hi))
      simp only [Lit.wf, Bool.and_eq_true, decide_eq_true_eq] at this
      exact this
    · rw [gI_ge (by omega)]; omega
  · obtain ⟨b, off, spot⟩ := x
    have h0 := hcell 0 (by omega)
    have hs : spot = none := by simpa [Addr.add] using World.cell?_spot h0
    subst hs
    refine ⟨b, off, rfl, by simpa [Addr.add] using cell_lt h0, fun i hi => ?_⟩
    have := hcell i (by omega)
    have ea : (⟨b, off, none⟩ : Addr).add i = ⟨b, off + i, none⟩ := by unfold Addr.add; split <;> simp_all
    rw [ea] at this
    rw [gI_take hi, this]
    simp [gI]
end

/-! keeping what is known, from call to call -/
section
variable {w w' wb wx : World} {n n' : Nat} {base base' size size' : Nat} {e e' : TypeId} {v v' : Value} {xs xs' : List Value}
theorem Below.step {a b : World} (h : Below w.heap.size w a) (k : Below a.heap.size a b) : Below w.heap.size w b := h.trans (k.mono h.size)
/-- a write into a row of the call's own, seen from below -/
theorem below_mark (hx : w.ownsRow base e size v n xs) (hb : base ≤ w.heap.size) (hg : w.grownBy w' v.ownBlock) : Below base w w' :=
  (Below.refl _ _).grown hg hb (fun k hk => (hx.lt k hk).1)
/-- a row that lies below the one that is written -/
theorem own_far1 {base2 size2 n2 : Nat} {e2 : TypeId} {xs2 : List Value} (h : w.ownsRow base e size v n xs) (hv : wb.ownsRow base2 e2 size2 v n2 xs2) (hx : w.ownsRow base' e' size' v' n' xs') (hle : wb.heap.size ≤ base') (hg : w.grownBy w' v'.ownBlock) : w'.ownsRow base e size v n xs := by
  refine h.kept hg ?_
  cases ev : v.ownBlock with
  | none => exact .inl rfl
  | some k =>
    refine .inr fun he => ?_
    have h1 := (hv.lt k ev).2
    have h2 := (hx.lt k he.symm).1
    omega
/-- a row that lies above the one that is written -/
theorem own_far2 (h : w.ownsRow base e size v n xs) (hx : wx.ownsRow base' e' size' v' n' xs') (hle : wx.heap.size ≤ base) (hg : w.grownBy w' v'.ownBlock) : w'.ownsRow base e size v n xs := by
  refine h.kept hg ?_
  cases ev : v.ownBlock with
  | none => exact .inl rfl
  | some k =>
    refine .inr fun he => ?_
    have h1 := (h.lt k ev).1
    have h2 := (hx.lt k he.symm).2
    omega
end

/-! a reader's block g is written, and rows of the call's own -/
section
variable {w a b : World} {n g : Nat} {base size : Nat} {e : TypeId} {v : Value} {xs : List Value}
theorem own_keep (h : a.ownsRow base e size v n xs) (hg : a.grownBy b (some g)) (hlt : g < base) : b.ownsRow base e size v n xs := by
  refine h.kept hg ?_
  cases ev : v.ownBlock with
  | none => exact .inl rfl
  | some k =>
    refine .inr fun he => ?_
    have h1 := (h.lt k ev).1
    injection he with he
    omega
theorem grown_own {o : Obj} (h : w.grownBy a (some g)) (ho : a.ownsRow w.heap.size e size v n xs) (hg : (a.alloc o).grownBy b v.ownBlock) : w.grownBy b (some g) := by
  refine ⟨hg.os.trans h.os, hg.tape.trans h.tape, hg.output.trans h.output, ?_, fun k hk hne => ?_⟩
  · have := hg.size; have := h.size; simp at *; omega
  · have h1 := hg.block k (by have := h.size; simp; omega) (fun he => by have := (ho.lt k he.symm).1; omega)
    rw [h1, Below.heap_alloc a o k (by have := h.size; omega)]
    exact h.block k hk hne
theorem below_own {o : Obj} (h : w.grownBy a (some g)) (ho : a.ownsRow w.heap.size e size v n xs) (hg : (a.alloc o).grownBy b v.ownBlock) : Below w.heap.size a b :=
  (((Below.refl _ _).alloc h.size o)).grown hg (by have := h.size; simp; omega) (fun k hk => (ho.lt k hk).1)
theorem grown_alloc (h : w.grownBy a (some g)) (o : Obj) : w.grownBy (a.alloc o) (some g) :=
  ⟨h.os, h.tape, h.output, Nat.le_trans h.size (by simp), fun k hk hne => (Below.heap_alloc a o k (Nat.lt_of_lt_of_le hk h.size)).trans (h.block k hk hne)⟩
theorem grown_below (h : w.grownBy a (some g)) (hb : Below w.heap.size a b) : w.grownBy b (some g) :=
  ⟨hb.os.trans h.os, hb.tape.trans h.tape, hb.output.trans h.output, Nat.le_trans h.size hb.size, fun k hk hne => (hb.block k hk).trans (h.block k hk hne)⟩
theorem below_of_grown (h : w.grownBy a (some g)) {B : Nat} (hB : B ≤ g) (hs : B ≤ w.heap.size) : Below B w a :=
  ⟨h.os, h.tape, h.output, h.size, fun k hk => h.block k (by omega) (fun he => by injection he; omega)⟩
end

theorem own_drew {w : World} {base size n : Nat} {e : TypeId} {v : Value} {xs : List Value} (h : w.ownsRow base e size v n xs) : w.drew.ownsRow base e size v n xs := h
theorem grown_drew {w a : World} {row : Option Nat} (h : w.grownBy a row) : w.grownBy a.drew row := ⟨h.os, h.tape, h.output, h.size, h.block⟩
theorem own_lit0 (w : World) (e : TypeId) : (w.alloc (.cells #[] e)).ownsRow w.heap.size e 1 (.slice (some ⟨w.heap.size, 0, none⟩) 0 0) 0 [] :=
  World.ownsRow_lit w #[] 0 (Nat.le_refl _) (by unfold maxLen; omega) rfl
theorem ret_int {k : IntKind} {a b : Int} (h : a = b) : Ending.returned (.int k a) = .returned (.int k b) := by rw [h]
theorem ret_bool {a b : Bool} (h : a = b) : Ending.returned (.bool a) = .returned (.bool b) := by rw [h]
theorem bcell {W w1 : World} {B : Nat} (hb : Below B W w1) : ∀ b o, b < B → w1.cell? ⟨b, o, none⟩ = W.cell? ⟨b, o, none⟩ := fun b o h => hb.cell (p := ⟨b, o, none⟩) h

end Go.Proofs.Ytnlnelfncejcfaa
