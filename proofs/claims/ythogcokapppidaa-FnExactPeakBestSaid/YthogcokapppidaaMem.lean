/- Slices of integers in memory: what can be read of them, and that it is kept. Small lemmas over any world, no program in sight. -/
import Derived.Test.YthogcokapppidaaPlain
import Derived.WalkKit
import Derived.WalkSpells
import Derived.WalkLawsBesides
import Derived.Handy
import Derived.Laws.OwnMore
import Derived.Deep.Draws
import Derived.Lib.Hide
namespace Go.Proofs.Ythogcokapppidaa
open Go.RowKit

/-- an int of 64 bits -/
def InI (z : Int) : Prop := -9223372036854775808 ≤ z ∧ z ≤ 9223372036854775807

/-- the slice of integers '.slice A n c' reads as zs in w, and lies below block B -/
structure ISl (w : World) (B : Nat) (A : Option Addr) (n c : Nat) (zs : List Int) : Prop where
  len : zs.length = n
  cap : n ≤ c
  inI : ∀ z ∈ zs, InI z
  mem : 0 < n → ∃ b off, A = some ⟨b, off, none⟩ ∧ b < B ∧ ∀ i, i < n → w.cell? ⟨b, off + i, none⟩ = some (.int .i64 (gI zs i))

section
variable {w w' : World} {B B' : Nat} {A : Option Addr} {n c : Nat} {zs : List Int}

theorem ISl.keep (h : ISl w B A n c zs) (hk : ∀ b off, b < B → w'.cell? ⟨b, off, none⟩ = w.cell? ⟨b, off, none⟩) : ISl w' B A n c zs :=
  ⟨h.len, h.cap, h.inI, fun hn => by
    obtain ⟨b, off, e, hb, hc⟩ := h.mem hn
    exact ⟨b, off, e, hb, fun i hi => (hk _ _ hb).trans (hc i hi)⟩⟩
theorem ISl.more (h : ISl w B A n c zs) (hB : B ≤ B') : ISl w B' A n c zs :=
  ⟨h.len, h.cap, h.inI, fun hn => by
    obtain ⟨b, off, e, hb, hc⟩ := h.mem hn
    exact ⟨b, off, e, by omega, hc⟩⟩
theorem ISl.below (h : ISl w B A n c zs) (hb : Below B w w') : ISl w' B A n c zs := h.keep fun b off hp => hb.cell (p := ⟨b, off, none⟩) hp
theorem ISl.drew (h : ISl w B A n c zs) : ISl w.drew B A n c zs := h.keep fun _ _ _ => rfl
theorem ISl.drewN (h : ISl w B A n c zs) (k : Nat) : ISl (w.drewN k) B A n c zs := h.keep fun _ _ _ => rfl
theorem ISl.alloc (h : ISl w B A n c zs) (hB : B ≤ w.heap.size) (o : Obj) : ISl (w.alloc o) B A n c zs := h.below ((Below.refl _ _).alloc hB o)
theorem ISl.grown (h : ISl w B A n c zs) {row : Option Nat} (hg : w.grownBy w' row) (hB : B ≤ w.heap.size) (hr : ∀ g, row = some g → B ≤ g) : ISl w' B A n c zs :=
  h.below ((Below.refl _ _).grown hg hB hr)
theorem ISl.at_ (h : ISl w B A n c zs) {k : Nat} (hk : k < n) : ∃ b off, A = some ⟨b, off, none⟩ ∧ b < B ∧ k < zs.length ∧ ∀ i, i < n → w.cell? ⟨b, off + i, none⟩ = some (.int .i64 (gI zs i)) := by
  obtain ⟨b, off, e, hb, hc⟩ := h.mem (by omega)
  exact ⟨b, off, e, hb, by have := h.len; omega, hc⟩
theorem ISl.nil (w : World) (B : Nat) (A : Option Addr) (c : Nat) : ISl w B A 0 c [] := ⟨rfl, Nat.zero_le _, by simp, fun h => absurd h (by omega)⟩
theorem ISl.inAt (h : ISl w B A n c zs) (i : Nat) : -9223372036854775808 ≤ gI zs i ∧ gI zs i ≤ 9223372036854775807 := by
  by_cases hi : i < zs.length
  · have := h.inI zs[i] (List.getElem_mem hi)
    rw [gI_lt hi]; exact this
  · rw [gI_ge (by omega)]; omega

/-- what the call itself made reads as what it owns -/
theorem ISl.of_own {base : Nat} {e : TypeId} (h : w.ownsRow base e 1 (.slice A n c) n (zs.map (Value.int .i64))) (hi : ∀ z ∈ zs, InI z) : ISl w w.heap.size A n c zs := by
  have hl : zs.length = n := by have := h.1; simpa using this
  refine ⟨hl, ?_, hi, fun hn => ?_⟩
  · rcases h.2 with ⟨e, rfl⟩ | ⟨g, cap, cur, e, _, _, hc, _⟩
    · omega
    · injection e with e1 e2 e3; omega
  · rcases h.2 with ⟨_, rfl⟩ | ⟨g, cap, cur, e, hb, hh, hc, _⟩
    · omega
    · injection e with e1 e2 e3
      subst e1
      refine ⟨g, 0, rfl, (h.lt g rfl).2, fun i hi => ?_⟩
      have := h.cells (g := g) rfl i (.int .i64 (zs[i]'(by omega))) (by simp [show i < zs.length by omega])
      rw [Nat.zero_add]
      have ea : (⟨g, 0, none⟩ : Addr).add i = ⟨g, i, none⟩ := by unfold Addr.add; split <;> simp_all
      rw [ea] at this
      rw [gI_lt (by omega)]; exact this

/-- an owned slice has a slice's shape -/
theorem own_form {base : Nat} {e : TypeId} {size : Nat} {v : Value} {xs : List Value} (h : w.ownsRow base e size v n xs) : ∃ A c, v = .slice A n c := by
  rcases h.2 with ⟨rfl, rfl⟩ | ⟨g, cap, cur, rfl, _⟩
  · exact ⟨_, _, rfl⟩
  · exact ⟨_, _, rfl⟩

/-- where an owned slice that is not empty lies -/
theorem own_at {base : Nat} {e : TypeId} {size : Nat} {xs : List Value} (h : w.ownsRow base e size (.slice A n c) n xs) (hn : 0 < n) : ∃ g, A = some ⟨g, 0, none⟩ ∧ base ≤ g ∧ g < w.heap.size := by
  rcases h.2 with ⟨_, rfl⟩ | ⟨g, cap, cur, e, hb, hh, hc, _⟩
  · omega
  · injection e with e1 e2 e3
    subst e1
    exact ⟨g, rfl, hb, (h.lt g rfl).2⟩

theorem cell_lt {p : Addr} {u : Value} (h : w.cell? p = some u) : p.block < w.heap.size := by
  rcases Nat.lt_or_ge p.block w.heap.size with hlt | hge
  · exact hlt
  · simp [World.cell?, Array.getElem?_eq_none hge] at h

theorem ISl.of_open {x : Addr} {l : Nat} (hl : l ≤ c) (hz : zs.length = c) (hcell : ∀ i, i < zs.length → w.cell? (x.add i) = some (.int .i64 (zs.getD i 0))) (hwz : ∀ n ∈ zs, (Lit.int .i64 n).wf = true) :
    ISl w w.heap.size (some x) l c (zs.take l) := by
  refine ⟨by simp; omega, hl, fun z hz' => ?_, fun hn => ?_⟩
  · have := hwz z (List.mem_of_mem_take hz')
    simp only [Lit.wf, Bool.and_eq_true, decide_eq_true_eq] at this
    exact this
  · obtain ⟨b, off, spot⟩ := x
    have h0 := hcell 0 (by omega)
    have hs : spot = none := by simpa [Addr.add] using World.cell?_spot h0
    subst hs
    refine ⟨b, off, rfl, by simpa [Addr.add] using cell_lt h0, fun i hi => ?_⟩
    have := hcell i (by omega)
    have ea : (⟨b, off, none⟩ : Addr).add i = ⟨b, off + i, none⟩ := by unfold Addr.add; split <;> simp_all
    rw [ea] at this
    rw [gI_take hi, this]
    simp [gI]

theorem ini_of_wf {a : Int} (h : (Lit.int .i64 a).wf = true) : InI a := by
  simp only [Lit.wf, Bool.and_eq_true, decide_eq_true_eq] at h
  exact h

theorem below_drewN {a : World} (h : Below B a w) (n : Nat) : Below B a (w.drewN n) := ⟨h.os, h.tape, h.output, h.size, h.block⟩

theorem own_below {base : Nat} {e : TypeId} {size : Nat} {v : Value} {xs : List Value} (h : w.ownsRow base e size v n xs) (hb : Below w.heap.size w w') : w'.ownsRow base e size v n xs := by
  refine ⟨h.1, ?_⟩
  rcases h.2 with ⟨rfl, rfl⟩ | ⟨g, cap, cur, rfl, hbg, hh, r⟩
  · exact .inl ⟨rfl, rfl⟩
  · refine .inr ⟨g, cap, cur, rfl, hbg, ?_, r⟩
    rw [hb.block g ((h.lt g rfl).2)]; exact hh

theorem own_base {base base' : Nat} {e : TypeId} {size : Nat} {v : Value} {xs : List Value} (h : w.ownsRow base e size v n xs) (hb : base' ≤ base) : w.ownsRow base' e size v n xs := by
  refine ⟨h.1, ?_⟩
  rcases h.2 with ⟨rfl, rfl⟩ | ⟨g, cap, cur, rfl, hbg, r⟩
  · exact .inl ⟨rfl, rfl⟩
  · exact .inr ⟨g, cap, cur, rfl, by omega, r⟩
end

/-- the slice of bytes '.slice A n c' reads as bs in w, and lies below block B -/
structure BSl (w : World) (B : Nat) (A : Option Addr) (n c : Nat) (bs : List Int) : Prop where
  len : bs.length = n
  cap : n ≤ c
  inB : ∀ i, 0 ≤ gI bs i ∧ gI bs i ≤ 255
  mem : 0 < n → ∃ b off, A = some ⟨b, off, none⟩ ∧ b < B ∧ ∀ i, i < n → w.cell? ⟨b, off + i, none⟩ = some (.int .u8 (gI bs i))

section
variable {w w' : World} {B B' : Nat} {A : Option Addr} {n c : Nat} {zs : List Int}
theorem BSl.keep (h : BSl w B A n c zs) (hk : ∀ b off, b < B → w'.cell? ⟨b, off, none⟩ = w.cell? ⟨b, off, none⟩) : BSl w' B A n c zs :=
  ⟨h.len, h.cap, h.inB, fun hn => by
    obtain ⟨b, off, e, hb, hc⟩ := h.mem hn
    exact ⟨b, off, e, hb, fun i hi => (hk _ _ hb).trans (hc i hi)⟩⟩
theorem BSl.more (h : BSl w B A n c zs) (hB : B ≤ B') : BSl w B' A n c zs :=
  ⟨h.len, h.cap, h.inB, fun hn => by
    obtain ⟨b, off, e, hb, hc⟩ := h.mem hn
    exact ⟨b, off, e, by omega, hc⟩⟩
theorem BSl.below (h : BSl w B A n c zs) (hb : Below B w w') : BSl w' B A n c zs := h.keep fun b off hp => hb.cell (p := ⟨b, off, none⟩) hp
theorem BSl.at_ (h : BSl w B A n c zs) {k : Nat} (hk : k < n) : ∃ b off, A = some ⟨b, off, none⟩ ∧ b < B ∧ k < zs.length ∧ ∀ i, i < n → w.cell? ⟨b, off + i, none⟩ = some (.int .u8 (gI zs i)) := by
  obtain ⟨b, off, e, hb, hc⟩ := h.mem (by omega)
  exact ⟨b, off, e, hb, by have := h.len; omega, hc⟩
theorem BSl.nil (w : World) (B : Nat) (A : Option Addr) (c : Nat) : BSl w B A 0 c [] := ⟨rfl, Nat.zero_le _, fun i => by simp [gI], fun h => absurd h (by omega)⟩
theorem BSl.of_open {x : Addr} {l : Nat} (hl : l ≤ c) (hz : zs.length = c) (hcell : ∀ i, i < zs.length → w.cell? (x.add i) = some (.int .u8 (zs.getD i 0))) (hwz : ∀ n ∈ zs, (Lit.int .u8 n).wf = true) :
    BSl w w.heap.size (some x) l c (zs.take l) := by
  refine ⟨by simp; omega, hl, fun i => ?_, fun hn => ?_⟩
  · by_cases hi : i < (zs.take l).length
    · have := hwz _ (List.mem_of_mem_take (gI_mem hi))
      simp only [Lit.wf, Bool.and_eq_true, decide_eq_true_eq] at this
      exact this
    · rw [gI_ge (by omega)]; omega
  · obtain ⟨b, off, spot⟩ := x
    have h0 := hcell 0 (by omega)
    have hs : spot = none := by simpa [Addr.add] using World.cell?_spot h0
    subst hs
    refine ⟨b, off, rfl, by simpa [Addr.add] using cell_lt h0, fun i hi => ?_⟩
    have := hcell i (by omega)
    have ea : (⟨b, off, none⟩ : Addr).add i = ⟨b, off + i, none⟩ := by unfold Addr.add; split <;> simp_all
    rw [ea] at this
    rw [gI_take hi, this]
    simp [gI]
end

theorem ret_int {k : IntKind} {a b : Int} (h : a = b) : Ending.returned (.int k a) = .returned (.int k b) := by rw [h]
theorem ret_bool {a b : Bool} (h : a = b) : Ending.returned (.bool a) = .returned (.bool b) := by rw [h]
theorem bcell {W w1 : World} {B : Nat} (hb : Below B W w1) : ∀ b o, b < B → w1.cell? ⟨b, o, none⟩ = W.cell? ⟨b, o, none⟩ := fun b o h => hb.cell (p := ⟨b, o, none⟩) h

end Go.Proofs.Ythogcokapppidaa
