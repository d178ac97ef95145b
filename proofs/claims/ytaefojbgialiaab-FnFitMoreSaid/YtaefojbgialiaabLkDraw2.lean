/- Contracts of the reference's draws of links, with what goes beside them. -/
import Derived.Test.YtaefojbgialiaabLkDraw
set_option linter.unusedVariables false
namespace Go.Proofs.Ytaefojbgialiaab
open Go.RowKit Lk

/-- links that a draw hands out -/
structure LinksD (w w' : World) (many : Nat) (A : Option Addr) (m c : Nat) (ls : List Link) : Prop where
  pos : 1 ≤ many
  six : many ≤ 6
  few : m ≤ 9
  own : LOwn w' w.heap.size 28 (.slice A m c) m ls
  small : ∀ l ∈ ls, Sz 300000 l
theorem LinksD.inL {w w' : World} {many : Nat} {A : Option Addr} {m c : Nat} {ls : List Link} (h : LinksD w w' many A m c ls) : ∀ l ∈ ls, InL l := fun l hl => (h.small l hl).inL (by omega)
/-- a draw's result: links -/
def DrawnL (w : World) (e : Ending) (w' : World) : Prop := ∃ (many : Nat) (A : Option Addr) (m c : Nat) (ls : List Link), e = .returned (.tuple #[.int .i64 (many : Int), .slice A m c]) ∧ LinksD w w' many A m c ls ∧ Below w.heap.size w w'
/-- .. and a tolerance -/
def DrawnLT (w : World) (e : Ending) (w' : World) : Prop := ∃ (many : Nat) (A : Option Addr) (m c : Nat) (ls : List Link) (tol : Int), e = .returned (.tuple #[.int .i64 (many : Int), .slice A m c, .int .i64 tol]) ∧ LinksD w w' many A m c ls ∧ (-1 ≤ tol ∧ tol ≤ 200001) ∧ Below w.heap.size w w'
/-- .. and energies -/
def DrawnLE (w : World) (e : Ending) (w' : World) : Prop := ∃ (many : Nat) (A : Option Addr) (m c : Nat) (ls : List Link) (A2 : Option Addr) (m2 c2 : Nat) (es : List Int), e = .returned (.tuple #[.int .i64 (many : Int), .slice A m c, .slice A2 m2 c2]) ∧ LinksD w w' many A m c ls ∧
  w'.ownsRow w.heap.size 3 1 (.slice A2 m2 c2) m2 (es.map (Value.int .i64)) ∧ m2 ≤ 7 ∧ (∀ z ∈ es, -10000001 ≤ z ∧ z ≤ 10000001) ∧ Below w.heap.size w w'

theorem three_cells' {y : Int} (hy : Picked 3 y) (a b c : Int) (t : TypeId) : ∃ x, Hid (x = a ∨ x = b ∨ x = c) ∧ 0 ≤ y ∧ y < 3 ∧
    (∀ W : World, (W.alloc (.cells #[.int .i64 a, .int .i64 b, .int .i64 c] t)).cell? ⟨W.heap.size, y.toNat, none⟩ = some (.int .i64 x)) ∧
    ∀ (W : World) (k : Nat), W.heap[k]? = some (.cells #[.int .i64 a, .int .i64 b, .int .i64 c] t (0, 0)) → W.cell? ⟨k, y.toNat, none⟩ = some (.int .i64 x) := by
  have h := hy.1 (by omega)
  obtain rfl | rfl | rfl : y = 0 ∨ y = 1 ∨ y = 2 := by omega
  · exact ⟨a, .inl rfl, h.1, h.2, fun W => (cell_of_row _ _ _ _ _ _ (heap_alloc_new W _)).trans rfl, fun W k hk => (cell_of_row _ _ _ _ _ _ hk).trans rfl⟩
  · exact ⟨b, .inr (.inl rfl), h.1, h.2, fun W => (cell_of_row _ _ _ _ _ _ (heap_alloc_new W _)).trans rfl, fun W k hk => (cell_of_row _ _ _ _ _ _ hk).trans rfl⟩
  · exact ⟨c, .inr (.inr rfl), h.1, h.2, fun W => (cell_of_row _ _ _ _ _ _ (heap_alloc_new W _)).trans rfl, fun W k hk => (cell_of_row _ _ _ _ _ _ hk).trans rfl⟩
theorem rd_alloc {w : World} {g p : Nat} (h : Rd w g p) (o : Obj) : Rd (w.alloc o) g p := h.below ((Below.refl _ _).alloc (Nat.le_refl _) _) h.lt

theorem two_cells' {y : Int} (hy : Picked 2 y) (a b : Int) (t : TypeId) : ∃ x, Hid (x = a ∨ x = b) ∧ 0 ≤ y ∧ y < 2 ∧
    ∀ (W : World) (k : Nat), W.heap[k]? = some (.cells #[.int .i64 a, .int .i64 b] t (0, 0)) → W.cell? ⟨k, y.toNat, none⟩ = some (.int .i64 x) := by
  have h := hy.1 (by omega)
  obtain rfl | rfl : y = 0 ∨ y = 1 := by omega
  · exact ⟨a, .inl rfl, h.1, h.2, fun W k hk => (cell_of_row _ _ _ _ _ _ hk).trans rfl⟩
  · exact ⟨b, .inr rfl, h.1, h.2, fun W k hk => (cell_of_row _ _ _ _ _ _ hk).trans rfl⟩
theorem grown_below' {w a b : World} {g B : Nat} (h : w.grownBy a (some g)) (hb : Below B a b) (hB : g < B) (hB2 : w.heap.size ≤ B) : w.grownBy b (some g) :=
  ⟨hb.os.trans h.os, hb.tape.trans h.tape, hb.output.trans h.output, Nat.le_trans h.size hb.size, fun k hk hne => (hb.block k (by omega)).trans (h.block k hk hne)⟩
set_option maxHeartbeats 1000000 in
theorem DrawLinksFit_any (A : Option Addr) (n c : Nat) (bs : List Int) (w : World) (h : BSl w w.heap.size A n c bs) (hn : n ≤ 16777216) :
    Calls Try.prog 16 #[.slice A n c] w (DrawnL w) := by
  go_enter Try.func16, Try.ntmps16
  go_wp2_with fail
  refine (l6Open_any _ _ _ _ _ h hn).mono ?_
  rintro e w1 ⟨rfl, hR1, hs1, hb1⟩
  go_wp2_with fail
  refine (l93Links_any _ _ _ hR1 (by omega)).mono ?_
  rintro e w2 ⟨many, A2, m, c2, ls, p2, rfl, h1, h2, h3, hL, hsz, _, _, hG2⟩
  go_wp2
  go_ret2
  exact ⟨many, A2, m, c2, ls, rfl, ⟨h1, h2, by omega, hL.base_ (by omega), hsz⟩, hb1.trans (below_of_grown hG2 (Nat.le_refl _) (by omega))⟩

set_option maxHeartbeats 2000000 in
theorem DrawLinksNear_any (A : Option Addr) (n c : Nat) (bs : List Int) (w : World) (h : BSl w w.heap.size A n c bs) (hn : n ≤ 16777216) :
    Calls Try.prog 21 #[.slice A n c] w (DrawnLT w) := by
  go_enter Try.func21, Try.ntmps21
  go_wp2_with fail
  refine (l6Open_any _ _ _ _ _ h hn).mono ?_
  rintro e w1 ⟨rfl, hR1, hs1, hb1⟩
  go_wp2_with fail
  refine (l93Links_any _ _ _ hR1 (by omega)).mono ?_
  rintro e w2 ⟨many, A2, m, c2, ls, p2, rfl, h1, h2, h3, hL, hsz, hp2, hR2, hG2⟩
  have hgl : w.heap.size < w1.heap.size := by omega
  have HSZ := Lib.hid hsz
  clear hsz
  go_wp2_with fail
  refine (pick_any _ _ _ _ hR2 (by omega)).mono ?_
  rintro e w3 ⟨y, rfl, hy, hR3, hG3⟩
  have hL3 := hL.keep hG3 hgl
  have hG3' := hG2.trans hG3
  by_cases hy0 : y = 0
  · have hy0' : (y == 0) = true := by simpa using hy0
    clear hy0 hy
    go_wp2_with fail
    go_region_with (first | (go_at_call 33; ((with_reducible refine (pick_any _ _ _ _ (rd_drew hR3) (by omega)).mono ?_); rintro e w4 ⟨q, rfl, hq, hR4, hG4⟩); obtain ⟨x, hx, hq0, hq1, hcA, hcB⟩ := three_cells' hq (-1) 200000 200001 3; clear hcB) | (go_at_call 33; ((with_reducible refine (pick_any _ _ _ _ (rd_drew (rd_alloc hR3 _)) (by omega)).mono ?_); rintro e w4 ⟨q, rfl, hq, hR4, hG4⟩); obtain ⟨x, hx, hq0, hq1, hcA, hcB⟩ := three_cells' hq (-1) 200000 200001 3; have hcD := hcB w4 w3.heap.size ((hG4.block w3.heap.size (by simp) (by intro he; injection he; have := hG3'.size; omega)).trans (heap_alloc_new w3 _)); clear hcA hcB))
    all_goals
      go_wp2
      go_ret3
      first
        | exact ⟨many, A2, m, c2, ls, x, rfl, ⟨h1, h2, by omega, (((LOwn.keep (w := w3.drew) (hL3.drewN 1) hG4 hgl).alloc _).base_ (by omega)), HSZ.out⟩, by rcases hx.out with h | h | h <;> omega, hb1.trans (below_of_grown (grown_alloc ((grown_drew hG3').trans hG4) _) (Nat.le_refl _) (by omega))⟩
        | exact ⟨many, A2, m, c2, ls, x, rfl, ⟨h1, h2, by omega, ((LOwn.keep (w := (w3.alloc _).drew) ((hL3.alloc _).drewN 1) hG4 hgl).base_ (by omega)), HSZ.out⟩, by rcases hx.out with h | h | h <;> omega, hb1.trans (below_of_grown ((grown_drew (grown_alloc hG3' _)).trans hG4) (Nat.le_refl _) (by omega))⟩
  · have hy0' : (y == 0) = false := by simpa using hy0
    clear hy0 hy
    go_wp2_with fail
    refine (pick_any _ _ _ _ hR3 (by omega)).mono ?_
    rintro e w4 ⟨q, rfl, hq, hR4, hG4⟩
    have hL4 := hL3.keep hG4 hgl
    have hG4' := hG3'.trans hG4
    have hqb := hq.1 (by omega)
    go_wp2
    go_ret3
    exact ⟨many, A2, m, c2, ls, q, rfl, ⟨h1, h2, by omega, hL4.base_ (by omega), HSZ.out⟩, ⟨by omega, by omega⟩, hb1.trans (below_of_grown hG4' (Nat.le_refl _) (by omega))⟩

end Go.Proofs.Ytaefojbgialiaab
