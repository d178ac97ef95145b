/- Contracts of the draws of counts. -/
import Derived.Test.YtddchlfhjiimcaaDraw
namespace Go.Proofs.Ytddchlfhjiimcaa
open Go.RowKit

/-- a list of integers that a draw hands out, in new memory -/
structure Drawn (w w' : World) (A : Option Addr) (m c : Nat) (zs : List Int) : Prop where
  own : w'.ownsRow w.heap.size 3 1 (.slice A m c) m (zs.map (Value.int .i64))
  few : m ≤ 24
  inI : ∀ z ∈ zs, InI z

set_option maxHeartbeats 4000000 in
theorem l93Counts_any (g p : Nat) (w : World) (h : Rd w g p) (hp : p ≤ 900000) :
    Calls Try.prog 18 #[.pointer (some ⟨g, 0, none⟩)] w fun e w' => ∃ A m c zs p', e = .returned (.slice A m c) ∧ Drawn w w' A m c zs ∧ p' ≤ p + 100 ∧ Rd w' g p' ∧ w.grownBy w' (some g) := by
  obtain ⟨i0, hi, hz0, hz1, hz2⟩ := info_parts int_info
  have hglt := h.lt
  go_enter Try.func18, Try.ntmps18
  go_wp2_with fail
  refine (pick_any _ _ _ _ (h.below ((Below.refl _ _).alloc (Nat.le_refl _) _) hglt) (by omega)).mono ?_
  rintro e w1 ⟨v, rfl, hv, hR1, hG1⟩
  obtain ⟨m, rfl⟩ := Int.eq_ofNat_of_zero_le (hv.1 (by omega)).1
  have hm : m < 24 := by have := (hv.1 (by omega)).2; omega
  have hO1 := own_keep (own_lit0 w 3) hG1 hglt
  have hG1' : w.grownBy w1 (some g) := (grown_alloc (World.grownBy.refl w _) _).trans hG1
  clear hv hG1
  go_wp2_with fail
  go_loopw [3, 5] (fun x i wr => ∃ (k p' : Nat) (zs : List Int), k ≤ m ∧ i = .int .i64 k ∧ zs.length = k ∧ p' ≤ p + 1 + 3 * k ∧ wr.ownsRow w.heap.size 3 1 x k (zs.map (Value.int .i64)) ∧ Hid (∀ z ∈ zs, InI z) ∧ Rd wr g p' ∧ w.grownBy wr (some g)) (fun _ i _ => m - (intOf i).toNat)
  case atStart => exact ⟨0, p + 1, [], Nat.zero_le _, rfl, rfl, by omega, hO1, fun z hz => by simp at hz, hR1, hG1'⟩
  case round =>
    obtain ⟨k, p', zs, hk, rfl, hzl, hp', hown, hin, hR, hG⟩ := hrel
    have HZ := Lib.hid hzl
    clear hzl hR1 hG1' hO1
    by_cases hlt : k < m
    · go_wp2_with fail
      refine (pick_any _ _ _ _ hR (by omega)).mono ?_
      rintro e w2 ⟨x, rfl, hx, hR2, hG2⟩
      have hO2 := own_keep hown hG2 hglt
      have hG2' := hG.trans hG2
      have hxb := hx.1 (by omega)
      clear hR hG2 hown hG hx
      go_wp2_with fail
      refine (pick_any _ _ _ _ hR2 (by omega)).mono ?_
      rintro e w3 ⟨y, rfl, hy, hR3, hG3⟩
      have hO3 := own_keep hO2 hG3 hglt
      have hG3' := hG2'.trans hG3
      have hyb := hy.1 (by omega)
      have hs3 := hG3'.size
      clear hR2 hG3 hO2 hG2' hy
      by_cases hy0 : y = 0
      · have hy0' : (y == 0) = true := by simpa using hy0
        clear hy0
        go_wp2_with fail
        refine (pick_any _ _ _ _ hR3 (by omega)).mono ?_
        rintro e w4 ⟨z, rfl, hz, hR4, hG4⟩
        have hO4 := own_keep hO3 hG4 hglt
        have hG4' := hG3'.trans hG4
        have hzb := hz.1 (by omega)
        have hs4 := hG4'.size
        clear hR3 hG4 hO3 hG3' hz
        go_wp2_with (at_builtin; refine wpList_append_own _ rfl _ _ 23 rfl w.heap.size 3 i0 (.int .i64 0) 1 8 Try.underlying23 hi hz0 hz1 hz2 rfl (by decide) _ _ _ rfl (hO4.alloc _) ⟨w4.heap.size, 0, none⟩ 1 1 [.int .i64 (z * 49)] rfl rfl ?c1 ?c2 ?c3 ?c4 ?c5 ?_)
        case c1 => exact cell_one_new _ _ _
        case c2 => intro u hu; simp at hu; subst hu; rfl
        case c3 => unfold maxLen; omega
        case c4 => omega
        case c5 => simp; omega
        intro v' w5 hown' hgrow _
        rw [ints_snoc] at hown'
        have hG5 := grown_own hG4' hO4 hgrow
        have hR5 := hR4.below (below_own hG4' hO4 hgrow) hglt
        clear hgrow hO4 hG4' hR4
        go_wp2
        go_roundw
        case rel =>
          refine ⟨k + 1, p' + 1 + 1 + 1, zs ++ [z * 49], by omega, by go_num, by simp [HZ.out], by omega, hown', fun u hu => ?_, hR5, hG5⟩
          rcases List.mem_append.1 hu with hu | hu
          · exact hin.out u hu
          · simp at hu; subst hu; unfold InI; omega
        case measure => simp [intOf]; omega
      · have hy0' : (y == 0) = false := by simpa using hy0
        clear hy0
        go_wp2_with (at_builtin; refine wpList_append_own _ rfl _ _ 23 rfl w.heap.size 3 i0 (.int .i64 0) 1 8 Try.underlying23 hi hz0 hz1 hz2 rfl (by decide) _ _ _ rfl (hO3.alloc _) ⟨w3.heap.size, 0, none⟩ 1 1 [.int .i64 x] rfl rfl ?d1 ?d2 ?d3 ?d4 ?d5 ?_)
        case d1 => exact cell_one_new _ _ _
        case d2 => intro u hu; simp at hu; subst hu; rfl
        case d3 => unfold maxLen; omega
        case d4 => omega
        case d5 => simp; omega
        intro v' w5 hown' hgrow _
        rw [ints_snoc] at hown'
        have hG5 := grown_own hG3' hO3 hgrow
        have hR5 := hR3.below (below_own hG3' hO3 hgrow) hglt
        clear hgrow hO3 hG3' hR3
        go_wp2
        go_roundw
        case rel =>
          refine ⟨k + 1, p' + 1 + 1, zs ++ [x], by omega, by go_num, by simp [HZ.out], by omega, hown', fun u hu => ?_, hR5, hG5⟩
          rcases List.mem_append.1 hu with hu | hu
          · exact hin.out u hu
          · simp at hu; subst hu; unfold InI; omega
        case measure => simp [intOf]; omega
    · obtain rfl : k = m := by omega
      obtain ⟨A, c, rfl⟩ := own_form hown
      by_cases hm0 : k = 0
      · have hm0' : (k : Int) ≤ 0 := by omega
        clear hm0
        go_wp2
        go_ret
        exact ⟨A, k, c, zs, p', rfl, ⟨hown, by omega, hin.out⟩, by omega, hR, hG⟩
      · have hm0' : (0 : Int) < (k : Int) := by omega
        obtain ⟨hb, rfl, hb1, hb2⟩ := own_at hown (by omega)
        go_wp2_with fail
        refine (pick_any _ _ _ _ hR (by omega)).mono ?_
        rintro e w2 ⟨x, rfl, hx, hR2, hG2⟩
        have hO2 := own_keep hown hG2 hglt
        have hG2' := hG.trans hG2
        have hs2 := hG2'.size
        clear hR hG2 hown hG hx
        by_cases hx0 : x = 0
        · have hx0' : (x == 0) = true := by simpa using hx0
          clear hx0
          go_wp2_with fail
          refine (pick_any _ _ _ _ (hR2.below ((Below.refl _ _).alloc (Nat.le_refl _) _) hR2.lt) (by omega)).mono ?_
          rintro e w3 ⟨y, rfl, hy, hR3, hG3⟩
          have hyb := hy.1 (by omega)
          have hO3 := own_keep (hO2.alloc _) hG3 hglt
          have hG3' := (grown_alloc hG2' _).trans hG3
          have hw3 : w3.heap[w2.heap.size]? = some (.cells #[.int .i64 (-1), .int .i64 10000] 3) := by
            rw [hG3.block w2.heap.size (by simp) (by intro he; injection he; omega)]
            exact heap_alloc_new w2 _
          have hs3 := hG3.size
          simp at hs3
          have hdst := hO3.cellAt 0 (by omega)
          have hfr := hO3.frozenAt 0
          obtain ⟨old, hold⟩ : ∃ u, w3.cell? ⟨hb, 0, none⟩ = some u := by
            rw [hdst]
            have : 0 < (zs.map (Value.int .i64)).length := by rw [List.length_map, HZ.out]; omega
            exact ⟨_, List.getElem?_eq_getElem this⟩
          clear hdst hy
          obtain rfl | rfl : y = 0 ∨ y = 1 := by omega
          · have hcell : w3.cell? ⟨w2.heap.size, 0, none⟩ = some (.int .i64 (-1)) := (cell_of_row w3 _ _ _ _ _ hw3).trans rfl
            have hst := hO3.stored 0 (.int .i64 (-1))
            rw [← List.map_set] at hst
            have hG4 : w.grownBy (w3.setCell ⟨hb, 0, none⟩ (.int .i64 (-1))) (some g) := grown_below hG3' (below_mark hO3 (by omega) hst.2)
            have hR4 : Rd (w3.setCell ⟨hb, 0, none⟩ (.int .i64 (-1))) g (p' + 1 + 1) := hR3.below (below_mark hO3 (by omega) hst.2) hglt
            have HS := Lib.hid (And.intro hst.1 (And.intro hG4 hR4))
            clear hst hG4 hR4 hw3 hO3 hG3' hR3 hG3 hO2 hG2' hR2
            go_wp2
            go_ret
            refine ⟨_, k, c, zs.set 0 (-1), p' + 1 + 1, rfl, ⟨HS.out.1, by omega, fun u hu => ?_⟩, by omega, HS.out.2.2, HS.out.2.1⟩
            rcases List.mem_or_eq_of_mem_set hu with hu | hu
            · exact hin.out u hu
            · subst hu; unfold InI; omega
          · have hcell : w3.cell? ⟨w2.heap.size, 1, none⟩ = some (.int .i64 10000) := (cell_of_row w3 _ _ _ _ _ hw3).trans rfl
            have hst := hO3.stored 0 (.int .i64 10000)
            rw [← List.map_set] at hst
            have hG4 : w.grownBy (w3.setCell ⟨hb, 0, none⟩ (.int .i64 10000)) (some g) := grown_below hG3' (below_mark hO3 (by omega) hst.2)
            have hR4 : Rd (w3.setCell ⟨hb, 0, none⟩ (.int .i64 10000)) g (p' + 1 + 1) := hR3.below (below_mark hO3 (by omega) hst.2) hglt
            have HS := Lib.hid (And.intro hst.1 (And.intro hG4 hR4))
            clear hst hG4 hR4 hw3 hO3 hG3' hR3 hG3 hO2 hG2' hR2
            go_wp2
            go_ret
            refine ⟨_, k, c, zs.set 0 10000, p' + 1 + 1, rfl, ⟨HS.out.1, by omega, fun u hu => ?_⟩, by omega, HS.out.2.2, HS.out.2.1⟩
            rcases List.mem_or_eq_of_mem_set hu with hu | hu
            · exact hin.out u hu
            · subst hu; unfold InI; omega
        · have hx0' : (x == 0) = false := by simpa using hx0
          clear hx0
          go_wp2
          go_ret
          exact ⟨_, k, c, zs, p' + 1, rfl, ⟨hO2, by omega, hin.out⟩, by omega, hR2, hG2'⟩

theorem rd_drew {w : World} {g p : Nat} (h : Rd w g p) : Rd w.drew g p := (rd_drewN (k := 1) ⟨h, World.grownBy.refl w _⟩).1
theorem rd_alloc {w : World} {g p : Nat} (h : Rd w g p) (o : Obj) : Rd (w.alloc o) g p := h.below ((Below.refl _ _).alloc (Nat.le_refl _) _) h.lt
/-- one of two numbers, picked -/
theorem two_cells {y : Int} (hy : Picked 2 y) (a b : Int) (t : TypeId) : ∃ x, Hid (x = a ∨ x = b) ∧ 0 ≤ y ∧ y < 2 ∧ (∀ W : World, (W.alloc (.cells #[.int .i64 a, .int .i64 b] t)).cell? ⟨W.heap.size, y.toNat, none⟩ = some (.int .i64 x)) ∧
    ∀ (W : World) (k : Nat), W.heap[k]? = some (.cells #[.int .i64 a, .int .i64 b] t (0, 0)) → W.cell? ⟨k, y.toNat, none⟩ = some (.int .i64 x) := by
  have h := hy.1 (by omega)
  obtain rfl | rfl : y = 0 ∨ y = 1 := by omega
  · exact ⟨a, .inl rfl, h.1, h.2, fun W => (cell_of_row _ _ _ _ _ _ (heap_alloc_new W _)).trans rfl, fun W k hk => (cell_of_row _ _ _ _ _ _ hk).trans rfl⟩
  · exact ⟨b, .inr rfl, h.1, h.2, fun W => (cell_of_row _ _ _ _ _ _ (heap_alloc_new W _)).trans rfl, fun W k hk => (cell_of_row _ _ _ _ _ _ hk).trans rfl⟩
set_option maxHeartbeats 2000000 in
theorem l93At_any (g p : Nat) (w : World) (h : Rd w g p) (hp : p ≤ 800000) :
    Calls Try.prog 23 #[.pointer (some ⟨g, 0, none⟩)] w fun e w' => ∃ A m c zs p' a, e = .returned (.tuple #[.slice A m c, .int .i64 a]) ∧ Drawn w w' A m c zs ∧ (-1 ≤ a ∧ a ≤ 24) ∧ p' ≤ p + 200 ∧ Rd w' g p' ∧ w.grownBy w' (some g) := by
  have hglt := h.lt
  go_enter Try.func23, Try.ntmps23
  go_wp2_with fail
  refine (l93Counts_any _ _ _ h (by omega)).mono ?_
  rintro e w1 ⟨A, m, c, zs, p1, rfl, hD, hp1, hR1, hG1⟩
  have hs1 := hG1.size
  have hm := hD.few
  by_cases hm0 : m = 0
  · have hm0' : ((m : Int) == 0) = true := by simp; omega
    clear hm0
    go_wp2_with fail
    go_region_with (first | (go_at_call 19; ((with_reducible refine (pick_any _ _ _ _ (rd_drew hR1) (by omega)).mono ?_); rintro e w3 ⟨y, rfl, hy, hR3, hG3⟩); obtain ⟨x, hx, hy0, hy1, hcA, hcB⟩ := two_cells hy (-1) (m : Int) 3; clear hcB) | (go_at_call 19; ((with_reducible refine (pick_any _ _ _ _ (rd_drew (rd_alloc hR1 _)) (by omega)).mono ?_); rintro e w3 ⟨y, rfl, hy, hR3, hG3⟩); obtain ⟨x, hx, hy0, hy1, hcA, hcB⟩ := two_cells hy (-1) (m : Int) 3; have hcD := hcB w3 w1.heap.size ((hG3.block w1.heap.size (by simp) (by intro he; injection he; omega)).trans (heap_alloc_new w1 _)); clear hcA hcB))
    all_goals
      go_wp2
      go_ret2
      first
        | exact ⟨A, m, c, zs, _, x, rfl, ⟨(own_keep (own_drew hD.own) hG3 hglt).alloc _, hm, hD.inI⟩, ⟨by rcases hx.out with h | h <;> omega, by rcases hx.out with h | h <;> omega⟩, by omega, rd_alloc hR3 _, grown_alloc ((grown_drew hG1).trans hG3) _⟩
        | exact ⟨A, m, c, zs, _, x, rfl, ⟨own_keep (own_drew (hD.own.alloc _)) hG3 hglt, hm, hD.inI⟩, ⟨by rcases hx.out with h | h <;> omega, by rcases hx.out with h | h <;> omega⟩, by omega, hR3, (grown_drew (grown_alloc hG1 _)).trans hG3⟩
  · have hm0' : ((m : Int) == 0) = false := by simp; omega
    go_wp2_with fail
    refine (pick_any _ _ _ _ hR1 (by omega)).mono ?_
    rintro e w2 ⟨x, rfl, hx, hR2, hG2⟩
    have hO2 := own_keep hD.own hG2 hglt
    have hG2' := hG1.trans hG2
    have hs2 := hG2'.size
    by_cases hx0 : x = 0
    · have hx0' : (x == 0) = true := by simpa using hx0
      clear hx0
      go_wp2_with fail
      go_region_with (first | (go_at_call 19; ((with_reducible refine (pick_any _ _ _ _ (rd_drew hR2) (by omega)).mono ?_); rintro e w3 ⟨y, rfl, hy, hR3, hG3⟩); obtain ⟨x, hx, hy0, hy1, hcA, hcB⟩ := two_cells hy (-1) (m : Int) 3; clear hcB) | (go_at_call 19; ((with_reducible refine (pick_any _ _ _ _ (rd_drew (rd_alloc hR2 _)) (by omega)).mono ?_); rintro e w3 ⟨y, rfl, hy, hR3, hG3⟩); obtain ⟨x, hx, hy0, hy1, hcA, hcB⟩ := two_cells hy (-1) (m : Int) 3; have hcD := hcB w3 w2.heap.size ((hG3.block w2.heap.size (by simp) (by intro he; injection he; omega)).trans (heap_alloc_new w2 _)); clear hcA hcB))
      all_goals
        go_wp2
        go_ret2
        first
          | exact ⟨A, m, c, zs, _, x, rfl, ⟨(own_keep (own_drew hO2) hG3 hglt).alloc _, hm, hD.inI⟩, ⟨by rcases hx.out with h | h <;> omega, by rcases hx.out with h | h <;> omega⟩, by omega, rd_alloc hR3 _, grown_alloc ((grown_drew hG2').trans hG3) _⟩
          | exact ⟨A, m, c, zs, _, x, rfl, ⟨own_keep (own_drew (hO2.alloc _)) hG3 hglt, hm, hD.inI⟩, ⟨by rcases hx.out with h | h <;> omega, by rcases hx.out with h | h <;> omega⟩, by omega, hR3, (grown_drew (grown_alloc hG2' _)).trans hG3⟩
    · have hx0' : (x == 0) = false := by simpa using hx0
      clear hx0
      go_wp2_with fail
      refine (pick_any _ _ _ _ hR2 (by omega)).mono ?_
      rintro e w3 ⟨y, rfl, hy, hR3, hG3⟩
      have hO3 := own_keep hO2 hG3 hglt
      have hG3' := hG2'.trans hG3
      have hyb := hy.1 (by omega)
      go_wp2
      go_ret2
      exact ⟨A, m, c, zs, _, y, rfl, ⟨hO3, hm, hD.inI⟩, ⟨by omega, by omega⟩, by omega, hR3, hG3'⟩



set_option maxHeartbeats 1000000 in
theorem DrawPeaksOf_any (A : Option Addr) (n c : Nat) (bs : List Int) (w : World) (h : BSl w w.heap.size A n c bs) (hn : n ≤ 16777216) :
    Calls Try.prog 6 #[.slice A n c] w fun e w' => ∃ A m c zs a, e = .returned (.tuple #[.slice A m c, .int .i64 a]) ∧ Drawn w w' A m c zs ∧ (-1 ≤ a ∧ a ≤ 6) ∧ Below w.heap.size w w' := by
  go_enter Try.func6, Try.ntmps6
  go_wp2_with fail
  refine (l6Open_any _ _ _ _ _ h hn).mono ?_
  rintro e w1 ⟨rfl, hR1, hs1, hb1⟩
  go_wp2_with fail
  refine (l93Counts_any _ _ _ hR1 (by omega)).mono ?_
  rintro e w2 ⟨A2, m, c2, zs, p2, rfl, hD, hp2, hR2, hG2⟩
  have hO2 := hD.own
  go_wp2_with fail
  refine (pick_any _ _ _ _ hR2 (by omega)).mono ?_
  rintro e w3 ⟨y, rfl, hy, hR3, hG3⟩
  have hO3 := own_keep hO2 hG3 (by omega)
  have hyb := hy.1 (by omega)
  go_wp2
  go_ret2
  exact ⟨A2, m, c2, zs, _, rfl, ⟨own_base hO3 (by omega), hD.few, hD.inI⟩, ⟨by omega, by omega⟩, hb1.trans (below_of_grown (hG2.trans hG3) (Nat.le_refl _) (by omega))⟩

/-- one of three numbers, picked -/
theorem three_cells {y : Int} (hy : Picked 3 y) (a b c : Int) (t : TypeId) : ∃ x, Hid (x = a ∨ x = b ∨ x = c) ∧ 0 ≤ y ∧ y < 3 ∧
    (∀ W : World, (W.alloc (.cells #[.int .i64 a, .int .i64 b, .int .i64 c] t)).cell? ⟨W.heap.size, y.toNat, none⟩ = some (.int .i64 x)) ∧
    ∀ (W : World) (k : Nat), W.heap[k]? = some (.cells #[.int .i64 a, .int .i64 b, .int .i64 c] t (0, 0)) → W.cell? ⟨k, y.toNat, none⟩ = some (.int .i64 x) := by
  have h := hy.1 (by omega)
  obtain rfl | rfl | rfl : y = 0 ∨ y = 1 ∨ y = 2 := by omega
  · exact ⟨a, .inl rfl, h.1, h.2, fun W => (cell_of_row _ _ _ _ _ _ (heap_alloc_new W _)).trans rfl, fun W k hk => (cell_of_row _ _ _ _ _ _ hk).trans rfl⟩
  · exact ⟨b, .inr (.inl rfl), h.1, h.2, fun W => (cell_of_row _ _ _ _ _ _ (heap_alloc_new W _)).trans rfl, fun W k hk => (cell_of_row _ _ _ _ _ _ hk).trans rfl⟩
  · exact ⟨c, .inr (.inr rfl), h.1, h.2, fun W => (cell_of_row _ _ _ _ _ _ (heap_alloc_new W _)).trans rfl, fun W k hk => (cell_of_row _ _ _ _ _ _ hk).trans rfl⟩

/-- what a draw of a center hands out -/
def DrawnC (w : World) (e : Ending) (w' : World) : Prop := ∃ A m c zs a g, e = .returned (.tuple #[.slice A m c, .int .i64 a, .int .i64 g]) ∧ Drawn w w' A m c zs ∧ (-1 ≤ a ∧ a ≤ 24) ∧ (-1 ≤ g ∧ g ≤ 201) ∧ Below w.heap.size w w'

set_option maxHeartbeats 2000000 in
theorem DrawPeakCenter_any (A : Option Addr) (n c : Nat) (bs : List Int) (w : World) (h : BSl w w.heap.size A n c bs) (hn : n ≤ 16777216) :
    Calls Try.prog 10 #[.slice A n c] w (DrawnC w) := by
  go_enter Try.func10, Try.ntmps10
  go_wp2_with fail
  refine (l6Open_any _ _ _ _ _ h hn).mono ?_
  rintro e w1 ⟨rfl, hR1, hs1, hb1⟩
  go_wp2_with fail
  refine (l93At_any _ _ _ hR1 (by omega)).mono ?_
  rintro e w2 ⟨A2, m, c2, zs, p2, a, rfl, hD, ha, hp2, hR2, hG2⟩
  have hO2 := hD.own
  have hgl : w.heap.size < w1.heap.size := by omega
  go_wp2_with fail
  refine (pick_any _ _ _ _ hR2 (by omega)).mono ?_
  rintro e w3 ⟨y, rfl, hy, hR3, hG3⟩
  have hO3 := own_keep hO2 hG3 hgl
  have hG3' := hG2.trans hG3
  by_cases hy0 : y = 0
  · have hy0' : (y == 0) = true := by simpa using hy0
    clear hy0 hy
    go_wp2_with fail
    go_region_with (first | (go_at_call 19; ((with_reducible refine (pick_any _ _ _ _ (rd_drew hR3) (by omega)).mono ?_); rintro e w4 ⟨q, rfl, hq, hR4, hG4⟩); obtain ⟨x, hx, hq0, hq1, hcA, hcB⟩ := three_cells hq (-1) 200 201 3; clear hcB) | (go_at_call 19; ((with_reducible refine (pick_any _ _ _ _ (rd_drew (rd_alloc hR3 _)) (by omega)).mono ?_); rintro e w4 ⟨q, rfl, hq, hR4, hG4⟩); obtain ⟨x, hx, hq0, hq1, hcA, hcB⟩ := three_cells hq (-1) 200 201 3; have hcD := hcB w4 w3.heap.size ((hG4.block w3.heap.size (by simp) (by intro he; injection he; have := hG3'.size; omega)).trans (heap_alloc_new w3 _)); clear hcA hcB))
    all_goals
      go_wp2
      go_ret3
      first
        | exact ⟨A2, m, c2, zs, a, x, rfl, ⟨own_base ((own_keep (own_drew hO3) hG4 hgl).alloc _) (by omega), hD.few, hD.inI⟩, ha, by rcases hx.out with h | h | h <;> omega, hb1.trans (below_of_grown (grown_alloc ((grown_drew hG3').trans hG4) _) (Nat.le_refl _) (by omega))⟩
        | exact ⟨A2, m, c2, zs, a, x, rfl, ⟨own_base (own_keep (own_drew (hO3.alloc _)) hG4 hgl) (by omega), hD.few, hD.inI⟩, ha, by rcases hx.out with h | h | h <;> omega, hb1.trans (below_of_grown ((grown_drew (grown_alloc hG3' _)).trans hG4) (Nat.le_refl _) (by omega))⟩
  · have hy0' : (y == 0) = false := by simpa using hy0
    clear hy0 hy
    go_wp2_with fail
    refine (pick_any _ _ _ _ hR3 (by omega)).mono ?_
    rintro e w4 ⟨q, rfl, hq, hR4, hG4⟩
    have hO4 := own_keep hO3 hG4 hgl
    have hG4' := hG3'.trans hG4
    have hqb := hq.1 (by omega)
    go_wp2
    go_ret3
    exact ⟨A2, m, c2, zs, a, q, rfl, ⟨own_base hO4 (by omega), hD.few, hD.inI⟩, ha, ⟨by omega, by omega⟩, hb1.trans (below_of_grown hG4' (Nat.le_refl _) (by omega))⟩
end Go.Proofs.Ytddchlfhjiimcaa
