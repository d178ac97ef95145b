/- Contracts of the reference's draws of links, with what goes beside them. -/
import Derived.Test.YtaefojbgialiaaaLkDraw
set_option linter.unusedVariables false
namespace Go.Proofs.Ytaefojbgialiaaa
open Go.RowKit Lk

/-- links that a draw hands out -/
structure LinksD (w w' : World) (many : Nat) (A : Option Addr) (m c : Nat) (ls : List Link) : Prop where
  pos : 1 ≤ many
  six : many ≤ 6
  few : m ≤ 9
  own : LOwn w' w.heap.size 41 (.slice A m c) m ls
  small : ∀ l ∈ ls, Sz 300000 l
theorem LinksD.inL {w w' : World} {many : Nat} {A : Option Addr} {m c : Nat} {ls : List Link} (h : LinksD w w' many A m c ls) : ∀ l ∈ ls, InL l := fun l hl => (h.small l hl).inL (by omega)
/-- a draw's result: links -/
def DrawnL (w : World) (e : Ending) (w' : World) : Prop := ∃ (many : Nat) (A : Option Addr) (m c : Nat) (ls : List Link), e = .returned (.tuple #[.int .i64 (many : Int), .slice A m c]) ∧ LinksD w w' many A m c ls ∧ Below w.heap.size w w'
/-- .. and a tolerance -/
def DrawnLT (w : World) (e : Ending) (w' : World) : Prop := ∃ (many : Nat) (A : Option Addr) (m c : Nat) (ls : List Link) (tol : Int), e = .returned (.tuple #[.int .i64 (many : Int), .slice A m c, .int .i64 tol]) ∧ LinksD w w' many A m c ls ∧ (-1 ≤ tol ∧ tol ≤ 200001) ∧ Below w.heap.size w w'
/-- .. and energies -/
def DrawnLE (w : World) (e : Ending) (w' : World) : Prop := ∃ (many : Nat) (A : Option Addr) (m c : Nat) (ls : List Link) (A2 : Option Addr) (m2 c2 : Nat) (es : List Int), e = .returned (.tuple #[.int .i64 (many : Int), .slice A m c, .slice A2 m2 c2]) ∧ LinksD w w' many A m c ls ∧
  w'.ownsRow w.heap.size 3 1 (.slice A2 m2 c2) m2 (es.map (Value.int .i64)) ∧ m2 ≤ 7 ∧ (∀ z ∈ es, -10000001 ≤ z ∧ z ≤ 10000001) ∧ Below w.heap.size w w'

theorem three_cells' {y : Int} (hy : Picked 3 y) (a b c : Int) (t : TypeId) : ∃ x, Hid (x = a ∨ x = b ∨ x = c) ∧ 0 ≤ y ∧ y < 3 ∧
    (∀ W : World, (W.alloc (.cells #[.int .i64 a, .int .i64 b, .int .i64 c] t)).cell? ⟨W.heap.size, y.toNat, none⟩ = some (.int .i64 x)) ∧
    ∀ (W : World) (k : Nat), W.heap[k]? = some (.cells #[.int .i64 a, .int .i64 b, .int .i64 c] t (0, 0)) → W.cell? ⟨k, y.toNat, none⟩ = some (.int .i64 x) := by
  have h := hy.1 (by omega)
  obtain rfl | rfl | rfl : y = 0 ∨ y = 1 ∨ y = 2 := by omega
  · exact ⟨a, .inl rfl, h.1, h.2, fun W => (cell_of_row _ _ _ _ _ _ (heap_alloc_new W _)).trans rfl, fun W k hk => (cell_of_row _ _ _ _ _ _ hk).trans rfl⟩
  · exact ⟨b, .inr (.inl rfl), h.1, h.2, fun W => (cell_of_row _ _ _ _ _ _ (heap_alloc_new W _)).trans rfl, fun W k hk => (cell_of_row _ _ _ _ _ _ hk).trans rfl⟩
  · exact ⟨c, .inr (.inr rfl), h.1, h.2, fun W => (cell_of_row _ _ _ _ _ _ (heap_alloc_new W _)).trans rfl, fun W k hk => (cell_of_row _ _ _ _ _ _ hk).trans rfl⟩
theorem rd_alloc {w : World} {g p : Nat} (h : Rd w g p) (o : Obj) : Rd (w.alloc o) g p := h.below ((Below.refl _ _).alloc (Nat.le_refl _) _) h.lt

theorem two_cells' {y : Int} (hy : Picked 2 y) (a b : Int) (t : TypeId) : ∃ x, Hid (x = a ∨ x = b) ∧ 0 ≤ y ∧ y < 2 ∧
    ∀ (W : World) (k : Nat), W.heap[k]? = some (.cells #[.int .i64 a, .int .i64 b] t (0, 0)) → W.cell? ⟨k, y.toNat, none⟩ = some (.int .i64 x) := by
  have h := hy.1 (by omega)
  obtain rfl | rfl : y = 0 ∨ y = 1 := by omega
  · exact ⟨a, .inl rfl, h.1, h.2, fun W k hk => (cell_of_row _ _ _ _ _ _ hk).trans rfl⟩
  · exact ⟨b, .inr rfl, h.1, h.2, fun W k hk => (cell_of_row _ _ _ _ _ _ hk).trans rfl⟩
theorem grown_below' {w a b : World} {g B : Nat} (h : w.grownBy a (some g)) (hb : Below B a b) (hB : g < B) (hB2 : w.heap.size ≤ B) : w.grownBy b (some g) :=
  ⟨hb.os.trans h.os, hb.tape.trans h.tape, hb.output.trans h.output, Nat.le_trans h.size hb.size, fun k hk hne => (hb.block k (by omega)).trans (h.block k hk hne)⟩
set_option maxHeartbeats 1000000 in
theorem DrawLinksJoined_any (A : Option Addr) (n c : Nat) (bs : List Int) (w : World) (h : BSl w w.heap.size A n c bs) (hn : n ≤ 16777216) :
    Calls Try.prog 24 #[.slice A n c] w (DrawnL w) := by
  go_enter Try.func24, Try.ntmps24
  go_wp2_with fail
  refine (l6Open_any _ _ _ _ _ h hn).mono ?_
  rintro e w1 ⟨rfl, hR1, hs1, hb1⟩
  go_wp2_with fail
  refine (l93Links_any _ _ _ hR1 (by omega)).mono ?_
  rintro e w2 ⟨many, A2, m, c2, ls, p2, rfl, h1, h2, h3, hL, hsz, _, _, hG2⟩
  go_wp2
  go_ret2
  exact ⟨many, A2, m, c2, ls, rfl, ⟨h1, h2, by omega, hL.base_ (by omega), hsz⟩, hb1.trans (below_of_grown hG2 (Nat.le_refl _) (by omega))⟩

set_option maxHeartbeats 2000000 in
theorem DrawLinksNear_any (A : Option Addr) (n c : Nat) (bs : List Int) (w : World) (h : BSl w w.heap.size A n c bs) (hn : n ≤ 16777216) :
    Calls Try.prog 22 #[.slice A n c] w (DrawnLT w) := by
  go_enter Try.func22, Try.ntmps22
  go_wp2_with fail
  refine (l6Open_any _ _ _ _ _ h hn).mono ?_
  rintro e w1 ⟨rfl, hR1, hs1, hb1⟩
  go_wp2_with fail
  refine (l93Links_any _ _ _ hR1 (by omega)).mono ?_
  rintro e w2 ⟨many, A2, m, c2, ls, p2, rfl, h1, h2, h3, hL, hsz, hp2, hR2, hG2⟩
  have hgl : w.heap.size < w1.heap.size := by omega
  have HSZ := Lib.hid hsz
  clear hsz
  go_wp2_with fail
  refine (pick_any _ _ _ _ hR2 (by omega)).mono ?_
  rintro e w3 ⟨y, rfl, hy, hR3, hG3⟩
  have hL3 := hL.keep hG3 hgl
  have hG3' := hG2.trans hG3
  by_cases hy0 : y = 0
  · have hy0' : (y == 0) = true := by simpa using hy0
    clear hy0 hy
    go_wp2_with fail
    go_region_with (first | (go_at_call 45; ((with_reducible refine (pick_any _ _ _ _ (rd_drew hR3) (by omega)).mono ?_); rintro e w4 ⟨q, rfl, hq, hR4, hG4⟩); obtain ⟨x, hx, hq0, hq1, hcA, hcB⟩ := three_cells' hq (-1) 200000 200001 3; clear hcB) | (go_at_call 45; ((with_reducible refine (pick_any _ _ _ _ (rd_drew (rd_alloc hR3 _)) (by omega)).mono ?_); rintro e w4 ⟨q, rfl, hq, hR4, hG4⟩); obtain ⟨x, hx, hq0, hq1, hcA, hcB⟩ := three_cells' hq (-1) 200000 200001 3; have hcD := hcB w4 w3.heap.size ((hG4.block w3.heap.size (by simp) (by intro he; injection he; have := hG3'.size; omega)).trans (heap_alloc_new w3 _)); clear hcA hcB))
    all_goals
      go_wp2
      go_ret3
      first
        | exact ⟨many, A2, m, c2, ls, x, rfl, ⟨h1, h2, by omega, (((LOwn.keep (w := w3.drew) (hL3.drewN 1) hG4 hgl).alloc _).base_ (by omega)), HSZ.out⟩, by rcases hx.out with h | h | h <;> omega, hb1.trans (below_of_grown (grown_alloc ((grown_drew hG3').trans hG4) _) (Nat.le_refl _) (by omega))⟩
        | exact ⟨many, A2, m, c2, ls, x, rfl, ⟨h1, h2, by omega, ((LOwn.keep (w := (w3.alloc _).drew) ((hL3.alloc _).drewN 1) hG4 hgl).base_ (by omega)), HSZ.out⟩, by rcases hx.out with h | h | h <;> omega, hb1.trans (below_of_grown ((grown_drew (grown_alloc hG3' _)).trans hG4) (Nat.le_refl _) (by omega))⟩
  · have hy0' : (y == 0) = false := by simpa using hy0
    clear hy0 hy
    go_wp2_with fail
    refine (pick_any _ _ _ _ hR3 (by omega)).mono ?_
    rintro e w4 ⟨q, rfl, hq, hR4, hG4⟩
    have hL4 := hL3.keep hG4 hgl
    have hG4' := hG3'.trans hG4
    have hqb := hq.1 (by omega)
    go_wp2
    go_ret3
    exact ⟨many, A2, m, c2, ls, q, rfl, ⟨h1, h2, by omega, hL4.base_ (by omega), HSZ.out⟩, ⟨by omega, by omega⟩, hb1.trans (below_of_grown hG4' (Nat.le_refl _) (by omega))⟩

set_option maxHeartbeats 2000000 in
theorem DrawLinksGap_any (A : Option Addr) (n c : Nat) (bs : List Int) (w : World) (h : BSl w w.heap.size A n c bs) (hn : n ≤ 16777216) :
    Calls Try.prog 23 #[.slice A n c] w (DrawnLE w) := by
  obtain ⟨i0, hi, hz0, hz1, hz2⟩ := info_parts int_info
  go_enter Try.func23, Try.ntmps23
  go_wp2_with fail
  refine (l6Open_any _ _ _ _ _ h hn).mono ?_
  rintro e w1 ⟨rfl, hR1, hs1, hb1⟩
  go_wp2_with fail
  refine (l93Links_any _ _ _ hR1 (by omega)).mono ?_
  rintro e w2 ⟨many, A2, m, c2, ls, p2, rfl, h1, h2, h3, hL, hsz, hp2, hR2, hG2⟩
  have hgl : w.heap.size < w1.heap.size := by omega
  clear hs1
  have HSZ := Lib.hid hsz
  have hO2 : (w2.alloc (.cells #[] 3)).ownsRow w1.heap.size 3 1 (.slice (some ⟨w2.heap.size, 0, none⟩) 0 0) 0 (([] : List Int).map (Value.int .i64)) := own_base (own_lit0 w2 3) hG2.size
  have hL2 := hL.alloc (.cells #[] 3)
  have hG2' := grown_alloc hG2 (.cells #[] 3)
  have hR2' := rd_alloc hR2 (.cells #[] 3)
  clear hsz hL hG2 hR2
  go_wp2
  go_loopw [8, 9] (fun v i wr => ∃ (k q : Nat) (zs : List Int), k ≤ many ∧ i = .int .i64 k ∧ q ≤ p2 + k ∧ wr.ownsRow w1.heap.size 3 1 v k (zs.map (Value.int .i64)) ∧ Hid (∀ z ∈ zs, 0 ≤ z ∧ z ≤ 1000) ∧ LOwn wr w1.heap.size 41 (.slice A2 m c2) m ls ∧ Rd wr w.heap.size q ∧ w1.grownBy wr (some w.heap.size)) (fun _ i _ => many - (intOf i).toNat)
  case atStart => exact ⟨0, p2, [], Nat.zero_le _, rfl, by omega, hO2, (fun z hz => by cases hz), hL2, hR2', hG2'⟩
  case round =>
    obtain ⟨k, q, zs, hk, rfl, hq, hown, hin, hL3, hR, hG⟩ := hrel
    clear hO2 hL2 hG2' hR2'
    by_cases hlt : k < many
    · go_wp2_with fail
      refine (pick_any _ _ _ _ hR (by omega)).mono ?_
      rintro e w4 ⟨x, rfl, hx, hR4, hG4⟩
      have hxb := hx.1 (by omega)
      have hO4 := own_keep hown hG4 hgl
      have hL4 := hL3.keep hG4 hgl
      have hG4' := hG.trans hG4
      have hs4 := hG4'.size
      clear hx hG hG4 hown hR hL3
      go_wp2_with (at_builtin; refine wpList_append_own _ rfl _ _ 29 rfl w1.heap.size 3 i0 (.int .i64 0) 1 8 Try.underlying29 hi hz0 hz1 hz2 rfl (by decide) _ _ _ rfl (hO4.alloc _) ⟨w4.heap.size, 0, none⟩ 1 1 [.int .i64 (x * 7)] rfl rfl ?c1 ?c2 ?c3 ?c4 ?c5 ?_)
      case c1 => exact cell_one_new _ _ _
      case c2 => intro u hu; simp at hu; subst hu; rfl
      case c3 => unfold maxLen; omega
      case c4 => omega
      case c5 => simp; omega
      intro v' w5 hown' hgrow _
      rw [ints_snoc] at hown'
      obtain ⟨xs, hxo, hxx⟩ := hL4.row
      have hb5 : Below w1.heap.size w4 w5 := ((Below.refl _ _).alloc hs4 _).grown hgrow (by simp; omega) (fun g hg => (hO4.lt g hg).1)
      have hL5 : LOwn w5 w1.heap.size 41 (.slice A2 m c2) m ls := ⟨hL4.len, ⟨xs, (hxo.alloc _).kept hgrow (own_ne hxo hO4 (by decide)), hxx⟩⟩
      have hG5 := grown_below' hG4' hb5 hgl (Nat.le_refl _)
      have hR5 := hR4.below hb5 hgl
      have HO := Lib.hid hown'
      clear hgrow hO4 hG4' hR4 hown' hL4 hxo hxx hb5
      go_wp2
      go_roundw
      case rel =>
        refine ⟨k + 1, q + 1, zs ++ [x * 7], by omega, by go_num, by omega, HO.out, fun z hz => ?_, hL5, hR5, hG5⟩
        rcases List.mem_append.1 hz with hz | hz
        · exact hin.out z hz
        · simp at hz; subst hz; omega
      case measure => simp [intOf]; omega
    · obtain rfl : k = many := by omega
      obtain ⟨EA, ec, rfl⟩ := own_form hown
      obtain ⟨eb, rfl, heb1, heb2⟩ := own_at hown (by omega)
      have hzl : zs.length = k := by have := hown.1; simpa using this
      have HZL := Lib.hid hzl
      clear hzl
      go_wp2_with fail
      refine (pick_any _ _ _ _ hR (by omega)).mono ?_
      rintro e w4 ⟨y, rfl, hy, hR4, hG4⟩
      have hO4 := own_keep hown hG4 hgl
      have hL4 := hL3.keep hG4 hgl
      have hG4' := hG.trans hG4
      have hs4 := hG4'.size
      clear hy hG hG4 hown hR hL3
      by_cases y0 : y = 0
      · subst y0
        go_wp2_with (at_builtin; refine wpList_append_own _ rfl _ _ 29 rfl w1.heap.size 3 i0 (.int .i64 0) 1 8 Try.underlying29 hi hz0 hz1 hz2 rfl (by decide) _ _ _ rfl (hO4.alloc _) ⟨w4.heap.size, 0, none⟩ 1 1 [.int .i64 5] rfl rfl ?d1 ?d2 ?d3 ?d4 ?d5 ?_)
        case d1 => exact cell_one_new _ _ _
        case d2 => intro u hu; simp at hu; subst hu; rfl
        case d3 => unfold maxLen; omega
        case d4 => omega
        case d5 => simp; omega
        intro v' w5 hown' hgrow _
        rw [ints_snoc] at hown'
        obtain ⟨xs, hxo, hxx⟩ := hL4.row
        have hb5 : Below w1.heap.size w4 w5 := ((Below.refl _ _).alloc hs4 _).grown hgrow (by simp; omega) (fun g hg => (hO4.lt g hg).1)
        have hL5 : LOwn w5 w1.heap.size 41 (.slice A2 m c2) m ls := ⟨hL4.len, ⟨xs, (hxo.alloc _).kept hgrow (own_ne hxo hO4 (by decide)), hxx⟩⟩
        have hG5 := grown_below' hG4' hb5 hgl (Nat.le_refl _)
        obtain ⟨A5, c5, rfl⟩ := own_form hown'
        clear hgrow hO4 hG4' hL4 hxo hxx hb5
        go_wp2
        go_ret3
        refine ⟨k, A2, m, c2, ls, A5, k + 1, c5, zs ++ [5], rfl, ⟨h1, h2, by omega, hL5.base_ (by omega), HSZ.out⟩, own_base hown' (by omega), by omega, fun z hz => ?_, hb1.trans (below_of_grown hG5 (Nat.le_refl _) (by omega))⟩
        rcases List.mem_append.1 hz with hz | hz
        · have := hin.out z hz; omega
        · simp at hz; subst hz; omega
      · have y0' : (y == 0) = false := by simpa using y0
        by_cases y1 : y = 1
        · subst y1
          go_wp2_with fail
          refine (pick_any _ _ _ _ (rd_alloc hR4 _) (by omega)).mono ?_
          rintro e w5 ⟨x, rfl, hx, hR5, hG5⟩
          obtain ⟨v, hv, hx0, hx1, hcc⟩ := two_cells' hx 10000001 (-10000000) 3
          have hw5 : w5.heap[w4.heap.size]? = some (.cells #[.int .i64 10000001, .int .i64 (-10000000)] 3 (0, 0)) := (hG5.block w4.heap.size (by simp) (by intro he; injection he; omega)).trans (heap_alloc_new w4 _)
          have hcell := hcc w5 _ hw5
          have hO5 := own_keep (hO4.alloc _) hG5 hgl
          have hL5 := (hL4.alloc _).keep hG5 hgl
          have hG5' := (grown_alloc hG4' _).trans hG5
          have hs5 := hG5'.size
          have hzl := HZL.out
          have r0 : w5.cell? ⟨eb, 0, none⟩ = some (.int .i64 (gI zs 0)) := (hO5.cellAt 0 (by omega)).trans (getElem?_map_some (by omega))
          have f0 := hO5.frozenAt 0
          have hst := hO5.stored 0 (.int .i64 v)
          rw [← List.map_set] at hst
          have hbS : Below w1.heap.size w5 (w5.setCell ⟨eb, 0, none⟩ (.int .i64 v)) := below_mark hO5 hs5 hst.2
          obtain ⟨xs, hxo, hxx⟩ := hL5.row
          have hLS : LOwn (w5.setCell ⟨eb, 0, none⟩ (.int .i64 v)) w1.heap.size 41 (.slice A2 m c2) m ls := ⟨hL5.len, ⟨xs, hxo.kept hst.2 (own_ne hxo hO5 (by decide)), hxx⟩⟩
          have HS := Lib.hid (And.intro hst.1 (And.intro hLS (grown_below' hG5' hbS hgl (Nat.le_refl _))))
          clear hst hbS hxo hxx hLS hw5 hcc hO4 hL4 hG4' hR4 hx hG5 hzl y0'
          go_wp2
          go_ret3
          refine ⟨k, A2, m, c2, ls, _, k, ec, zs.set 0 v, rfl, ⟨h1, h2, by omega, HS.out.2.1.base_ (by omega), HSZ.out⟩, own_base HS.out.1 (by omega), by omega, fun z hz => ?_, hb1.trans (below_of_grown HS.out.2.2 (Nat.le_refl _) (by omega))⟩
          rcases List.mem_or_eq_of_mem_set hz with hz | hz
          · have := hin.out z hz; omega
          · rw [hz]; rcases hv.out with h | h <;> omega
        · have y1' : (y == 1) = false := by simpa using y1
          clear y0 y1
          go_wp2
          go_ret3
          exact ⟨k, A2, m, c2, ls, _, k, ec, zs, rfl, ⟨h1, h2, by omega, hL4.base_ (by omega), HSZ.out⟩, own_base hO4 (by omega), by omega, (fun z hz => by have := hin.out z hz; omega), hb1.trans (below_of_grown hG4' (Nat.le_refl _) (by omega))⟩
end Go.Proofs.Ytaefojbgialiaaa
