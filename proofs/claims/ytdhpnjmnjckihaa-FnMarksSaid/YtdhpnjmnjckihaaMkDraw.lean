/- Contracts of the reference's draws of marks. -/
import Derived.Test.YtdhpnjmnjckihaaMkShift
import Derived.Test.YtdhpnjmnjckihaaDraw
set_option linter.unusedVariables false
namespace Go.Proofs.Ytdhpnjmnjckihaa
open Go.RowKit Mk

theorem OwnR.cut {w : World} {base s n c k g : Nat} {E : TypeId} {R : Nat → Nat → Value} (h : OwnR w base E s (.slice (some ⟨g, 0, none⟩) n c) n R) (hk : k ≤ n) : OwnR w base E s (.slice (some ⟨g, 0, none⟩) k c) k R := by
  obtain ⟨xs, ⟨hl, h1⟩, h2⟩ := h
  rcases h1 with ⟨e, _⟩ | ⟨g', cap, cur, e, hb, hh, hnc, hcm, hcs, ht⟩
  · cases e
  · injection e with e1 e2 e3
    injection e1 with e1
    injection e1 with e1
    subst e1 e3
    have hle : k * s ≤ n * s := Nat.mul_le_mul_right s hk
    refine ⟨xs.take (k * s), ⟨by rw [List.length_take, hl, Nat.min_eq_left hle], .inr ⟨g, c, cur, rfl, hb, hh, by omega, hcm, hcs, ?_⟩⟩, fun i j hi hj => ?_⟩
    · rw [← ht, List.take_take, Nat.min_eq_left hle]
    · have hlt : i * s + j < k * s := by
        have : (i + 1) * s ≤ k * s := Nat.mul_le_mul_right s hi
        rw [Nat.add_mul] at this; omega
      rw [List.getElem?_take_of_lt hlt]; exact h2 i j (by omega) hj
theorem MOwn.cut {w : World} {base n c k g : Nat} {E : TypeId} {ls : List Mrk} (h : MOwn w base E (.slice (some ⟨g, 0, none⟩) n c) n ls) (hk : k ≤ n) : MOwn w base E (.slice (some ⟨g, 0, none⟩) k c) k (ls.take k) :=
  ⟨by have := h.len; simp; omega, (h.row.cut hk).congr fun i j hi _ => by unfold markV; have : gM (ls.take k) i = gM ls i := by simp [gM, hi]
                                                                          rw [this]⟩
theorem rd_drew' {w : World} {g p : Nat} (h : Rd w g p) : Rd w.drew g p := (rd_drewN (k := 1) ⟨h, World.grownBy.refl w _⟩).1
theorem rd_alloc' {w : World} {g p : Nat} (h : Rd w g p) (o : Obj) : Rd (w.alloc o) g p := h.below ((Below.refl _ _).alloc (Nat.le_refl _) _) h.lt
theorem inM_set {ls : List Mrk} (h : ∀ l ∈ ls, InM l) {i : Nat} {x : Mrk} (hx : InM x) : ∀ l ∈ ls.set i x, InM l := fun l hl => by
  rcases List.mem_or_eq_of_mem_set hl with hl | hl
  · exact h l hl
  · rw [hl]; exact hx
theorem inM_gM {ls : List Mrk} (h : ∀ l ∈ ls, InM l) (i : Nat) : InM (gM ls i) := by
  by_cases hi : i < ls.length
  · exact h _ (gM_mem hi)
  · unfold gM; rw [List.getElem?_eq_none (by omega)]; unfold InM InI; simp
/-- what l93Marks leaves -/
def MarksRes (g p : Nat) (w : World) (e : Ending) (w' : World) : Prop :=
  ∃ (b m c : Nat) (ls : List Mrk) (p' : Nat), e = .returned (.slice (some ⟨b, 0, none⟩) m c) ∧ 1 ≤ m ∧ m ≤ 5 ∧ MOwn w' w.heap.size 32 (.slice (some ⟨b, 0, none⟩) m c) m ls ∧ (∀ l ∈ ls, InM l) ∧ p' ≤ p + 100 ∧ Rd w' g p' ∧ w.grownBy w' (some g)
set_option maxHeartbeats 4000000 in
theorem l93Marks_any (g p : Nat) (w : World) (h : Rd w g p) (hp : p ≤ 900000) :
    Calls Try.prog 23 #[.pointer (some ⟨g, 0, none⟩)] w (MarksRes g p w) := by
  obtain ⟨i1, hi1, hy0, hy1, hy2⟩ := info_parts mark_info
  have hglt := h.lt
  have hO0 := MOwn.lit0 w 32
  have hR0 := rd_alloc' h (.cells #[] 32)
  have hG0 := grown_alloc (World.grownBy.refl w (some g)) (.cells #[] 32)
  go_enter Try.func23, Try.ntmps23
  go_wp2_with fail
  refine (pick_any _ _ _ _ hR0 (by omega)).mono ?_
  rintro e w1 ⟨v, rfl, hv, hR1, hG1⟩
  obtain ⟨v0, rfl⟩ := Int.eq_ofNat_of_zero_le (hv.1 (by omega)).1
  have hv6 : v0 < 4 := by have := (hv.1 (by omega)).2; omega
  obtain ⟨N, hN⟩ : ∃ N, 2 + v0 = N := ⟨_, rfl⟩
  have hNI : (2 : Int) + (v0 : Int) = (N : Int) := by omega
  have hN1 : 2 ≤ N := by omega
  have hN6 : N ≤ 5 := by omega
  have hO1 := hO0.keep hG1 hglt
  have hG1' := hG0.trans hG1
  clear hv hN hO0 hG0 hR0 hG1
  go_wp2_with fail
  refine (pick_any _ _ _ _ hR1 (by omega)).mono ?_
  rintro e w2 ⟨P0, rfl, hP0, hR2, hG2⟩
  have hP0b := hP0.1 (by omega)
  have hO2 := hO1.keep hG2 hglt
  have hG2' := hG1'.trans hG2
  clear hP0 hO1 hG1' hG2 hR1
  go_wp2_with fail
  refine (pick_any _ _ _ _ hR2 (by omega)).mono ?_
  rintro e w3 ⟨N0, rfl, hN0, hR3, hG3⟩
  have hN0b := hN0.1 (by omega)
  have hO3 := hO2.keep hG3 hglt
  have hG3' := hG2'.trans hG3
  clear hN0 hO2 hG2' hG3 hR2
  go_wp2
  go_loopw [3, 5, 6, 7] (fun v po nu i wr => ∃ (k p' : Nat) (ls : List Mrk) (P Q : Int), k ≤ N ∧ i = .int .i64 k ∧ po = .int .i64 P ∧ nu = .int .i64 Q ∧ 0 ≤ P ∧ P ≤ 50 + 61 * k ∧ 0 ≤ Q ∧ Q ≤ 1000 + 91 * k ∧ p' ≤ p + 3 + 2 * k ∧
      MOwn wr w.heap.size 32 v k ls ∧ Hid (∀ l ∈ ls, InM l) ∧ Rd wr g p' ∧ w.grownBy wr (some g)) (fun _ _ _ i _ => N - (intOf i).toNat)
  case atStart => exact ⟨0, p + 1 + 1 + 1, [], P0, N0 * 5, Nat.zero_le _, rfl, rfl, rfl, by omega, by omega, by omega, by omega, by omega, hO3, (fun l hl => by cases hl), hR3, hG3'⟩
  case round =>
    obtain ⟨k, p', ls, P, Q, hk, rfl, rfl, rfl, hP1, hP2, hQ1, hQ2, hp', hown, hin, hR, hG⟩ := hrel
    clear hO3 hG3' hR3
    by_cases hlt : k < N
    · obtain ⟨A7, c7, rfl⟩ := hown.form
      obtain ⟨xs, hxo, hxx⟩ := hown.row
      have hxl := hxo.1
      have HXX := Lib.hid hxx
      have HXL := Lib.hid hxl
      have HLL := Lib.hid hown.len
      have hs4 := hG.size
      have HIN2 : Hid (∀ l ∈ ls ++ [(⟨P, Q⟩ : Mrk)], InM l) := fun l hl => by
        rcases List.mem_append.1 hl with hl | hl
        · exact hin.out l hl
        · have : l = ⟨P, Q⟩ := by simpa using hl
          rw [this]; unfold InM InI; dsimp only; omega
      clear hxx hxl hown
      go_wp2_with (at_builtin; refine wpList_append_own _ rfl _ _ 25 rfl w.heap.size 32 i1 _ 2 16 Try.underlying25 hi1 hy0 hy1 hy2 rfl (by decide) _ _ _ rfl (hxo.alloc _) ⟨wr.heap.size, 0, none⟩ 1 1 [.int .i64 P, .int .i64 Q] rfl rfl ?c1 ?c2 ?c3 ?c4 ?c5 ?_)
      case c1 => exact cell_two_new _ _ _ _
      case c2 => intro u hu; simp at hu; rcases hu with rfl | rfl <;> rfl
      case c3 => unfold maxLen; omega
      case c4 => omega
      case c5 => simp; omega
      intro v' w5 hown' hgrow _
      have hL5 : MOwn w5 w.heap.size 32 v' (k + 1) (ls ++ [⟨P, Q⟩]) := MOwn.snoc HXX.out HLL.out HXL.out hown'
      have hG5 := grown_own hG hxo hgrow
      have hR5 := hR.below (below_own hG hxo hgrow) hglt
      clear hgrow hown' hxo hR hG
      go_wp2_with fail
      refine (pick_any _ _ _ _ hR5 (by omega)).mono ?_
      rintro e w6 ⟨a, rfl, ha, hR6, hG6⟩
      have hab := ha.1 (by omega)
      have hL6 := hL5.keep hG6 hglt
      have hG6' := hG5.trans hG6
      clear ha hG6 hL5 hG5 hR5
      go_wp2_with fail
      refine (pick_any _ _ _ _ hR6 (by omega)).mono ?_
      rintro e w7 ⟨b, rfl, hb, hR7, hG7⟩
      have hbb := hb.1 (by omega)
      have hL7 := hL6.keep hG7 hglt
      have hG7' := hG6'.trans hG7
      clear hb hG7 hL6 hG6' hR6
      go_wp2
      go_roundw
      case rel => exact ⟨k + 1, p' + 1 + 1, _, P + 1 + a, Q + 1 + b, by omega, by go_num, by first | rfl | go_num, by first | rfl | go_num, by omega, by omega, by omega, by omega, by omega, hL7, HIN2, hR7, hG7'⟩
      case measure => simp [intOf]; omega
    · obtain rfl : k = N := by omega
      obtain ⟨A7, c7, rfl⟩ := hown.form
      obtain ⟨gb, rfl, hgb1, hgb2⟩ := hown.at_ (by omega)
      go_wp2_with fail
      refine (pick_any _ _ _ _ hR (by omega)).mono ?_
      rintro e wc ⟨s, rfl, hs, hR6, hG6⟩
      have hL6 := hown.keep hG6 hglt
      have hG6' := hG.trans hG6
      have hs6 := hG6'.size
      clear hs hG hG6 hown hR
      by_cases s0 : s = 0
      · subst s0
        have HC := Lib.hid (hL6.cut (k := 1) (by omega))
        have hcap := (MSl.of_own hL6 hin.out).cap
        go_wp2
        go_ret
        exact ⟨gb, 1, c7, _, _, rfl, by omega, by omega, HC.out, (fun l hl => hin.out l (List.mem_of_mem_take hl)), by omega, hR6, hG6'⟩
      have s0' : (s == 0) = false := by simpa using s0
      by_cases s1 : s = 1
      · subst s1
        have d0 := (hL6.cells (i := 0) (by omega)).2
        have d1 := (hL6.cells (i := 1) (by omega)).2
        have f1 := hL6.frozen (1 * 2 + 1)
        have HT := Lib.hid (hL6.setN (i := 1) (by omega) (gM ls 0).n)
        rw [show 0 * 2 + 1 = 1 from rfl] at d0
        rw [show 1 * 2 + 1 = 3 from rfl] at d1 f1 HT
        clear s0
        go_wp2
        go_ret
        exact ⟨gb, k, c7, _, _, rfl, by omega, by omega, HT.out.1, inM_set hin.out ⟨(inM_gM hin.out 1).1, (inM_gM hin.out 0).2⟩, by omega, hR6.below (hL6.mark hs6 HT.out.2) hglt, grown_below hG6' (hL6.mark hs6 HT.out.2)⟩
      have s1' : (s == 1) = false := by simpa using s1
      by_cases s2 : s = 2
      · subst s2
        have d1 := (hL6.cells (i := k - 1) (by omega)).1
        have f1 := hL6.frozen ((k - 1) * 2)
        have HT := Lib.hid (hL6.setP (i := k - 1) (by omega) 100001)
        clear s0 s1
        go_wp2
        go_ret
        exact ⟨gb, k, c7, _, _, rfl, by omega, by omega, HT.out.1, inM_set hin.out ⟨by unfold InI; dsimp only; omega, (inM_gM hin.out (k - 1)).2⟩, by omega, hR6.below (hL6.mark hs6 HT.out.2) hglt, grown_below hG6' (hL6.mark hs6 HT.out.2)⟩
      have s2' : (s == 2) = false := by simpa using s2
      clear s0 s1 s2
      go_wp2
      go_ret
      exact ⟨gb, k, c7, _, _, rfl, by omega, by omega, hL6, hin.out, by omega, hR6, hG6'⟩

/-- marks that a draw hands out -/
structure MarksD (w w' : World) (b m c : Nat) (ls : List Mrk) : Prop where
  pos : 1 ≤ m
  few : m ≤ 5
  own : MOwn w' w.heap.size 32 (.slice (some ⟨b, 0, none⟩) m c) m ls
  inM : ∀ l ∈ ls, InM l
def DrawnM (w : World) (e : Ending) (w' : World) : Prop := ∃ (b m c : Nat) (ls : List Mrk), e = .returned (.slice (some ⟨b, 0, none⟩) m c) ∧ MarksD w w' b m c ls ∧ Below w.heap.size w w'
set_option maxHeartbeats 1000000 in
theorem DrawMarksValid_any (A : Option Addr) (n c : Nat) (bs : List Int) (w : World) (h : BSl w w.heap.size A n c bs) (hn : n ≤ 16777216) :
    Calls Try.prog 12 #[.slice A n c] w (DrawnM w) := by
  go_enter Try.func12, Try.ntmps12
  go_wp2_with fail
  refine (l6Open_any _ _ _ _ _ h hn).mono ?_
  rintro e w1 ⟨rfl, hR1, hs1, hb1⟩
  go_wp2_with fail
  refine (l93Marks_any _ _ _ hR1 (by omega)).mono ?_
  rintro e w2 ⟨b, m, c2, ls, p2, rfl, h1, h2, hL, hin, hp2, hR2, hG2⟩
  have hgl : w.heap.size < w1.heap.size := by omega
  have HIN := Lib.hid hin
  clear hin
  go_wp2_with fail
  refine (pick_any _ _ _ _ hR2 (by omega)).mono ?_
  rintro e w3 ⟨y, rfl, hy, hR3, hG3⟩
  have hL3 := hL.keep hG3 hgl
  have hG3' := hG2.trans hG3
  have hs3 := hG3'.size
  by_cases hy0 : y = 0
  · have hy0' : (y == 0) = true := by simpa using hy0
    have d1 := (hL3.cells (i := 0) (by omega)).1
    have f1 := hL3.frozen (0 * 2)
    have HT := Lib.hid (hL3.setP (i := 0) (by omega) (-1))
    rw [Nat.zero_mul] at d1 f1 HT
    have hmI : (0 : Int) < (m : Int) := by omega
    clear hy0 hy
    go_wp2
    go_ret
    exact ⟨b, m, c2, _, rfl, ⟨h1, h2, HT.out.1.base_ (by omega), inM_set HIN.out ⟨by unfold InI; dsimp only; omega, (inM_gM HIN.out 0).2⟩⟩, hb1.trans ((below_of_grown hG3' (Nat.le_refl _) (by omega)).trans ((hL3.mark hs3 HT.out.2).mono (by omega)))⟩
  · have hy0' : (y == 0) = false := by simpa using hy0
    clear hy0 hy
    go_wp2
    go_ret
    exact ⟨b, m, c2, ls, rfl, ⟨h1, h2, hL3.base_ (by omega), HIN.out⟩, hb1.trans (below_of_grown hG3' (Nat.le_refl _) (by omega))⟩
/-- the index that the draw of a distance computes, and what stands there -/
theorem four_cells {q r : Int} (hq : Picked 9 q) (hr : Picked 3 r) (a b c d : Int) (t : TypeId) : ∃ (D : Int) (I : Nat) (x : Int), q.tdiv 6 = D ∧ IntKind.i64.wrap D = D ∧ IntKind.i64.wrap (1 + r) = 1 + r ∧ IntKind.i64.wrap (D * (1 + r)) = (I : Int) ∧ I < 4 ∧ Hid (x = a ∨ x = b ∨ x = c ∨ x = d) ∧
    (∀ W : World, (W.alloc (.cells #[.int .i64 a, .int .i64 b, .int .i64 c, .int .i64 d] t)).cell? ⟨W.heap.size, I, none⟩ = some (.int .i64 x)) ∧
    ∀ (W : World) (k : Nat), W.heap[k]? = some (.cells #[.int .i64 a, .int .i64 b, .int .i64 c, .int .i64 d] t (0, 0)) → W.cell? ⟨k, I, none⟩ = some (.int .i64 x) := by
  have h := hq.1 (by omega)
  have h' := hr.1 (by omega)
  have hw : IntKind.i64.wrap (1 + r) = 1 + r := IntWalk.i64_in _ (by omega)
  have key : ∃ (D : Int) (I : Nat), q.tdiv 6 = D ∧ IntKind.i64.wrap D = D ∧ IntKind.i64.wrap (D * (1 + r)) = (I : Int) ∧ I < 4 := by
    rw [Int.tdiv_eq_ediv_of_nonneg (by omega)]
    rcases (by omega : q / 6 = 0 ∨ q / 6 = 1) with e | e
    · rw [e]
      exact ⟨0, 0, rfl, by decide, by rw [Int.zero_mul]; decide, by omega⟩
    · rw [e]
      exact ⟨1, (1 + r).toNat, rfl, by decide, by rw [Int.one_mul, hw]; omega, by omega⟩
  obtain ⟨D, I, h1, h2, h3, h4⟩ := key
  obtain rfl | rfl | rfl | rfl : I = 0 ∨ I = 1 ∨ I = 2 ∨ I = 3 := by omega
  · exact ⟨D, 0, a, h1, h2, hw, h3, h4, .inl rfl, fun W => (cell_of_row _ _ _ _ _ _ (heap_alloc_new W _)).trans rfl, fun W k hk => (cell_of_row _ _ _ _ _ _ hk).trans rfl⟩
  · exact ⟨D, 1, b, h1, h2, hw, h3, h4, .inr (.inl rfl), fun W => (cell_of_row _ _ _ _ _ _ (heap_alloc_new W _)).trans rfl, fun W k hk => (cell_of_row _ _ _ _ _ _ hk).trans rfl⟩
  · exact ⟨D, 2, c, h1, h2, hw, h3, h4, .inr (.inr (.inl rfl)), fun W => (cell_of_row _ _ _ _ _ _ (heap_alloc_new W _)).trans rfl, fun W k hk => (cell_of_row _ _ _ _ _ _ hk).trans rfl⟩
  · exact ⟨D, 3, d, h1, h2, hw, h3, h4, .inr (.inr (.inr rfl)), fun W => (cell_of_row _ _ _ _ _ _ (heap_alloc_new W _)).trans rfl, fun W k hk => (cell_of_row _ _ _ _ _ _ hk).trans rfl⟩
/-- the state behind the calls: the reader, the marks, the world's growth -/
structure MSt (w1 w3 W : World) (g p b m c : Nat) (ls : List Mrk) : Prop where
  rd : Rd W g p
  own : MOwn W w1.heap.size 32 (.slice (some ⟨b, 0, none⟩) m c) m ls
  gr : w1.grownBy W (some g)
  sz : w3.heap.size ≤ W.heap.size
theorem MSt.call {w1 w3 W W' : World} {g p q b m c : Nat} {ls : List Mrk} (h : MSt w1 w3 W g p b m c ls) (hg : g < w1.heap.size) (hR : Rd W' g q) (hG : W.grownBy W' (some g)) : MSt w1 w3 W' g q b m c ls :=
  ⟨hR, h.own.keep hG hg, h.gr.trans hG, Nat.le_trans h.sz hG.size⟩
theorem MSt.alloc {w1 w3 W : World} {g p b m c : Nat} {ls : List Mrk} (h : MSt w1 w3 W g p b m c ls) (o : Obj) : MSt w1 w3 (W.alloc o) g p b m c ls :=
  ⟨rd_alloc' h.rd o, h.own.alloc o, grown_alloc h.gr o, Nat.le_trans h.sz (by simp)⟩
def DrawnMB (w : World) (e : Ending) (w' : World) : Prop := ∃ (b m c : Nat) (ls : List Mrk) (by1 : Int), e = .returned (.tuple #[.slice (some ⟨b, 0, none⟩) m c, .int .i64 by1]) ∧ MarksD w w' b m c ls ∧ (-100001 ≤ by1 ∧ by1 ≤ 100001) ∧ Below w.heap.size w w'
theorem heap_kept {w W : World} {g k : Nat} {o : Obj} (h : (w.alloc o).grownBy W (some g)) (hk : k = w.heap.size) (hg : g < w.heap.size) {cs : Array Value} {t : TypeId} (ho : o = .cells cs t) : W.heap[k]? = some (.cells cs t (0, 0)) := by
  subst hk ho
  rw [h.block _ (by simp) (by intro he; injection he; omega)]
  exact heap_alloc_new w _
set_option maxHeartbeats 4000000 in
theorem DrawMarkShift_any (A : Option Addr) (n c : Nat) (bs : List Int) (w : World) (h : BSl w w.heap.size A n c bs) (hn : n ≤ 16777216) :
    Calls Try.prog 13 #[.slice A n c] w (DrawnMB w) := by
  go_enter Try.func13, Try.ntmps13
  go_wp2_with fail
  refine (l6Open_any _ _ _ _ _ h hn).mono ?_
  rintro e w1 ⟨rfl, hR1, hs1, hb1⟩
  go_wp2_with fail
  refine (l93Marks_any _ _ _ hR1 (by omega)).mono ?_
  rintro e w2 ⟨b, m, c2, ls, p2, rfl, h1, h2, hL, hin, hp2, hR2, hG2⟩
  have hgl : w.heap.size < w1.heap.size := by omega
  have HIN := Lib.hid hin
  have HM : MSt w1 w2 w2 w.heap.size p2 b m c2 ls := ⟨hR2, hL, hG2, Nat.le_refl _⟩
  have hgl2 : w.heap.size < w2.heap.size := by have := hG2.size; omega
  have HD : MSt w1 w2 w2.drew w.heap.size p2 b m c2 ls := ⟨rd_drew' hR2, hL.drewN 1, grown_drew hG2, Nat.le_refl _⟩
  clear hin hL hG2 hR2 hR1 HM
  go_wp2_with fail
  go_region_with (first
    | (go_at_call 24; ((with_reducible refine (pick_any _ _ 200 _ HD.rd (by omega)).mono ?_); rintro e w4 ⟨v, rfl, hv, hR4, hG4⟩); have H4 := HD.call hgl hR4 hG4; have hv' := hv.1 (by omega); have u4 : IntKind.i64.wrap (v - 20) = v - 20 := IntWalk.i64_in _ (by omega); clear hv)
    | (go_at_call 24; ((with_reducible refine (pick_any _ _ 9 _ H4.rd (by omega)).mono ?_); rintro e w5 ⟨q, rfl, hq, hR5, hG5⟩); have H5 := H4.call hgl hR5 hG5)
    | (go_at_call 24; ((with_reducible refine (pick_any _ _ 9 _ (rd_alloc' H4.rd _) (by omega)).mono ?_); rintro e w5 ⟨q, rfl, hq, hR5, hG5⟩); have H5 := (H4.alloc _).call hgl hR5 hG5; have HK5 := heap_kept hG5 rfl (by have := H4.sz; omega) rfl)
    | (go_at_call 24; ((with_reducible refine (pick_any _ _ 3 _ H5.rd (by omega)).mono ?_); rintro e w6 ⟨r, rfl, hr, hR6, hG6⟩); have H6 := H5.call hgl hR6 hG6; obtain ⟨D, I, x, t1, t2, t3, t4, hI, hx, hcA, hcB⟩ := four_cells hq hr (v - 20) 100000 (-100001) 99700 3; (first | (have HK6 := hcB w6 w4.heap.size ((hG6.block w4.heap.size (by have := hG5.size; simp at this; omega) (by intro he; injection he; have := H4.sz; omega)).trans HK5); clear hcA hcB) | clear hcB))
    | (go_at_call 24; ((with_reducible refine (pick_any _ _ 3 _ (rd_alloc' H5.rd _) (by omega)).mono ?_); rintro e w6 ⟨r, rfl, hr, hR6, hG6⟩); have H6 := (H5.alloc _).call hgl hR6 hG6; obtain ⟨D, I, x, t1, t2, t3, t4, hI, hx, hcA, hcB⟩ := four_cells hq hr (v - 20) 100000 (-100001) 99700 3; have HK6 := hcB w6 w5.heap.size (heap_kept hG6 rfl (by have := H5.sz; omega) rfl); clear hcA hcB))
  all_goals
    go_wp2
    go_ret2
    first
      | exact ⟨b, m, c2, ls, x, rfl, ⟨h1, h2, H6.own.base_ (by omega), HIN.out⟩, by rcases hx.out with h | h | h | h <;> omega, hb1.trans (below_of_grown H6.gr (Nat.le_refl _) (by omega))⟩
      | exact ⟨b, m, c2, ls, x, rfl, ⟨h1, h2, (H6.own.alloc _).base_ (by omega), HIN.out⟩, by rcases hx.out with h | h | h | h <;> omega, hb1.trans (below_of_grown (grown_alloc H6.gr _) (Nat.le_refl _) (by omega))⟩
end Go.Proofs.Ytdhpnjmnjckihaa
