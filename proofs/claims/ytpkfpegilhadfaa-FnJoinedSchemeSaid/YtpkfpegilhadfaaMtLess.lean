/- The comparison that SchemeLines hands to slices.SortFunc, and the sort's contract at lines. -/
import Derived.Test.YtpkfpegilhadfaaMtTests
import Derived.Test.YtpkfpegilhadfaaMtSort
import Derived.Shelf.SlSortCmp.NoneTotal
import Derived.Lib.SortBridge
namespace Go.Proofs.Ytpkfpegilhadfaa
open Go.RowKit Go.Shelf Go.Lib Go.Sort Mt

theorem three_ints (w : World) (a b c : Int) (t : TypeId) (ha : InI a) (hb : InI b) (hc : InI c) : ISl (w.alloc (.cells #[.int .i64 a, .int .i64 b, .int .i64 c] t)) (w.alloc (.cells #[.int .i64 a, .int .i64 b, .int .i64 c] t)).heap.size (some ⟨w.heap.size, 0, none⟩) 3 3 [a, b, c] := by
  obtain ⟨h1, h2, h3⟩ := three_new w (.int .i64 a) (.int .i64 b) (.int .i64 c) t
  refine ⟨rfl, Nat.le_refl _, fun z hz => ?_, fun _ => ⟨w.heap.size, 0, rfl, by simp, fun i hi => ?_⟩⟩
  · simp only [List.mem_cons, List.not_mem_nil, or_false] at hz
    rcases hz with rfl | rfl | rfl <;> assumption
  · match i, hi with
    | 0, _ => exact h1
    | 1, _ => exact h2
    | 2, _ => exact h3
theorem compare_back (a b : Int) (w : World) : Calls Try.prog 46 #[.int .i64 a, .int .i64 b] w fun e w' => e = .returned (.int .i64 (cmpI a b)) ∧ w' = w :=
  (compare_any a b w).mono fun _ _ ⟨h1, h2⟩ => ⟨h1, h2.symm⟩
set_option maxRecDepth 100000 in
set_option maxHeartbeats 4000000 in
theorem closure_any (x y : Line) (W : World) : Calls Try.prog 44 #[.agg #[.int .i64 x.u, .int .i64 x.l, .int .i64 x.n], .agg #[.int .i64 y.u, .int .i64 y.l, .int .i64 y.n]] W fun e w' => e = .returned (.int .i64 (cmpL x y)) ∧ ∃ q os', w' = grow (W.drewN q) os' := by
  obtain ⟨C1, hC1⟩ : ∃ C, cmpI x.n y.n = C := ⟨_, rfl⟩
  obtain ⟨C2, hC2⟩ : ∃ C, cmpI x.u y.u = C := ⟨_, rfl⟩
  obtain ⟨C3, hC3⟩ : ∃ C, cmpI x.l y.l = C := ⟨_, rfl⟩
  have HC : Hid (cmpL x y = orI [C1, C2, C3]) := by show _ = _; unfold cmpL; rw [hC1, hC2, hC3]
  have i1 := cmpI_in x.n y.n
  have i2 := cmpI_in x.u y.u
  have i3 := cmpI_in x.l y.l
  rw [hC1] at i1
  rw [hC2] at i2
  rw [hC3] at i3
  have k1 := fun w => compare_back x.n y.n w
  have k2 := fun w => compare_back x.u y.u w
  have k3 := fun w => compare_back x.l y.l w
  simp only [hC1] at k1
  simp only [hC2] at k2
  simp only [hC3] at k3
  clear hC1 hC2 hC3
  obtain ⟨x1, x2, x3⟩ := x
  obtain ⟨y1, y2, y3⟩ := y
  dsimp only at *
  go_enter Try.func44, Try.ntmps44
  go_upto_region 1 with (fail)
  obtain ⟨W2, hW2⟩ : ∃ W2, (W.alloc (.cells #[.int .i64 x1, .int .i64 x2, .int .i64 x3] 57)).alloc (.cells #[.int .i64 y1, .int .i64 y2, .int .i64 y3] 57) = W2 := ⟨_, rfl⟩
  rw [hW2]
  have HW := Lib.hid hW2
  obtain ⟨a1, a2, a3⟩ := three_new W (.int .i64 x1) (.int .i64 x2) (.int .i64 x3) 57
  have hbn := (Below.refl (W.alloc (.cells #[.int .i64 x1, .int .i64 x2, .int .i64 x3] 57)).heap.size _).alloc (Nat.le_refl _) (.cells #[.int .i64 y1, .int .i64 y2, .int .i64 y3] 57)
  have hs0 : W.heap.size < (W.alloc (.cells #[.int .i64 x1, .int .i64 x2, .int .i64 x3] 57)).heap.size := by simp
  replace a1 := (bcell hbn _ _ hs0).trans a1
  replace a2 := (bcell hbn _ _ hs0).trans a2
  replace a3 := (bcell hbn _ _ hs0).trans a3
  obtain ⟨b1, b2, b3⟩ := three_new (W.alloc (.cells #[.int .i64 x1, .int .i64 x2, .int .i64 x3] 57)) (.int .i64 y1) (.int .i64 y2) (.int .i64 y3) 57
  have hsz : (W.alloc (.cells #[.int .i64 x1, .int .i64 x2, .int .i64 x3] 57)).heap.size = W.heap.size + 1 := by simp
  rw [hW2] at a1 a2 a3 b1 b2 b3
  rw [hsz] at b1 b2 b3
  clear hbn hs0 hsz hW2
  refine wp_region_still_tail 15 (by kernel_rfl) (by kernel_rfl) ?_
  simp only [List.take_succ_cons, List.take_zero, List.drop_succ_cons, List.drop_zero]
  iterate 4 still_step
  still_call (k1 _)
  iterate 4 still_step
  still_call (k2 _)
  iterate 4 still_step
  still_call (k3 _)
  refine wpStill_nil ?_
  change wpList _ _ _ _ _ W2.drew
  have HWD : Hid (W2.drew = grow (W.drewN 1) #[.cells #[.int .i64 x1, .int .i64 x2, .int .i64 x3] 57, .cells #[.int .i64 y1, .int .i64 y2, .int .i64 y3] 57]) := by
    show _ = _
    rw [← HW.out, alloc_eq_grow, alloc_eq_grow, grow_grow, drew_grow]; rfl
  generalize W2.drew = wd at HWD ⊢
  have HI := Lib.hid (three_ints wd C1 C2 C3 3 (by unfold InI; omega) (by unfold InI; omega) (by unfold InI; omega))
  clear a1 a2 a3 b1 b2 b3 k1 k2 k3
  go_wp2_with fail
  refine (or_any _ _ _ [C1, C2, C3] _ HI.out (by omega)).mono ?_
  rintro e w' ⟨rfl, rfl⟩
  generalize hr : orI [C1, C2, C3] = r at HC ⊢
  go_wp2
  go_ret
  refine ⟨ret_int HC.out.symm, 1, #[.cells #[.int .i64 x1, .int .i64 x2, .int .i64 x3] 57, .cells #[.int .i64 y1, .int .i64 y2, .int .i64 y3] 57, .cells #[.int .i64 C1, .int .i64 C2, .int .i64 C3] 3], ?_⟩
  rw [HWD.out, alloc_eq_grow, grow_grow]; rfl
/-- a line's cells -/
def encL (x : Line) : List Value := [.int .i64 x.u, .int .i64 x.l, .int .i64 x.n]
theorem ltL (a b : Line) : ltOf cmpL a b = Mt.ahead a b := by
  unfold ltOf
  rcases h : Mt.ahead a b with _ | _
  · have : ¬ (cmpL a b < 0) := by rw [cmpL_neg, h]; simp
    simpa using this
  · have := (cmpL_neg a b).2 h
    simpa using this
theorem swoL : SWO (ltOf cmpL) where
  irrefl x := by rw [ltL]; exact ahead_irrefl x
  trans x y z h1 h2 := by rw [ltL] at *; exact ahead_trans h1 h2
  ntrans x y z h1 h2 := by rw [ltL] at *; exact ahead_ntrans h1 h2
theorem mergeL (L : List Line) : (L.toArray.toList.mergeSort fun x y => !(ltOf cmpL) y x) = puts L := by
  have : (fun x y => !(ltOf cmpL) y x) = fun x y : Line => !Mt.ahead y x := by funext x y; rw [ltL]
  rw [this]; exact puts_sort L
theorem encL_at (L : List Line) {i j : Nat} (hi : i < L.length) (hj : j < 3) : (encL (L.toArray[i]!))[j]! = linkV (L.map lm) i j := by
  unfold linkV
  rw [gL_lm]
  have : L.toArray[i]! = gX L i := by rw [gX_lt hi]; simp [hi]
  rw [this]
  match j, hj with
  | 0, _ => rfl
  | 1, _ => rfl
  | 2, _ => rfl
theorem div3 {t n : Nat} (h : t < n * 3) : t / 3 < n ∧ t % 3 < 3 ∧ t / 3 * 3 + t % 3 = t := by omega
theorem flat_at (L : List Line) {t : Nat} (h : t < L.length * 3) : (flatK encL 3 L.toArray)[t]! = linkV (L.map lm) (t / 3) (t % 3) := by
  rw [get_flatK _ _ _ _ (by simpa using h)]
  have := div3 h
  exact encL_at L this.1 this.2.1
/-- a row of lines that the call owns holds them, in the sort's words -/
theorem holds_lines {w : World} {base g n c : Nat} {E : TypeId} {L : List Line} (h : LOwn w base E (.slice (some ⟨g, 0, none⟩) n c) n (L.map lm)) : HoldsK encL 3 w g 0 L.toArray := by
  have hl : L.length = n := by simpa using h.len
  obtain ⟨xs, ho, hx⟩ := h.row
  intro t ht
  have ht' : t < n * 3 := by rw [← hl]; simpa using ht
  obtain ⟨d1, d2, d3⟩ := div3 ht'
  refine ⟨?_, h.frozen _⟩
  have := hx _ _ d1 d2
  rw [d3] at this
  rw [Nat.zero_add, ho.cellAt t ht', this, id, flat_at L (by rw [hl]; exact ht')]
/-- behind the sort the same slice owns the lines in their order -/
theorem own_sorted {w : World} {base g n c m : Nat} {E : TypeId} {L M : List Line} {os : Array Obj} (h : LOwn w base E (.slice (some ⟨g, 0, none⟩) n c) n (L.map lm)) (hM : M.length = n) :
    LOwn (sortWorldK encL 3 w g 0 m M.toArray os) base E (.slice (some ⟨g, 0, none⟩) n c) n (M.map lm) ∧ w.grownBy (sortWorldK encL 3 w g 0 m M.toArray os) (some g) := by
  obtain ⟨xs, ho, hx⟩ := h.row
  have hg := (h.row.lt g rfl).2
  constructor
  · refine ⟨by simpa using hM, ?_⟩
    rcases ho.2 with ⟨e, _⟩ | ⟨g', cap, cur, e, hb, hh, h1, h2, h3, h4⟩
    · cases e
    · injection e with e1 e2 e3
      injection e1 with e1
      injection e1 with e1
      subst e1; subst e3
      have hF : (flatK encL 3 M.toArray).size = n * 3 := by simp [hM]
      have hle : n * 3 ≤ cur.size := by rw [h3]; exact Nat.mul_le_mul_right 3 h1
      have hheap : (sortWorldK encL 3 w g 0 m M.toArray os).heap[g]? = some (.cells (putCells id 0 (flatK encL 3 M.toArray) cur) E (0, 0)) := by
        unfold sortWorldK putRowK
        rw [heap_grow_old _ _ (by simpa using hg)]
        simp [putRow, mapBlock, Sort.ahead, Array.getElem?_modify, hh, onCells]
      have hp : (putCells id 0 (flatK encL 3 M.toArray) cur).size = cur.size := by simp [putCells]
      refine ⟨(putCells id 0 (flatK encL 3 M.toArray) cur).toList.take (n * 3), ⟨by simp [hp]; omega, .inr ⟨g, c, _, rfl, hb, hheap, h1, h2, by rw [hp, h3], rfl⟩⟩, fun i j hi hj => ?_⟩
      have ht : i * 3 + j < n * 3 := by omega
      rw [List.getElem?_take_of_lt ht, Array.getElem?_toList]
      have hd : (i * 3 + j) / 3 = i ∧ (i * 3 + j) % 3 = j := by omega
      have := flat_at M (t := i * 3 + j) (by rw [hM]; exact ht)
      rw [hd.1, hd.2] at this
      rw [← this]
      have hlt : i * 3 + j < cur.size := by omega
      simp only [putCells, Array.getElem?_mapIdx, Array.getElem?_eq_getElem hlt, Option.map_some, Nat.zero_le, true_and, Nat.zero_add, Nat.sub_zero, id]
      rw [if_pos (by rw [hF]; exact ht)]
  · unfold sortWorldK putRowK
    refine ⟨rfl, rfl, rfl, by simp, fun k hk hne => ?_⟩
    rw [heap_grow_old _ _ (by simpa using hk)]
    have : g ≠ k := fun e => hne (by rw [e])
    simp [putRow, mapBlock, Sort.ahead, Array.getElem?_modify, this]
theorem sort_any (base g n c : Nat) (L : List Line) (w : World) (h : LOwn w base 57 (.slice (some ⟨g, 0, none⟩) n c) n (L.map lm)) (hn : n ≤ 16777216) :
    Calls Try.prog 43 #[.slice (some ⟨g, 0, none⟩) n c, .func (.func 44) #[] #[]] w fun e w' => e = .returned (.tuple #[]) ∧ LOwn w' base 57 (.slice (some ⟨g, 0, none⟩) n c) n ((puts L).map lm) ∧ w.grownBy w' (some g) := by
  have hl : L.length = n := by simpa using h.len
  have hsz : L.toArray.size = n := by simpa using hl
  have eg : ∀ args w, (callFunc 44 args).run Try.prog w = .ok (.enter 44 args) w := enters_of Try.func44 (by kernel_rfl) rfl
  have hcmp : CmpLays Try.prog 44 #[] encL 3 cmpL g 0 L.toArray.size w := fun _ _ _ _ x y => closure_any x y _
  have hcon := AnyQ.slices_SortFunc_total lineSort 3 Try.isAgg57 Try.sizeOf57 encL (fun _ => rfl) (fun x v hv => by simp [encL] at hv; rcases hv with rfl | rfl | rfl <;> rfl) cmpL swoL 44 #[] g 0 c L.toArray w eg hcmp (holds_lines h) (h.row.lt g rfl).2 (by rw [hsz]; omega) (fun x y h1 h2 => by rw [ltL] at *; exact ahead_total h1 h2)
  rw [mergeL, hsz] at hcon
  change Calls Try.prog 43 _ _ _ at hcon
  refine hcon.mono ?_
  rintro e w' ⟨he, m, os, rfl⟩
  have hM : (puts L).length = n := by rw [puts_len, hl]
  exact ⟨he, own_sorted h hM⟩
theorem sort_none (A : Option Addr) (c : Nat) (w : World) :
    Calls Try.prog 43 #[.slice A 0 c, .func (.func 44) #[] #[]] w fun e w' => e = .returned (.tuple #[]) ∧ w' = w := by
  have hS := AnyF.slices_SortFunc_none (P := Try.prog) (ρ := lineSort_ren) lineSort A c (.func (.func 44) #[] #[]) w
  change Calls Try.prog 43 _ _ _ at hS
  exact hS
end Go.Proofs.Ytpkfpegilhadfaa
