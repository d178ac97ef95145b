/- Appending what came in onto a row of the call's own: the source nil, empty or not. -/
import Derived.Test.YtnlnelfncejcfaaLkMem
import Derived.Maps.AppendAt
import Derived.Deep.AppendLies
import Derived.RegionTactic
import Derived.OwnWalk
set_option linter.unusedVariables false
namespace Go.Proofs.Ytnlnelfncejcfaa
open Go.RowKit Lk

/-- the cells of links -/
def cellsL : List Link → List Value
  | [] => []
  | l :: ls => .int .i64 l.f :: .int .i64 l.t :: .int .i64 l.d :: cellsL ls
theorem cellsL_len (ls : List Link) : (cellsL ls).length = ls.length * 3 := by
  induction ls with
  | nil => rfl
  | cons l ls ih => simp [cellsL, ih]; omega
theorem cellsL_append (xs ys : List Link) : cellsL (xs ++ ys) = cellsL xs ++ cellsL ys := by
  induction xs with
  | nil => rfl
  | cons l ls ih => simp [cellsL, ih]
theorem cellsL_drop (ls : List Link) (k : Nat) : (cellsL ls).drop (k * 3) = cellsL (ls.drop k) := by
  induction k generalizing ls with
  | zero => simp
  | succ k ih =>
    cases ls with
    | nil => simp [cellsL]
    | cons l ls =>
      rw [show (k + 1) * 3 = k * 3 + 3 by omega]
      simp only [cellsL, List.drop_succ_cons]
      exact ih ls
theorem cellsL_at (ls : List Link) (i j : Nat) (hi : i < ls.length) (hj : j < 3) : (cellsL ls)[i * 3 + j]? = some (linkV ls i j) := by
  induction ls generalizing i with
  | nil => simp at hi
  | cons l ls ih =>
    cases i with
    | zero =>
      match j, hj with
      | 0, _ => simp [cellsL, linkV, linkC, gL]
      | 1, _ => simp [cellsL, linkV, linkC, gL]
      | 2, _ => simp [cellsL, linkV, linkC, gL]
    | succ i =>
      have hi' : i < ls.length := by simpa using hi
      rw [show (i + 1) * 3 + j = (i * 3 + j) + 3 by omega]
      show (cellsL ls)[i * 3 + j]? = _
      rw [ih i hi']
      simp [linkV, gL]
theorem cellsL_one (ls : List Link) : ∀ u ∈ cellsL ls, u.oneCell' = true := by
  induction ls with
  | nil => intro u hu; cases hu
  | cons l ls ih =>
    intro u hu
    simp only [cellsL, List.mem_cons] at hu
    rcases hu with rfl | rfl | rfl | hu
    · rfl
    · rfl
    · rfl
    · exact ih u hu
theorem LOwn.of_cells {w : World} {base : Nat} {E : TypeId} {v : Value} {n : Nat} {ls : List Link} (h : w.ownsRow base E 3 v n (cellsL ls)) : LOwn w base E v n ls := by
  have hl : ls.length = n := by have := h.1; rw [cellsL_len] at this; omega
  exact ⟨hl, _, h, fun i j hi hj => cellsL_at ls i j (by omega) hj⟩
theorem own_lit3 (w : World) (E : TypeId) : (w.alloc (.cells #[] E)).ownsRow w.heap.size E 3 (.slice (some ⟨w.heap.size, 0, none⟩) 0 0) 0 [] :=
  World.ownsRow_lit w #[] 0 (Nat.le_refl _) (by unfold maxLen; omega) (by simp)

theorem LSl.cellAt {w : World} {B b off : Nat} {n c : Nat} {ls : List Link} (h : LSl w B (some ⟨b, off, none⟩) n c ls) {j : Nat} {u : Value} (hu : (cellsL ls)[j]? = some u) : w.cell? ⟨b, off + j, none⟩ = some u := by
  have hl := h.len
  have hj : j < n * 3 := by
    rcases Nat.lt_or_ge j (n * 3) with c | c
    · exact c
    · rw [List.getElem?_eq_none (by rw [cellsL_len, hl]; exact c)] at hu; cases hu
  obtain ⟨b', off', e, _, hc⟩ := h.row.mem (by omega)
  injection e with e
  injection e with e1 e2
  subst e1 e2
  have hdm : j / 3 * 3 + j % 3 = j := by omega
  have h1 := cellsL_at ls (j / 3) (j % 3) (by omega) (by omega)
  rw [hdm, hu] at h1
  rw [h1, ← hc (j / 3) (j % 3) (by omega) (by omega), Nat.add_assoc, hdm]
/-- what a slicing from k leaves -/
theorem LSl.tail {w : World} {B : Nat} {A : Option Addr} {n c : Nat} {ls : List Link} (h : LSl w B A n c ls) {k : Nat} (hk : k ≤ n) : LSl w B (if c = k then A else A.map (·.add (k * 3))) (n - k) (c - k) (ls.drop k) := by
  have hl := h.len
  have hc := h.cap
  refine ⟨by simp [hl], fun l hl => h.inI l (List.mem_of_mem_drop hl), ⟨by omega, fun hn => ?_⟩, Nat.le_trans (Nat.sub_le _ _) h.few⟩
  obtain ⟨b, off, rfl, hb, hcell⟩ := h.row.mem (by omega)
  rw [if_neg (by omega)]
  refine ⟨b, off + k * 3, ?_, hb, fun i j hi hj => ?_⟩
  · show some (Addr.add _ _) = _
    unfold Addr.add
    split <;> simp_all
  · have := hcell (k + i) j (by omega) hj
    rw [show off + k * 3 + i * 3 + j = off + (k + i) * 3 + j by omega, this]
    unfold linkV gL
    rw [List.getElem?_drop]
section
variable {P : Program}
/-- an append of links that came in, to a row of the call's own -/
theorem links_append (w : World) (base : Nat) (t ty e : TypeId) (i : TypeInfo) (z : Value) (ht : P.underlying t = some (.slice e)) (hi : P.info? e = some i) (hz : i.zero = some z) (hs : i.size = 3) (hb : i.bytes = 24) (hzs : z.cells.size = 3)
    (v : Value) (n : Nat) (xs : List Link) (hown : w.ownsRow base e 3 v n (cellsL xs)) (B : Nat) (A : Option Addr) (m c : Nat) (ys : List Link) (hy : LSl w B A m c ys) (hm : n + m ≤ 1000) (hbase : base ≤ w.heap.size) :
    ∃ v' w', (Builtin.append_ #[t, t] ty #[v, .slice A m c]).run P w = .ok v' w' ∧ w'.ownsRow base e 3 v' (n + m) (cellsL (xs ++ ys)) ∧ w.grownBy w' v.ownBlock := by
  cases A with
  | none =>
    have hm0 : m = 0 := by
      rcases Nat.eq_zero_or_pos m with h0 | h0
      · exact h0
      · obtain ⟨b, off, e, _⟩ := hy.row.mem h0; cases e
    subst hm0
    obtain rfl : ys = [] := List.eq_nil_of_length_eq_zero hy.len
    refine ⟨v, w, ?_, by rw [List.append_nil]; exact hown, World.grownBy.refl w _⟩
    rcases hown.2 with ⟨rfl, rfl⟩ | ⟨g, cap, cur, rfl, _, _, hnc, _⟩
    · simp [Builtin.append_, run_underlying ht, sizeOf, typeInfo, hi, Builtin.lenOf, Builtin.firstCells]
    · simp [Builtin.append_, run_underlying ht, sizeOf, typeInfo, hi, Builtin.lenOf, Builtin.firstCells, hnc, storeCells]
  | some ad =>
    have hcells : ∀ j u, (cellsL ys)[j]? = some u → w.cell? (ad.add j) = some u := by
      intro j u hu
      have hlt : j < (cellsL ys).length := by
        rcases Nat.lt_or_ge j (cellsL ys).length with c | c
        · exact c
        · rw [List.getElem?_eq_none c] at hu; cases hu
      rw [cellsL_len] at hlt
      have hl := hy.len
      obtain ⟨b, off, e, _⟩ := hy.row.mem (by omega)
      injection e with e
      subst e
      have ea : (⟨b, off, none⟩ : Addr).add j = ⟨b, off + j, none⟩ := by unfold Addr.add; split <;> simp_all
      rw [ea]
      exact hy.cellAt hu
    obtain ⟨v', w', h1, h2, h3, _⟩ := run_append_own_at (P := P) w base t ty e i z 3 24 ht hi hz hs hb hzs (by omega) v n _ hown ad m c (cellsL ys) (by rw [cellsL_len, hy.len]) hcells (cellsL_one ys) (by unfold maxLen; omega) (by omega) hbase
    exact ⟨v', w', h1, by rw [cellsL_append]; exact h2, h3⟩
theorem op_links {o : Oper} {a : Act} {K : Act → World → Prop} {Q : Exit → Act → World → Prop} (w : World) (s x : Operand) (t : TypeId) (ho : o.op = .call { callee := .builtin .append, args := #[s, x], argTypes := #[t, t] })
    (base : Nat) (e : TypeId) (i : TypeInfo) (z : Value) (ht : P.underlying t = some (.slice e)) (hi : P.info? e = some i) (hz : i.zero = some z) (hs : i.size = 3) (hb : i.bytes = 24) (hzs : z.cells.size = 3)
    (v : Value) (n : Nat) (xs : List Link) (hv : a.eval s = v) (hown : w.ownsRow base e 3 v n (cellsL xs)) (B : Nat) (A : Option Addr) (m c : Nat) (ys : List Link) (hx : a.eval x = .slice A m c) (hy : LSl w B A m c ys)
    (n2 : Nat) (zs : List Link) (hn2 : n + m = n2) (hzz : xs ++ ys = zs) (hm : n2 ≤ 1000) (hbase : base ≤ w.heap.size)
    (h : ∀ v' w', w'.ownsRow base e 3 v' n2 (cellsL zs) → w.grownBy w' v.ownBlock → K (a.put o.dst v') w') : o.wp P a w K Q := by
  subst hn2 hzz
  obtain ⟨v', w', hrun, h2, h3⟩ := links_append (P := P) w base t o.type e i z ht hi hz hs hb hzs v n xs hown B A m c ys hy hm hbase
  unfold Oper.wp execOp
  simp only [ho, resolve, invoke, builtin, Sem.run_bind, Sem.run_pure, Result.andThen_ok, List.map_toArray, List.map_cons, List.map_nil, hv, hx, hrun]
  exact h v' w' h2 h3
/-- in a region that draws its order -/
theorem step_links {ops : Array Oper} {o : Oper} {a : Act} {K : Act → World → Prop} {Q : Exit → Act → World → Prop} {E : Prop} (hw : Region.wanted o (yielded ops a.tmps) = true) (w : World) (s x : Operand) (t : TypeId) (ho : o.op = .call { callee := .builtin .append, args := #[s, x], argTypes := #[t, t] })
    (base : Nat) (e : TypeId) (i : TypeInfo) (z : Value) (ht : P.underlying t = some (.slice e)) (hi : P.info? e = some i) (hz : i.zero = some z) (hs : i.size = 3) (hb : i.bytes = 24) (hzs : z.cells.size = 3)
    (v : Value) (n : Nat) (xs : List Link) (hv : a.eval s = v) (hown : w.ownsRow base e 3 v n (cellsL xs)) (B : Nat) (A : Option Addr) (m c : Nat) (ys : List Link) (hx : a.eval x = .slice A m c) (hy : LSl w B A m c ys)
    (n2 : Nat) (zs : List Link) (hn2 : n + m = n2) (hzz : xs ++ ys = zs) (hm : n2 ≤ 1000) (hbase : base ≤ w.heap.size)
    (h : ∀ v' w', w'.ownsRow base e 3 v' n2 (cellsL zs) → w.grownBy w' v.ownBlock → K (a.put o.dst v') w') :
    if Region.wanted o (yielded ops a.tmps) = true then Oper.wp P o a w K Q else E := by
  rw [if_pos hw]
  exact op_links w s x t ho base e i z ht hi hz hs hb hzs v n xs hv hown B A m c ys hx hy n2 zs hn2 hzz hm hbase h
/-- in a row of operations -/
theorem list_links {ops : Array Oper} {rest : List Oper} {o : Oper} {a : Act} {Q : Exit → Act → World → Prop} (hgd : o.guard = none) (w : World) (s x : Operand) (t : TypeId) (ho : o.op = .call { callee := .builtin .append, args := #[s, x], argTypes := #[t, t] })
    (base : Nat) (e : TypeId) (i : TypeInfo) (z : Value) (ht : P.underlying t = some (.slice e)) (hi : P.info? e = some i) (hz : i.zero = some z) (hs : i.size = 3) (hb : i.bytes = 24) (hzs : z.cells.size = 3)
    (v : Value) (n : Nat) (xs : List Link) (hv : a.eval s = v) (hown : w.ownsRow base e 3 v n (cellsL xs)) (B : Nat) (A : Option Addr) (m c : Nat) (ys : List Link) (hx : a.eval x = .slice A m c) (hy : LSl w B A m c ys)
    (n2 : Nat) (zs : List Link) (hn2 : n + m = n2) (hzz : xs ++ ys = zs) (hm : n2 ≤ 1000) (hbase : base ≤ w.heap.size)
    (h : ∀ v' w', w'.ownsRow base e 3 v' n2 (cellsL zs) → w.grownBy w' v.ownBlock → wpList P ops Q rest (a.put o.dst v') w') : wpList P ops Q (o :: rest) a w :=
  wpList_plain hgd fun _ hK => op_links w s x t ho base e i z ht hi hz hs hb hzs v n xs hv hown B A m c ys hx hy n2 zs hn2 hzz hm hbase fun v' w' h2 h3 => hK _ _ (h v' w' h2 h3)
end
end Go.Proofs.Ytnlnelfncejcfaa
