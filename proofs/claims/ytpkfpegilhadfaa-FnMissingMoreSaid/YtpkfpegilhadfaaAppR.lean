/- Appending rows of structs that came in onto a row of the call's own: the source nil, empty or not; any number of cells a struct. -/
import Derived.Test.YtpkfpegilhadfaaStruct
import Derived.Maps.AppendAt
import Derived.Deep.AppendLies
import Derived.RegionTactic
import Derived.OwnWalk
set_option linter.unusedVariables false
namespace Go.Proofs.Ytpkfpegilhadfaa
open Go.RowKit

/-- the cells of m rows of s cells -/
def cellsR (R : Nat → Nat → Value) (s m : Nat) : List Value := (List.range (m * s)).map fun k => R (k / s) (k % s)
theorem cellsR_len (R : Nat → Nat → Value) (s m : Nat) : (cellsR R s m).length = m * s := by simp [cellsR]
theorem cellsR_at {R : Nat → Nat → Value} {s m i j : Nat} (hi : i < m) (hj : j < s) : (cellsR R s m)[i * s + j]? = some (R i j) := by
  have hlt : i * s + j < m * s := by
    have : (i + 1) * s ≤ m * s := Nat.mul_le_mul_right s hi
    rw [Nat.add_mul] at this; omega
  have h1 : (i * s + j) / s = i := by
    rw [Nat.mul_comm, Nat.mul_add_div (by omega), Nat.div_eq_of_lt hj, Nat.add_zero]
  have h2 : (i * s + j) % s = j := by
    rw [Nat.mul_comm, Nat.mul_add_mod, Nat.mod_eq_of_lt hj]
  simp [cellsR, hlt, h1, h2]
theorem cellsR_get {R : Nat → Nat → Value} {s m k : Nat} {u : Value} (h : (cellsR R s m)[k]? = some u) : k < m * s ∧ u = R (k / s) (k % s) := by
  have hlt : k < (cellsR R s m).length := by
    rcases Nat.lt_or_ge k (cellsR R s m).length with c | c
    · exact c
    · rw [List.getElem?_eq_none c] at h; cases h
  rw [cellsR_len] at hlt
  refine ⟨hlt, ?_⟩
  simp [cellsR, hlt] at h
  exact h.symm
/-- two rows, one behind the other -/
def appR (R : Nat → Nat → Value) (n : Nat) (R' : Nat → Nat → Value) : Nat → Nat → Value := fun i j => if i < n then R i j else R' (i - n) j
theorem appR_own {w : World} {base s n m : Nat} {e : TypeId} {v : Value} {xs : List Value} {R R' : Nat → Nat → Value} (hs : 0 < s) (hl : xs.length = n * s) (hx : ∀ i j, i < n → j < s → xs[i * s + j]? = some (R i j))
    (h : w.ownsRow base e s v (n + m) (xs ++ cellsR R' s m)) : OwnR w base e s v (n + m) (appR R n R') := by
  refine ⟨_, h, fun i j hi hj => ?_⟩
  unfold appR
  by_cases c : i < n
  · have hlt : i * s + j < n * s := by
      have : (i + 1) * s ≤ n * s := Nat.mul_le_mul_right s c
      rw [Nat.add_mul] at this; omega
    rw [if_pos c, List.getElem?_append_left (by omega)]; exact hx i j c hj
  · have hge : n * s ≤ i * s := Nat.mul_le_mul_right s (by omega)
    rw [if_neg c, List.getElem?_append_right (by omega), hl, show i * s + j - n * s = (i - n) * s + j by rw [Nat.sub_mul]; omega]
    exact cellsR_at (by omega) hj
/-- what a slicing from k leaves -/
theorem RSl.tail {w : World} {B s : Nat} {A : Option Addr} {n c : Nat} {R : Nat → Nat → Value} (h : RSl w B s A n c R) {k : Nat} (hk : k ≤ n) : RSl w B s (if c = k then A else A.map (·.add (k * s))) (n - k) (c - k) (fun i j => R (k + i) j) := by
  have hc := h.cap
  refine ⟨by omega, fun hn => ?_⟩
  obtain ⟨b, off, rfl, hb, hcell⟩ := h.mem (by omega)
  rw [if_neg (by omega)]
  refine ⟨b, off + k * s, ?_, hb, fun i j hi hj => ?_⟩
  · show some (Addr.add _ _) = _
    unfold Addr.add
    split <;> simp_all
  · have := hcell (k + i) j (by omega) hj
    rw [show off + k * s + i * s + j = off + (k + i) * s + j by rw [Nat.add_mul]; omega, this]
section
variable {P : Program}
theorem rows_append (w : World) (base : Nat) (t ty e : TypeId) (i : TypeInfo) (z : Value) (s bytes : Nat) (ht : P.underlying t = some (.slice e)) (hi : P.info? e = some i) (hz : i.zero = some z) (hs : i.size = s) (hb : i.bytes = bytes) (hzs : z.cells.size = s) (hs0 : 0 < s) (hby : bytes ≤ 1000)
    (v : Value) (n : Nat) (R : Nat → Nat → Value) (hown : OwnR w base e s v n R) (B : Nat) (A : Option Addr) (m c : Nat) (R' : Nat → Nat → Value) (hy : RSl w B s A m c R') (h1 : ∀ i j, i < m → j < s → (R' i j).oneCell' = true) (hm : n + m ≤ 33554432) (hbase : base ≤ w.heap.size) :
    ∃ v' w', (Builtin.append_ #[t, t] ty #[v, .slice A m c]).run P w = .ok v' w' ∧ OwnR w' base e s v' (n + m) (appR R n R') ∧ w.grownBy w' v.ownBlock := by
  obtain ⟨xs, hox, hxx⟩ := hown
  cases A with
  | none =>
    have hm0 : m = 0 := by
      rcases Nat.eq_zero_or_pos m with h0 | h0
      · exact h0
      · obtain ⟨b, off, e, _⟩ := hy.mem h0; cases e
    subst hm0
    refine ⟨v, w, ?_, ⟨xs, hox, fun i j hi hj => by unfold appR; rw [if_pos (by omega)]; exact hxx i j hi hj⟩, World.grownBy.refl w _⟩
    rcases hox.2 with ⟨rfl, rfl⟩ | ⟨g, cap, cur, rfl, _, _, hnc, _⟩
    · simp [Builtin.append_, run_underlying ht, sizeOf, typeInfo, hi, Builtin.lenOf, Builtin.firstCells]
    · simp [Builtin.append_, run_underlying ht, sizeOf, typeInfo, hi, Builtin.lenOf, Builtin.firstCells, hnc, storeCells]
  | some ad =>
    have hdm : ∀ k, k < m * s → k / s < m ∧ k % s < s ∧ k / s * s + k % s = k := fun k hk =>
      ⟨by rw [Nat.div_lt_iff_lt_mul hs0]; exact hk, Nat.mod_lt _ hs0, by rw [Nat.mul_comm]; exact Nat.div_add_mod k s⟩
    have hcells : ∀ j u, (cellsR R' s m)[j]? = some u → w.cell? (ad.add j) = some u := by
      intro j u hu
      obtain ⟨hlt, rfl⟩ := cellsR_get hu
      have hm0 : 0 < m := by
        rcases Nat.eq_zero_or_pos m with h0 | h0
        · subst h0; rw [Nat.zero_mul] at hlt; omega
        · exact h0
      obtain ⟨b, off, e, _, hc⟩ := hy.mem hm0
      injection e with e
      subst e
      have ea : (⟨b, off, none⟩ : Addr).add j = ⟨b, off + j, none⟩ := by unfold Addr.add; split <;> simp_all
      rw [ea]
      obtain ⟨d1, d2, d3⟩ := hdm j hlt
      have := hc _ _ d1 d2
      rw [Nat.add_assoc, d3] at this
      exact this
    have hone : ∀ u ∈ cellsR R' s m, u.oneCell' = true := by
      intro u hu
      obtain ⟨k, hk⟩ := List.mem_iff_getElem?.1 hu
      obtain ⟨hlt, rfl⟩ := cellsR_get hk
      obtain ⟨d1, d2, _⟩ := hdm k hlt
      exact h1 _ _ d1 d2
    have hbb : (n + m) * bytes ≤ 33554432 * 1000 := Nat.mul_le_mul hm hby
    obtain ⟨v', w', r1, r2, r3, _⟩ := run_append_own_at (P := P) w base t ty e i z s bytes ht hi hz hs hb hzs hs0 v n _ hox ad m c (cellsR R' s m) (cellsR_len _ _ _) hcells hone (by unfold maxLen; omega) (by omega) hbase
    exact ⟨v', w', r1, appR_own hs0 hox.1 hxx r2, r3⟩
theorem op_rows {o : Oper} {a : Act} {K : Act → World → Prop} {Q : Exit → Act → World → Prop} (w : World) (s x : Operand) (t : TypeId) (ho : o.op = .call { callee := .builtin .append, args := #[s, x], argTypes := #[t, t] })
    (base : Nat) (e : TypeId) (i : TypeInfo) (z : Value) (sz bytes : Nat) (ht : P.underlying t = some (.slice e)) (hi : P.info? e = some i) (hz : i.zero = some z) (hs : i.size = sz) (hb : i.bytes = bytes) (hzs : z.cells.size = sz) (hs0 : 0 < sz) (hby : bytes ≤ 1000)
    (v : Value) (n : Nat) (R : Nat → Nat → Value) (hv : a.eval s = v) (hown : OwnR w base e sz v n R) (B : Nat) (A : Option Addr) (m c : Nat) (R' : Nat → Nat → Value) (hx : a.eval x = .slice A m c) (hy : RSl w B sz A m c R') (h1 : ∀ i j, i < m → j < sz → (R' i j).oneCell' = true)
    (n2 : Nat) (hn2 : n + m = n2) (hm : n2 ≤ 33554432) (hbase : base ≤ w.heap.size)
    (h : ∀ v' w', OwnR w' base e sz v' n2 (appR R n R') → w.grownBy w' v.ownBlock → K (a.put o.dst v') w') : o.wp P a w K Q := by
  subst hn2
  obtain ⟨v', w', hrun, h2, h3⟩ := rows_append (P := P) w base t o.type e i z sz bytes ht hi hz hs hb hzs hs0 hby v n R hown B A m c R' hy h1 hm hbase
  unfold Oper.wp execOp
  simp only [ho, resolve, invoke, builtin, Sem.run_bind, Sem.run_pure, Result.andThen_ok, List.map_toArray, List.map_cons, List.map_nil, hv, hx, hrun]
  exact h v' w' h2 h3
/-- in a region that draws its order -/
theorem step_rows {ops : Array Oper} {o : Oper} {a : Act} {K : Act → World → Prop} {Q : Exit → Act → World → Prop} {E : Prop} (hw : Region.wanted o (yielded ops a.tmps) = true) (w : World) (s x : Operand) (t : TypeId) (ho : o.op = .call { callee := .builtin .append, args := #[s, x], argTypes := #[t, t] })
    (base : Nat) (e : TypeId) (i : TypeInfo) (z : Value) (sz bytes : Nat) (ht : P.underlying t = some (.slice e)) (hi : P.info? e = some i) (hz : i.zero = some z) (hs : i.size = sz) (hb : i.bytes = bytes) (hzs : z.cells.size = sz) (hs0 : 0 < sz) (hby : bytes ≤ 1000)
    (v : Value) (n : Nat) (R : Nat → Nat → Value) (hv : a.eval s = v) (hown : OwnR w base e sz v n R) (B : Nat) (A : Option Addr) (m c : Nat) (R' : Nat → Nat → Value) (hx : a.eval x = .slice A m c) (hy : RSl w B sz A m c R') (h1 : ∀ i j, i < m → j < sz → (R' i j).oneCell' = true)
    (n2 : Nat) (hn2 : n + m = n2) (hm : n2 ≤ 33554432) (hbase : base ≤ w.heap.size)
    (h : ∀ v' w', OwnR w' base e sz v' n2 (appR R n R') → w.grownBy w' v.ownBlock → K (a.put o.dst v') w') :
    if Region.wanted o (yielded ops a.tmps) = true then Oper.wp P o a w K Q else E := by
  rw [if_pos hw]
  exact op_rows w s x t ho base e i z sz bytes ht hi hz hs hb hzs hs0 hby v n R hv hown B A m c R' hx hy h1 n2 hn2 hm hbase h
/-- in a row of operations -/
theorem list_rows {ops : Array Oper} {rest : List Oper} {o : Oper} {a : Act} {Q : Exit → Act → World → Prop} (hgd : o.guard = none) (w : World) (s x : Operand) (t : TypeId) (ho : o.op = .call { callee := .builtin .append, args := #[s, x], argTypes := #[t, t] })
    (base : Nat) (e : TypeId) (i : TypeInfo) (z : Value) (sz bytes : Nat) (ht : P.underlying t = some (.slice e)) (hi : P.info? e = some i) (hz : i.zero = some z) (hs : i.size = sz) (hb : i.bytes = bytes) (hzs : z.cells.size = sz) (hs0 : 0 < sz) (hby : bytes ≤ 1000)
    (v : Value) (n : Nat) (R : Nat → Nat → Value) (hv : a.eval s = v) (hown : OwnR w base e sz v n R) (B : Nat) (A : Option Addr) (m c : Nat) (R' : Nat → Nat → Value) (hx : a.eval x = .slice A m c) (hy : RSl w B sz A m c R') (h1 : ∀ i j, i < m → j < sz → (R' i j).oneCell' = true)
    (n2 : Nat) (hn2 : n + m = n2) (hm : n2 ≤ 33554432) (hbase : base ≤ w.heap.size)
    (h : ∀ v' w', OwnR w' base e sz v' n2 (appR R n R') → w.grownBy w' v.ownBlock → wpList P ops Q rest (a.put o.dst v') w') : wpList P ops Q (o :: rest) a w :=
  wpList_plain hgd fun _ hK => op_rows w s x t ho base e i z sz bytes ht hi hz hs hb hzs hs0 hby v n R hv hown B A m c R' hx hy h1 n2 hn2 hm hbase fun v' w' h2 h3 => hK _ _ (h v' w' h2 h3)
/-- in a row of operations, behind a guard that lets it in -/
theorem guard_rows {ops : Array Oper} {rest : List Oper} {o : Oper} {a : Act} {Q : Exit → Act → World → Prop} (hw : Region.wanted o (yielded ops a.tmps) = true) (w : World) (s x : Operand) (t : TypeId) (ho : o.op = .call { callee := .builtin .append, args := #[s, x], argTypes := #[t, t] })
    (base : Nat) (e : TypeId) (i : TypeInfo) (z : Value) (sz bytes : Nat) (ht : P.underlying t = some (.slice e)) (hi : P.info? e = some i) (hz : i.zero = some z) (hs : i.size = sz) (hb : i.bytes = bytes) (hzs : z.cells.size = sz) (hs0 : 0 < sz) (hby : bytes ≤ 1000)
    (v : Value) (n : Nat) (R : Nat → Nat → Value) (hv : a.eval s = v) (hown : OwnR w base e sz v n R) (B : Nat) (A : Option Addr) (m c : Nat) (R' : Nat → Nat → Value) (hx : a.eval x = .slice A m c) (hy : RSl w B sz A m c R') (h1 : ∀ i j, i < m → j < sz → (R' i j).oneCell' = true)
    (n2 : Nat) (hn2 : n + m = n2) (hm : n2 ≤ 33554432) (hbase : base ≤ w.heap.size)
    (h : ∀ v' w', OwnR w' base e sz v' n2 (appR R n R') → w.grownBy w' v.ownBlock → wpList P ops Q rest (a.put o.dst v') w') : wpList P ops Q (o :: rest) a w := by
  refine wpList_step fun K hK => ?_
  rw [if_pos hw]
  exact op_rows w s x t ho base e i z sz bytes ht hi hz hs hb hzs hs0 hby v n R hv hown B A m c R' hx hy h1 n2 hn2 hm hbase fun v' w' h2 h3 => hK _ _ (h v' w' h2 h3)
end
end Go.Proofs.Ytpkfpegilhadfaa
