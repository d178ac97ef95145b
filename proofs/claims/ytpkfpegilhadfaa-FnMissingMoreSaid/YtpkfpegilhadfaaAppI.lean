/- Appending ints that came in onto a row of ints of the call's own: the source nil, empty or not; behind a guard or not. -/
import Derived.Test.YtpkfpegilhadfaaAppR
set_option linter.unusedVariables false
namespace Go.Proofs.Ytpkfpegilhadfaa
open Go.RowKit

theorem ownR_of_ints {w : World} {base n : Nat} {e : TypeId} {v : Value} {zs : List Int} (h : w.ownsRow base e 1 v n (zs.map (Value.int .i64))) : OwnR w base e 1 v n (fun i _ => .int .i64 (gI zs i)) := by
  refine ⟨_, h, fun i j hi hj => ?_⟩
  obtain rfl : j = 0 := by omega
  have hl : zs.length = n := by have := h.1; simpa using this
  simp [gI, show i < zs.length by omega]
theorem ints_of_ownR {w : World} {base n : Nat} {e : TypeId} {v : Value} {zs : List Int} {R : Nat → Nat → Value} (h : OwnR w base e 1 v n R) (hl : zs.length = n) (hr : ∀ i, i < n → R i 0 = .int .i64 (gI zs i)) : w.ownsRow base e 1 v n (zs.map (Value.int .i64)) := by
  obtain ⟨xs, h1, h2⟩ := h
  have hx : xs = zs.map (Value.int .i64) := by
    apply List.ext_getElem?
    intro i
    by_cases hi : i < n
    · have := h2 i 0 hi (by omega)
      rw [Nat.mul_one, Nat.add_zero] at this
      rw [this, hr i hi]
      simp [gI, show i < zs.length by omega]
    · rw [List.getElem?_eq_none (by have := h1.1; omega), List.getElem?_eq_none (by simp; omega)]
  rw [← hx]; exact h1
theorem rsl_of_ints {w : World} {B : Nat} {A : Option Addr} {n c : Nat} {zs : List Int} (h : ISl w B A n c zs) : RSl w B 1 A n c (fun i _ => .int .i64 (gI zs i)) := by
  refine ⟨h.cap, fun hn => ?_⟩
  obtain ⟨b, off, e, hb, _, hc⟩ := h.at_ hn
  refine ⟨b, off, e, hb, fun i j hi hj => ?_⟩
  obtain rfl : j = 0 := by omega
  rw [Nat.mul_one, Nat.add_zero]; exact hc i hi
theorem app_ints {w' : World} {base n m n2 : Nat} {e : TypeId} {v' : Value} {xs ys zs : List Int} (hl : xs.length = n) (hl2 : ys.length = m) (hn2 : n + m = n2) (hzz : xs ++ ys = zs)
    (h : OwnR w' base e 1 v' n2 (appR (fun i _ => .int .i64 (gI xs i)) n (fun i _ => .int .i64 (gI ys i)))) : w'.ownsRow base e 1 v' n2 (zs.map (Value.int .i64)) := by
  subst hn2 hzz
  refine ints_of_ownR h (by simp [hl, hl2]) fun i hi => ?_
  unfold appR
  split
  · next c => congr 1; simp [gI, List.getElem?_append_left (show i < xs.length by omega)]
  · next c => congr 1; simp [gI, List.getElem?_append_right (show xs.length ≤ i by omega), hl]
section
variable {P : Program}
/-- in a row of operations, behind a guard that lets it in -/
theorem guard_ints {ops : Array Oper} {rest : List Oper} {o : Oper} {a : Act} {Q : Exit → Act → World → Prop} (hw : Region.wanted o (yielded ops a.tmps) = true) (w : World) (s x : Operand) (t : TypeId) (ho : o.op = .call { callee := .builtin .append, args := #[s, x], argTypes := #[t, t] })
    (base : Nat) (e : TypeId) (i : TypeInfo) (z : Value) (ht : P.underlying t = some (.slice e)) (hi : P.info? e = some i) (hz : i.zero = some z) (hs : i.size = 1) (hb : i.bytes = 8) (hzs : z.cells.size = 1)
    (v : Value) (n : Nat) (xs : List Int) (hv : a.eval s = v) (hown : w.ownsRow base e 1 v n (xs.map (Value.int .i64))) (B : Nat) (A : Option Addr) (m c : Nat) (ys : List Int) (hx : a.eval x = .slice A m c) (hy : ISl w B A m c ys)
    (n2 : Nat) (zs : List Int) (hn2 : n + m = n2) (hzz : xs ++ ys = zs) (hm : n2 ≤ 33554432) (hbase : base ≤ w.heap.size)
    (h : ∀ v' w', w'.ownsRow base e 1 v' n2 (zs.map (Value.int .i64)) → w.grownBy w' v.ownBlock → wpList P ops Q rest (a.put o.dst v') w') : wpList P ops Q (o :: rest) a w :=
  guard_rows hw w s x t ho base e i z 1 8 ht hi hz hs hb hzs (by omega) (by omega) v n _ hv (ownR_of_ints hown) B A m c _ hx (rsl_of_ints hy) (fun _ _ _ _ => rfl) n2 hn2 hm hbase
    fun v' w' h1 h2 => h v' w' (app_ints (by have := hown.1; simpa using this) hy.len hn2 hzz h1) h2
/-- in a row of operations -/
theorem list_ints {ops : Array Oper} {rest : List Oper} {o : Oper} {a : Act} {Q : Exit → Act → World → Prop} (hgd : o.guard = none) (w : World) (s x : Operand) (t : TypeId) (ho : o.op = .call { callee := .builtin .append, args := #[s, x], argTypes := #[t, t] })
    (base : Nat) (e : TypeId) (i : TypeInfo) (z : Value) (ht : P.underlying t = some (.slice e)) (hi : P.info? e = some i) (hz : i.zero = some z) (hs : i.size = 1) (hb : i.bytes = 8) (hzs : z.cells.size = 1)
    (v : Value) (n : Nat) (xs : List Int) (hv : a.eval s = v) (hown : w.ownsRow base e 1 v n (xs.map (Value.int .i64))) (B : Nat) (A : Option Addr) (m c : Nat) (ys : List Int) (hx : a.eval x = .slice A m c) (hy : ISl w B A m c ys)
    (n2 : Nat) (zs : List Int) (hn2 : n + m = n2) (hzz : xs ++ ys = zs) (hm : n2 ≤ 33554432) (hbase : base ≤ w.heap.size)
    (h : ∀ v' w', w'.ownsRow base e 1 v' n2 (zs.map (Value.int .i64)) → w.grownBy w' v.ownBlock → wpList P ops Q rest (a.put o.dst v') w') : wpList P ops Q (o :: rest) a w :=
  list_rows hgd w s x t ho base e i z 1 8 ht hi hz hs hb hzs (by omega) (by omega) v n _ hv (ownR_of_ints hown) B A m c _ hx (rsl_of_ints hy) (fun _ _ _ _ => rfl) n2 hn2 hm hbase
    fun v' w' h1 h2 => h v' w' (app_ints (by have := hown.1; simpa using this) hy.len hn2 hzz h1) h2
end
/-- a slicing from k -/
theorem ISl.tail {w : World} {B : Nat} {A : Option Addr} {n c : Nat} {zs : List Int} (h : ISl w B A n c zs) {k : Nat} (hk : k ≤ n) : ISl w B (if c = k then A else A.map (·.add k)) (n - k) (c - k) (zs.drop k) := by
  have hl := h.len
  have hc := h.cap
  refine ⟨by simp [hl], by omega, fun z hz => h.inI z (List.mem_of_mem_drop hz), fun hn => ?_⟩
  obtain ⟨b, off, rfl, hb, hcell⟩ := h.mem (by omega)
  rw [if_neg (by omega)]
  refine ⟨b, off + k, ?_, hb, fun i hi => ?_⟩
  · show some (Addr.add _ _) = _
    unfold Addr.add
    split <;> simp_all
  · have := hcell (k + i) (by omega)
    rw [show off + k + i = off + (k + i) by omega, this]
    unfold gI
    rw [List.getElem?_drop]
/-- a slicing up to k -/
theorem ISl.cutI {w : World} {B : Nat} {A : Option Addr} {n c : Nat} {zs : List Int} (h : ISl w B A n c zs) {k : Nat} (hk : k ≤ n) : ISl w B A k c (zs.take k) := by
  have hl := h.len
  have hc := h.cap
  refine ⟨by simp; omega, by omega, fun z hz => h.inI z (List.mem_of_mem_take hz), fun hn => ?_⟩
  obtain ⟨b, off, rfl, hb, hcell⟩ := h.mem (by omega)
  refine ⟨b, off, rfl, hb, fun i hi => ?_⟩
  rw [hcell i (by omega)]
  simp [gI, hi]
end Go.Proofs.Ytpkfpegilhadfaa
