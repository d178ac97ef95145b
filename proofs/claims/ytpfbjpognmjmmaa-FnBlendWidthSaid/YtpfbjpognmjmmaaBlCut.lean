/- The program's iterator over the blends of a list: what it hands to a loop's rounds. -/
import Derived.Test.YtpfbjpognmjmmaaBlSpec
import Derived.RangeFuncNested
import Derived.RangeFuncBound
import Derived.RangeFuncCalls
import Derived.RangeFuncLeaves
import Derived.RangeFuncBox
import Derived.Shelf.Abstract
import Derived.Shelf.RegionOpen
import Derived.OwnWalkIn
import Derived.TacticsInMore
import Derived.LoopNIn
import Derived.LoopIn
import Derived.Sort.QuietIn
set_option linter.unusedVariables false
namespace Go.Proofs.Ytpfbjpognmjmmaa
open Go.RowKit Go.Shelf Bl

/-- a part of n numbers: from, to -/
abbrev Sg (n : Nat) := { p : Nat × Nat // p.1 < p.2 ∧ p.2 ≤ n }
/-- the numbers in it -/
def sgOf (zs : List Int) (p : Nat × Nat) : List Int := (zs.drop p.1).take (p.2 - p.1)
theorem sgOf_len {zs : List Int} {n : Nat} (h : zs.length = n) (x : Sg n) : (sgOf zs x.1).length = x.1.2 - x.1.1 := by
  have := x.2; simp [sgOf]; omega
theorem sgOf_at {zs : List Int} {p : Nat × Nat} {j : Nat} (h : j < p.2 - p.1) : gI (sgOf zs p) j = gI zs (p.1 + j) := by
  unfold sgOf gI
  rw [List.getElem?_take_of_lt h, List.getElem?_drop]
theorem gr_next {zs : List Int} {wd : Int} {a t : Nat} (ha : cutB zs wd a = true) (hat : a < t) (ht : t ≤ zs.length) (h : ∀ j, a < j → j < t → cutB zs wd j = false) : gr zs wd t = gr zs wd a ++ [sgOf zs (a, t)] := by
  have := gr_span ha (t - a - 1) (fun j h1 h2 => h j h1 (by omega))
  rw [show a + (t - a - 1) + 1 = t by omega, show t - a - 1 + 1 = t - a by omega] at this
  rcases this with h1 | h1
  · exact h1
  · omega

/-- blocks below n₁ are as they were, but block B -/
structure KpC (n₁ B : Nat) (W W' : World) : Prop where
  os : W'.os = W.os
  tape : W'.tape = W.tape
  output : W'.output = W.output
  size : W.heap.size ≤ W'.heap.size
  block : ∀ k, k < n₁ → k ≠ B → W'.heap[k]? = W.heap[k]?
section
variable {n₁ B : Nat} {X Y Z : World}
theorem KpC.refl (X : World) : KpC n₁ B X X := ⟨rfl, rfl, rfl, Nat.le_refl _, fun _ _ _ => rfl⟩
theorem KpC.trans (h : KpC n₁ B X Y) (k : KpC n₁ B Y Z) : KpC n₁ B X Z :=
  ⟨k.os.trans h.os, k.tape.trans h.tape, k.output.trans h.output, Nat.le_trans h.size k.size, fun j a b => (k.block j a b).trans (h.block j a b)⟩
theorem KpC.drewN (h : KpC n₁ B X Y) (k : Nat) : KpC n₁ B X (Y.drewN k) := ⟨h.os, h.tape, h.output, h.size, h.block⟩
theorem KpC.cell (h : KpC n₁ B X Y) (k off : Nat) (a : k < n₁) (b : k ≠ B) : Y.cell? ⟨k, off, none⟩ = X.cell? ⟨k, off, none⟩ := World.cell?_of_block (h.block k a b)
theorem KpC.of_below (h : Below n₁ X Y) : KpC n₁ B X Y := ⟨h.os, h.tape, h.output, h.size, fun k a _ => h.block k a⟩
theorem KpC.below (h : KpC n₁ B X Y) (hn : B < n₁) : Below B X Y := ⟨h.os, h.tape, h.output, h.size, fun k a => h.block k (by omega) (by omega)⟩
theorem KpC.putObj (X : World) {l : Nat} (o : Obj) (hl : n₁ ≤ l) : KpC n₁ B X (X.putObj l o) := ⟨rfl, rfl, rfl, by simp, fun k a _ => World.putObj_heap_other (by omega)⟩
theorem KpC.grown {row : Option Nat} (h : KpC n₁ B X Y) (hg : Y.grownBy Z row) (hr : ∀ r, row = some r → n₁ ≤ r ∨ r = B) (hn : n₁ ≤ X.heap.size) : KpC n₁ B X Z :=
  ⟨hg.os.trans h.os, hg.tape.trans h.tape, hg.output.trans h.output, Nat.le_trans h.size hg.size, fun k a b => (hg.block k (by have := h.size; omega) (fun e => by have := hr k e.symm; omega)).trans (h.block k a b)⟩
end

attribute [local go_sem] Oper.semAt_some
/-- what the closure hands to a round -/
def encSg (b off c : Nat) {n : Nat} (x : Sg n) : Array Value := #[.slice (some ⟨b, off + x.1.1, none⟩) (x.1.2 - x.1.1) (c - x.1.1)]
/-- a walk's own steps keep an iterator's invariant -/
theorem abides_drewN {β : Type} {B : Nat} {J : β → World → Prop} (hJ : AbidesFrom B J) {s : β} {W : World} (h : J s W) (k : Nat) : J s (W.drewN k) :=
  hJ s W _ none h ⟨rfl, rfl, rfl, Nat.le_refl _, fun _ _ _ => rfl⟩ (fun r e => by cases e)
set_option maxRecDepth 100000 in
set_option maxHeartbeats 4000000 in
theorem cut_in (m : Nat) (hm : 1 ≤ m) (l b1 b2 n₁ B b off n c : Nat) (zs : List Int) (wd : Int) (hn : zs.length = n) (hn0 : 0 < n) (hcap : n ≤ c) (hnb : n ≤ 40) (hb : b < n₁) (hbx : b ≠ B) (hR : ∀ i, i < zs.length → 0 ≤ gI zs i ∧ gI zs i ≤ 200000) (hwd : 0 ≤ wd ∧ wd ≤ 200000) (J Jx : List (Sg n) → World → Prop) (B0 : Nat) (hJ : AbidesFrom B0 J)
    (hY : ∀ pre x W, J pre W → pre.length < n → YieldAt Fence.wide (m - 1) Try.prog l (encSg b off c x) W fun e W' =>
      (e = .returned (.bool true) ∧ J (pre ++ [x]) W' ∧ KpC n₁ B W W') ∨ (e = .returned (.bool false) ∧ Jx (pre ++ [x]) W'))
    (W : World) (h1 : W.cell? ⟨b1, 0, none⟩ = some (.slice (some ⟨b, off, none⟩) n c)) (h2 : W.cell? ⟨b2, 0, none⟩ = some (.int .i64 wd)) (hb1 : b1 < n₁) (hb2 : b2 < n₁) (hx1 : b1 ≠ B) (hx2 : b2 ≠ B) (hc : ∀ i, i < n → W.cell? ⟨b, off + i, none⟩ = some (.int .i64 (gI zs i))) (h0 : J [] W) :
    CallsIn Fence.wide m Try.prog 45 #[.func (.yield l) #[] #[], .pointer (some ⟨b1, 0, none⟩), .pointer (some ⟨b2, 0, none⟩)] W fun e W' => (∃ v, e = .returned v) ∧
      ((∃ xs : List (Sg n), xs.map (fun x => sgOf zs x.1) = gr zs wd n ∧ J xs W') ∨ (∃ pre, True ∧ Jx pre W')) := by
  have HN := Lib.hid hn
  have HR := Lib.hid hR
  clear hn hR
  refine callsIn_of_wp Try.func45 rfl trivial ?_ rfl
  simp only [Try.ntmps45, List.size_toArray, List.length_cons, List.length_nil, Nat.reduceAdd, Nat.reduceSub, Array.replicate_succ, Array.replicate_zero, List.push_toArray, List.append_toArray, List.nil_append, List.cons_append]
  gi_wp2
  gi_loopw [4] (fun fr wr => ∃ (k : Nat) (pre : List (Sg n)), k ≤ n ∧ fr = .int .i64 k ∧ Hid (pre.map (fun x => sgOf zs x.1) = gr zs wd k) ∧ Hid (k < n → cutB zs wd k = true) ∧ J pre wr ∧ KpC n₁ B W wr)
    (fun fr _ => n - (intOf fr).toNat)
  case atStart => exact ⟨0, [], Nat.zero_le _, rfl, rfl, fun _ => rfl, h0, KpC.refl _⟩
  case round =>
    obtain ⟨k, pre, hk, rfl, hpre, hcut, hJs, hB⟩ := hrel
    have p1 := (hB.cell b1 0 hb1 hx1).trans h1
    by_cases hlt : k < n
    · have hkI : (k : Int) < (n : Int) := by omega
      have HC : Hid (cutB zs wd k = true) := hcut.out hlt
      have HPL : Hid (pre.length < n) := by
        have e := congrArg List.length hpre.out
        rw [List.length_map] at e
        have := gr_len_le zs wd k
        show pre.length < n
        omega
      clear hcut
      obtain ⟨wo, rfl⟩ : ∃ wo : World, wo = wr := ⟨_, rfl⟩
      gi_wp2
      gi_loopw [5] (fun to wr => ∃ t : Nat, k < t ∧ t ≤ n ∧ to = .int .i64 t ∧ Hid (∀ j, k < j → j < t → cutB zs wd j = false) ∧ J pre wr ∧ KpC n₁ B W wr) (fun to _ => n - (intOf to).toNat)
      case atStart => exact ⟨k + 1, by omega, by omega, by go_num, (fun j h1 h2 => by omega), hJs, hB⟩
      case round =>
        obtain ⟨t, hkt, htn, rfl, hno, hJ2, hB2⟩ := hrel
        clear hJs hB p1
        have p1 := (hB2.cell b1 0 hb1 hx1).trans h1
        have p2 := (hB2.cell b2 0 hb2 hx2).trans h2
        by_cases htl : t < n
        · have htI : decide ((t : Int) < (n : Int)) = true := by simp; omega
          have htI2 : (t : Int) < (n : Int) := by omega
          have q1 := (hB2.cell b (off + t) hb hbx).trans (hc t htl)
          have q2 := (hB2.cell b (off + (t - 1)) hb hbx).trans (hc (t - 1) (by omega))
          have r1 := HR.out t (by rw [HN.out]; exact htl)
          have r2 := HR.out (t - 1) (by rw [HN.out]; omega)
          have v1 : IntKind.i64.wrap ((t : Int) - 1) = (t : Int) - 1 := IntWalk.i64_in _ (by omega)
          have v2 : ((t : Int) - 1).toNat = t - 1 := by omega
          have v3 : (0 : Int) ≤ (t : Int) - 1 := by omega
          have v3' : (1 : Int) ≤ (t : Int) := by omega
          have v4 : (t : Int) - 1 < (n : Int) := by omega
          have v5 : IntKind.i64.wrap (gI zs t - gI zs (t - 1)) = gI zs t - gI zs (t - 1) := IntWalk.i64_in _ (by omega)
          by_cases hle : gI zs t - gI zs (t - 1) ≤ wd
          · have v6 : decide (gI zs t - gI zs (t - 1) ≤ wd) = true := by simpa using hle
            have HNO : Hid (∀ j, k < j → j < t + 1 → cutB zs wd j = false) := fun j h1 h2 => by
              by_cases e : j = t
              · subst e; unfold cutB; simp; omega
              · exact hno.out j h1 (by omega)
            gi_wp2
            gi_quiet (fail)
            clear v1 v2 v3 v3' v4 v5 v6 hle
            gi_wp2
            go_roundw
            case rel => exact ⟨t + 1, by omega, by omega, by go_num, HNO.out, abides_drewN hJ hJ2 _, hB2.drewN _⟩
            case measure => simp [intOf]; omega
          · have v6 : decide (gI zs t - gI zs (t - 1) ≤ wd) = false := by simpa using hle
            have HCT : Hid (t < n → cutB zs wd t = true) := fun _ => by unfold cutB; simp; omega
            gi_wp2
            gi_quiet (fail)
            clear v1 v2 v3 v3' v4 v5 v6 hle q1 q2 p1 p2 htI
            generalize hwq : wr.drewN _ = wq
            have hJq : J pre wq := by rw [← hwq]; exact abides_drewN hJ hJ2 _
            have hBq : KpC n₁ B W wq := by rw [← hwq]; exact hB2.drewN _
            clear hwq hJ2 hB2
            have p1 := (hBq.cell b1 0 hb1 hx1).trans h1
            have hck : ¬ (c = k) := by omega
            have HNX : Hid (gr zs wd t = gr zs wd k ++ [sgOf zs (k, t)]) := gr_next HC.out hkt (by rw [HN.out]; exact htn) hno.out
            obtain ⟨fn, tmps, assign, body, hy, hRd⟩ := hY pre ⟨(k, t), hkt, htn⟩ wq hJq HPL.out
            dsimp only [encSg] at hy
            have hktI : (k : Int) ≤ (t : Int) := by omega
            have htcI : (t : Int) ≤ (c : Int) := by omega
            gi_wp2
            refine hRd.mono ?_
            rintro e W3 (⟨rfl, hJ3, hk3⟩ | ⟨rfl, hJx3⟩)
            · clear hRd hy
              gi_wp2
              go_roundw
              case rel => exact ⟨t, pre ++ [⟨(k, t), hkt, htn⟩], htn, rfl, by show _ = _; rw [List.map_append, hpre.out, HNX.out]; rfl, HCT, hJ3, hBq.trans hk3⟩
              case measure => simp [intOf]; omega
            · clear hRd hy
              gi_wp2
              refine bodyPost_ret (results_none rfl _ _ _) rfl ?_
              exact ⟨⟨_, rfl⟩, .inr ⟨_, trivial, hJx3⟩⟩
        · have htI : decide ((t : Int) < (n : Int)) = false := by simp; omega
          have HCT : Hid (t < n → cutB zs wd t = true) := fun h => absurd h htl
          gi_wp2
          gi_quiet (fail)
          clear p1 p2 htI
          generalize hwq : wr.drewN _ = wq
          have hJq : J pre wq := by rw [← hwq]; exact abides_drewN hJ hJ2 _
          have hBq : KpC n₁ B W wq := by rw [← hwq]; exact hB2.drewN _
          clear hwq hJ2 hB2
          have p1 := (hBq.cell b1 0 hb1 hx1).trans h1
          have hck : ¬ (c = k) := by omega
          have HNX : Hid (gr zs wd t = gr zs wd k ++ [sgOf zs (k, t)]) := gr_next HC.out hkt (by rw [HN.out]; exact htn) hno.out
          obtain ⟨fn, tmps, assign, body, hy, hRd⟩ := hY pre ⟨(k, t), hkt, htn⟩ wq hJq HPL.out
          dsimp only [encSg] at hy
          have hktI : (k : Int) ≤ (t : Int) := by omega
          have htcI : (t : Int) ≤ (c : Int) := by omega
          gi_wp2
          refine hRd.mono ?_
          rintro e W3 (⟨rfl, hJ3, hk3⟩ | ⟨rfl, hJx3⟩)
          · clear hRd hy
            gi_wp2
            go_roundw
            case rel => exact ⟨t, pre ++ [⟨(k, t), hkt, htn⟩], htn, rfl, by show _ = _; rw [List.map_append, hpre.out, HNX.out]; rfl, HCT, hJ3, hBq.trans hk3⟩
            case measure => simp [intOf]; omega
          · clear hRd hy
            gi_wp2
            refine bodyPost_ret (results_none rfl _ _ _) rfl ?_
            exact ⟨⟨_, rfl⟩, .inr ⟨_, trivial, hJx3⟩⟩
    · have HKN : Hid (k = n) := by show k = n; omega
      gi_wp2
      go_end0
      exact ⟨⟨_, rfl⟩, .inl ⟨pre, by rw [hpre.out, HKN.out], hJs⟩⟩
end Go.Proofs.Ytpfbjpognmjmmaa
