/- Contracts of the forest of joined levels. -/
import Derived.Test.YtpkfpegilhadfaaBase
import Derived.Test.YtpkfpegilhadfaaLkJoin
import Derived.Outline
set_option linter.unusedVariables false
namespace Go.Proofs.Ytpkfpegilhadfaa
open Go.RowKit Lk

/-- what find leaves -/
def FindRes (N : Nat) (J : Nat → Nat) (r : Nat) (g c base : Nat) (w : World) (e : Ending) (w' : World) : Prop :=
  ∃ P, e = .returned (.int .i64 (r : Int)) ∧ Forest N P J ∧ w'.ownsRow base 3 1 (.slice (some ⟨g, 0, none⟩) N c) N (P.map (Value.int .i64)) ∧ w.grownBy w' (some g)
set_option maxHeartbeats 2000000 in
theorem find_any (g c base N : Nat) (P : List Int) (J : Nat → Nat) (i : Nat) (w : World) (hi : i < N) (hN : N ≤ 16777216) (hF : Forest N P J) (hown : w.ownsRow base 3 1 (.slice (some ⟨g, 0, none⟩) N c) N (P.map (Value.int .i64))) :
    Calls Try.prog 53 #[.slice (some ⟨g, 0, none⟩) N c, .int .i64 (i : Int)] w (FindRes N J (J i) g c base w) := by
  have HF := Lib.hid hF
  clear hF
  go_enter Try.func53, Try.ntmps53
  go_wp2
  go_loopw [1] (fun a wr => ∃ (j : Nat) (Q : List Int), j < N ∧ a = .int .i64 j ∧ Hid (J j = J i) ∧ Hid (Forest N Q J) ∧ wr.ownsRow base 3 1 (.slice (some ⟨g, 0, none⟩) N c) N (Q.map (Value.int .i64)) ∧ w.grownBy wr (some g)) (fun a _ => (intOf a).toNat)
  case atStart => exact ⟨i, P, hi, rfl, rfl, HF.out, hown, World.grownBy.refl w _⟩
  case round =>
    obtain ⟨j, Q, hj, rfl, HJ, HQ, hQ, hG⟩ := hrel
    clear hown
    have h1 := HQ.out.le j hj
    have hl := HQ.out.len
    have h2 := HQ.out.le (gI Q j).toNat (by omega)
    have r1 : wr.cell? ⟨g, j, none⟩ = some (.int .i64 (gI Q j)) := (hQ.cellAt _ (by omega)).trans (getElem?_map_some (by omega))
    have r2 : wr.cell? ⟨g, (gI Q j).toNat, none⟩ = some (.int .i64 (gI Q (gI Q j).toNat)) := (hQ.cellAt _ (by omega)).trans (getElem?_map_some (by omega))
    have f1 := hQ.frozenAt j
    have hst := hQ.stored j (.int .i64 (gI Q (gI Q j).toNat))
    rw [← List.map_set] at hst
    have HS := Lib.hid (And.intro hst.1 (And.intro (hG.trans hst.2) (forest_halve HQ.out hj)))
    have hjI : (j : Int) < (N : Int) := by omega
    have hpN : gI Q j < (N : Int) := by omega
    have HJ2 : Hid (J (gI Q (gI Q j).toNat).toNat = J j) := by
      show _ = _
      rw [HQ.out.same _ (by omega), HQ.out.same j hj]
    have HRT : Hid (gI Q j = j → J j = j) := HQ.out.root j hj
    clear hst hl
    by_cases he : gI Q j = j
    · have he' : (gI Q j != (j : Int)) = false := by simpa using he
      have HE := Lib.hid he
      clear he r2
      go_wp2
      go_ret
      exact ⟨Q, ret_int (by have a := HJ.out; have b := HRT.out HE.out; rw [← a, b]), HQ.out, hQ, hG⟩
    · have he' : (gI Q j != (j : Int)) = true := by simpa using he
      obtain ⟨p, hp⟩ : ∃ p, gI Q j = p := ⟨_, rfl⟩
      have hlt : p < j := by omega
      have HP := Lib.hid hp
      rw [hp] at r1 r2 he' h1 h2 hpN HJ2
      rw [hp] at HS
      obtain ⟨q, hq⟩ : ∃ q, gI Q p.toNat = q := ⟨_, rfl⟩
      have HQQ := Lib.hid hq
      rw [hq] at r2 h2 HJ2 HS
      clear hp hq he HRT
      have hq0 : 0 ≤ q := h2.1
      have hqn : q < j := by omega
      go_wp2
      go_roundw
      case rel =>
        obtain ⟨s, rfl⟩ := Int.eq_ofNat_of_zero_le hq0
        exact ⟨s, _, by omega, rfl, by show _ = _; rw [← HJ.out, ← HJ2.out, Int.toNat_natCast], HS.out.2.2, HS.out.1, HS.out.2.1⟩
      case measure => simp [intOf]; omega

/-- what join leaves -/
def JoinRes (N : Nat) (J : Nat → Nat) (g c base : Nat) (w : World) (e : Ending) (w' : World) : Prop :=
  ∃ P, e = .returned (.tuple #[]) ∧ Forest N P J ∧ w'.ownsRow base 3 1 (.slice (some ⟨g, 0, none⟩) N c) N (P.map (Value.int .i64)) ∧ w.grownBy w' (some g)
theorem join_cases (a b : Nat) : (a < b ∧ max a b = b ∧ min a b = a) ∨ (b < a ∧ max a b = a ∧ min a b = b) ∨ (a = b ∧ max a b = a ∧ min a b = a) := by omega
set_option maxHeartbeats 2000000 in
theorem join_any (g c base N : Nat) (P : List Int) (ls : List Link) (l : Link) (f t : Nat) (w : World) (hf : l.f.toNat = f) (ht : l.t.toNat = t) (hfN : f < N) (htN : t < N) (hN : N ≤ 16777216) (hF : Forest N P (joinF ls)) (hown : w.ownsRow base 3 1 (.slice (some ⟨g, 0, none⟩) N c) N (P.map (Value.int .i64))) :
    Calls Try.prog 52 #[.slice (some ⟨g, 0, none⟩) N c, .int .i64 (f : Int), .int .i64 (t : Int)] w (JoinRes N (joinF (ls ++ [l])) g c base w) := by
  have HJ : Hid (joinF (ls ++ [l]) = jstep (joinF ls) l) := joinF_snoc ls l
  have HI := Lib.hid (joinF_is ls)
  have HF := Lib.hid hF
  have H1 := Lib.hid hf
  have H2 := Lib.hid ht
  have b1 := HI.out.le f
  have b2 := HI.out.le t
  clear hF hf ht
  go_enter Try.func52, Try.ntmps52
  go_wp2_with fail
  refine (find_any _ _ _ _ _ _ _ _ hfN hN HF.out hown).mono ?_
  rintro e w1 ⟨P1, rfl, hF1, hown1, hG1⟩
  have HF1 := Lib.hid hF1
  clear hF1 hown HF
  go_wp2_with fail
  refine (find_any _ _ _ _ _ _ _ _ htN hN HF1.out hown1).mono ?_
  rintro e w2 ⟨P2, rfl, hF2, hown2, hG2⟩
  have HF2 := Lib.hid (forest_join hF2 (l := l) ⟨by rw [H1.out]; exact hfN, by rw [H2.out]; exact htN⟩ HI.out.le HI.out.idem)
  have hP2 := hF2.len
  have hG := hG1.trans hG2
  rw [H1.out, H2.out] at HF2
  generalize joinF ls f = a at *
  generalize joinF ls t = b at *
  have HAB := Lib.hid (join_cases a b)
  clear hown1 hG1 hG2 hF2
  have hst := hown2.stored (max a b) (.int .i64 ((min a b : Nat) : Int))
  rw [← List.map_set] at hst
  have HS := Lib.hid (And.intro hst.1 (And.intro (hG.trans hst.2) HF2.out))
  have f1 := hown2.frozenAt a
  have f2 := hown2.frozenAt b
  have r1 : w2.cell? ⟨g, a, none⟩ = some (.int .i64 (gI P2 a)) := (hown2.cellAt _ (by omega)).trans (getElem?_map_some (by omega))
  have r2 : w2.cell? ⟨g, b, none⟩ = some (.int .i64 (gI P2 b)) := (hown2.cellAt _ (by omega)).trans (getElem?_map_some (by omega))
  have ha : (a : Int) < (N : Int) := by omega
  have hb : (b : Int) < (N : Int) := by omega
  clear hst hown2 hG hP2
  go_wp2
  all_goals
    go_end0
    first
      | (have e1 : max a b = a := by omega
         have e2 : min a b = b := by omega
         rw [e1, e2] at HS
         exact ⟨_, rfl, by rw [HJ.out]; exact HS.out.2.2, HS.out.1, HS.out.2.1⟩)
      | (have e1 : max a b = b := by omega
         have e2 : min a b = a := by omega
         rw [e1, e2] at HS
         exact ⟨_, rfl, by rw [HJ.out]; exact HS.out.2.2, HS.out.1, HS.out.2.1⟩)
      | (have e1 : max a b = a := by omega
         have e2 : min a b = a := by omega
         rw [e1, e2] at HS
         exact ⟨_, rfl, by rw [HJ.out]; exact HS.out.2.2, HS.out.1, HS.out.2.1⟩)
      | (have e1 : max a b = b := by omega
         have e2 : min a b = b := by omega
         rw [e1, e2] at HS
         exact ⟨_, rfl, by rw [HJ.out]; exact HS.out.2.2, HS.out.1, HS.out.2.1⟩)

set_option maxHeartbeats 1000000 in
theorem newForest_any (N : Nat) (w : World) (hN : N ≤ 16777216) :
    Calls Try.prog 51 #[.int .i64 (N : Int)] w fun e w' => e = .returned (.slice (some ⟨w.heap.size, 0, none⟩) N N) ∧ w'.ownsRow w.heap.size 3 1 (.slice (some ⟨w.heap.size, 0, none⟩) N N) N ((iota 0 N).map (Value.int .i64)) ∧ Below w.heap.size w w' := by
  obtain ⟨i0, hi, hz0, hz1, hz2⟩ := info_parts int_info
  go_enter Try.func51, Try.ntmps51
  go_wp2_with (at_make; refine wpList_make_full _ rfl _ _ 75 rfl w.heap.size 3 i0 (.int .i64 0) 1 Try.underlying75 hi hz0 hz1 _ _ _ _ N rfl rfl (by omega) (by omega) (by rw [hz2]; omega) (by unfold maxLen; omega) (Nat.le_refl _) ?_; intro w1 hown1 hg1)
  have hb1 : Below w.heap.size w w1 := (Below.refl _ _).grown hg1 (Nat.le_refl _) (by simp)
  have hown1' : w1.ownsRow w.heap.size 3 1 (.slice (some ⟨w.heap.size, 0, none⟩) N N) N ((marked (List.replicate N 0) 0 0).map (Value.int .i64)) := by
    have : (madeCells (Value.int .i64 0).cells (N * 1)).toList = (marked (List.replicate N (0 : Int)) 0 0).map (Value.int .i64) := by
      rw [Nat.mul_one]
      show (madeCells #[Value.int .i64 0] N).toList = _
      rw [toList_madeCells_one]; simp [marked, iota]
    rw [← this]; exact hown1
  clear hown1
  go_loopw [9] (fun i wr => ∃ j : Nat, j ≤ N ∧ i = .int .i64 j ∧ wr.ownsRow w.heap.size 3 1 (.slice (some ⟨w.heap.size, 0, none⟩) N N) N ((marked (List.replicate N 0) 0 j).map (Value.int .i64)) ∧ Below w.heap.size w wr) (fun i _ => N - (intOf i).toNat)
  case atStart => exact ⟨0, Nat.zero_le _, rfl, hown1', hb1⟩
  case round =>
    obtain ⟨j, hj, rfl, hown, hb⟩ := hrel
    by_cases hlt : j < N
    · have hm : j < (marked (List.replicate N 0) 0 j).length := by rw [marked_len (by simp; omega)]; simp; omega
      have hdst : wr.cell? ⟨w.heap.size, j, none⟩ = some (.int .i64 (gI (marked (List.replicate N 0) 0 j) j)) := (hown.cellAt j (by omega)).trans (getElem?_map_some hm)
      have hfr : wr.frozen? ⟨w.heap.size, j, none⟩ = false := hown.frozenAt j
      have hst := (hown.stored j (.int .i64 (0 + (j : Int))))
      rw [← List.map_set, marked_set (by simp; omega), Int.zero_add] at hst
      have hbn := hb.grown hst.2 hb.size (by intro g e; injection e; omega)
      have HS := Lib.hid (And.intro hst.1 hbn)
      clear hst hbn hown hm hown1'
      go_wp2
      go_roundw
      case rel => exact ⟨j + 1, by omega, by go_num, HS.out.1, HS.out.2⟩
      case measure => simp [intOf]; omega
    · go_wp2
      obtain rfl : j = N := by omega
      go_ret
      refine ⟨rfl, ?_, hb⟩
      have e : marked (List.replicate j 0) 0 j = iota 0 j := by
        have := marked_all (List.replicate j 0) 0
        simpa using this
      rw [e] at hown; exact hown
end Go.Proofs.Ytpkfpegilhadfaa
