/- The walk of the law FnLeastLoop. -/
import Derived.Test.YtaefojbgialiaaaLkDraw3
import Derived.Test.YtaefojbgialiaaaLkLeast
set_option linter.unusedVariables false
namespace Go.Proofs.Ytaefojbgialiaaa
open Go.RowKit Lk

theorem lown_lit2 (w : World) (E : TypeId) (a b : Link) : LOwn (w.alloc (.cells #[.int .i64 a.f, .int .i64 a.t, .int .i64 a.d, .int .i64 b.f, .int .i64 b.t, .int .i64 b.d] E)) w.heap.size E (.slice (some ⟨w.heap.size, 0, none⟩) 2 2) 2 [a, b] := by
  refine ⟨rfl, _, World.ownsRow_lit w _ 2 (Nat.le_refl _) (by unfold maxLen; omega) rfl, fun i j hi hj => ?_⟩
  match i, j, hi, hj with
  | 0, 0, _, _ => rfl
  | 0, 1, _, _ => rfl
  | 0, 2, _, _ => rfl
  | 1, 0, _, _ => rfl
  | 1, 1, _, _ => rfl
  | 1, 2, _, _ => rfl

set_option maxHeartbeats 2000000 in
theorem fnLeastLoop_walk (A : Option Addr) (n c : Nat) (bs : List Int) (A' : Option Addr) (n' c' : Nat) (bs' : List Int) (w : World) (h : BSl w w.heap.size A n c bs) (h' : BSl w w.heap.size A' n' c' bs') :
    Calls Try.prog 12 #[.slice A n c, .slice A' n' c'] w fun e w' => e = .returned (.bool true) ∧ Below w.heap.size w w' := by
  by_cases hbig : 1048576 < n
  · go_enter Try.func12, Try.ntmps12
    go_wp2
    go_ret
    exact ⟨rfl, Below.refl _ _⟩
  by_cases hbig' : 1048576 < n'
  · go_enter Try.func12, Try.ntmps12
    go_wp2
    go_ret
    exact ⟨rfl, Below.refl _ _⟩
  go_enter Try.func12, Try.ntmps12
  go_wp2_with fail
  refine (DrawLinksLeast_any _ _ _ _ _ h (by omega)).mono ?_
  rintro e w1 ⟨many, A1, m, c1, ls, rfl, hD, hb1⟩
  have hm9 := hD.few
  have hp := hD.pos
  have hp6 := hD.six
  have i1 := LSl.of_own hD.own hD.inL
  obtain ⟨v, hv⟩ := leastRes_ex (many : Int) ls
  have HV := Lib.hid hv
  clear hD hv
  go_wp2_with fail
  refine (iLinksLeast_any _ _ _ _ _ v _ i1 (by omega) HV.out).mono ?_
  rintro e w2 ⟨rfl, hb2⟩
  have hT2 := Below.step hb1 hb2
  have i2 := (i1.below hb2).more hb2.size
  clear i1 hb2
  go_wp2_with fail
  refine (sLinksLeast_any _ _ _ _ _ v _ i2 (by omega) HV.out).mono ?_
  rintro e w3 ⟨rfl, hb3⟩
  have hT3 := Below.step hT2 hb3
  clear i2 hb3
  have hne : (v != v) = false := by simp
  by_cases hneg : v < 0
  · go_wp2
    go_ret
    exact ⟨ret_bool (by simp), hT3⟩
  have hnn : 0 ≤ v := by omega
  by_cases h2 : many < 2
  · have h2I : (many : Int) < 2 := by omega
    go_wp2
    go_ret
    exact ⟨rfl, hT3⟩
  have h2I : (2 : Int) ≤ (many : Int) := by omega
  obtain ⟨D, hD⟩ : ∃ D, n' % 300 = D := ⟨_, rfl⟩
  have hDlt : D < 300 := by omega
  have t1 : (n' : Int).tmod 300 = (D : Int) := by rw [Int.tmod_eq_emod_of_nonneg (by omega)]; omega
  have t2 : (n' : Int) % 300 = (D : Int) := by omega
  obtain ⟨V, hVe⟩ : ∃ V : Int, ((D : Int) + 1) / 2 = V := ⟨_, rfl⟩
  have t3 : ((D : Int) + 1).tdiv 2 = V := by rw [Int.tdiv_eq_ediv_of_nonneg (by omega)]; exact hVe
  have HR : Hid (LeastRes (many : Int) [⟨0, 1, 50⟩, ⟨0, 1, 50 + (D : Int)⟩] V) := by
    refine .inl ⟨lsOk_of (by omega) (by omega) (by simp) (fun l hl => ?_), ?_⟩
    · simp only [List.mem_cons, List.not_mem_nil, or_false] at hl
      rcases hl with rfl | rfl <;> (unfold lOk; dsimp only; omega)
    · rw [← hVe]; exact least_loop (by omega) (by omega)
  have hlit := lown_lit2 w3 41 ⟨0, 1, 50⟩ ⟨0, 1, 50 + (D : Int)⟩
  have i4 := LSl.of_own hlit (fun l hl => by
    simp only [List.mem_cons, List.not_mem_nil, or_false] at hl
    rcases hl with rfl | rfl <;> (unfold InL InI; dsimp only; omega))
  clear hlit hD hneg h2
  go_wp2_with fail
  refine (iLinksLeast_any _ _ _ _ _ V _ i4 (by omega) HR.out).mono ?_
  rintro e w4 ⟨rfl, hb4⟩
  have hT4 := Below.step hT3 (((Below.refl _ _).alloc (Nat.le_refl _) _).trans (hb4.mono (by simp)) : Below w3.heap.size w3 w4)
  have hVV : (V == V) = true := by simp
  clear hb4 i4
  go_wp2
  go_ret
  exact ⟨rfl, hT4⟩
end Go.Proofs.Ytaefojbgialiaaa
