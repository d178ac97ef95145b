/- The walk of the program's MatchBest. -/
import Derived.Test.YtpkfpegilhadfabMtNear
set_option linter.unusedVariables false
namespace Go.Proofs.Ytpkfpegilhadfab
open Go.RowKit Lk Mt

/-- the bounds of the lines' numbers -/
theorem lines_bd {s : List Nd} (h : sOk s = true) {n : Nat} (hn : (lines s).length = n) : ∀ i, i < n → 0 < (gX (lines s) i).n ∧ (gX (lines s) i).n ≤ 200000 := fun i hi => by
  have := lines_in h (gX_mem (s := lines s) (i := i) (by rw [hn]; exact hi)); omega
theorem LSl.lenL {w : World} {B : Nat} {A : Option Addr} {n c : Nat} {L : List Line} (h : LSl w B A n c (L.map lm)) : L.length = n := by have := h.len; simpa using this
theorem matchBest_no {s : List Nd} {seen tol : Int} (h : ¬ (sOk s = true ∧ mOk seen tol = true)) : matchBest s seen tol = -1 := by unfold matchBest; rw [if_neg h]
theorem matchBest_yes {s : List Nd} {seen tol : Int} (h : sOk s = true) (h2 : mOk seen tol = true) : matchBest s seen tol = bestL (lines s) seen tol := by unfold matchBest; rw [if_pos ⟨h, h2⟩]
set_option maxRecDepth 100000 in
set_option maxHeartbeats 8000000 in
theorem iMatchBest_any (A : Option Addr) (n c : Nat) (s : List Nd) (seen tol : Int) (w : World) (h : NSl w w.heap.size A n c s) :
    Calls Try.prog 17 #[.slice A n c, .int .i64 seen, .int .i64 tol] w fun e w' => e = .returned (.int .i64 (matchBest s seen tol)) ∧ Below w.heap.size w w' := by
  go_enter Try.func17, Try.ntmps17
  go_wp2_with fail
  refine (iSchemeValid_any _ _ _ s _ h).mono ?_
  rintro e w1 ⟨rfl, hb1⟩
  rcases hv : sOk s with _ | _
  · have HV := Lib.hid hv
    go_wp2
    go_ret
    exact ⟨ret_int (matchBest_no (by rw [HV.out]; simp)).symm, hb1⟩
  have HV := Lib.hid hv
  clear hv
  rcases hm : mOk seen tol with _ | _
  · have HM := Lib.hid hm
    clear hm
    go_wp2_with (go_at_call 53; (with_reducible refine (seenValid_any _ _ _).mono ?_); rintro e w' ⟨rfl, rfl⟩; rw [HM.out])
    go_ret
    exact ⟨ret_int (matchBest_no (by rw [HM.out]; simp)).symm, hb1⟩
  have HM := Lib.hid hm
  have hm2 := mOk_iff.1 hm
  obtain ⟨m1, m2, m3, m4⟩ := hm2
  clear hm
  have h1 := (h.below hb1).more hb1.size
  go_upto_region 3 with (go_at_call 53; (with_reducible refine (seenValid_any _ _ _).mono ?_); rintro e w' ⟨rfl, rfl⟩; rw [HM.out])
  go_wp2_with fail
  refine (iSchemeLines_any _ _ _ s _ h1).mono ?_
  rintro e w2 ⟨A2, n2, c2, rfl, hown2, hb2⟩
  have i2 := LSl.of_lines hown2
  have hl := i2.lenL
  have hfew : n2 ≤ 144 := by rw [← hl]; exact lines_len s
  have hbt := Below.step hb1 hb2
  have hcon := nearest_any A2 n2 c2 (lines s) seen tol w2 i2 (lines_asc s) (by omega) (lines_bd HV.out hl) m1 m2 m3 m4
  rw [← matchBest_yes HV.out HM.out] at hcon
  clear i2 hown2 hb1 hb2 h1
  obtain ⟨R, hR⟩ : ∃ R, matchBest s seen tol = R := ⟨_, rfl⟩
  rw [hR] at hcon
  have HR := Lib.hid hR
  clear hR
  go_wp2_with (go_at_call 54; (with_reducible refine hcon.mono ?_); rintro e w5 ⟨rfl, hb5⟩)
  have HB := Lib.hid (Below.step hbt hb5)
  clear hbt hb5 hcon
  go_wp2
  go_ret
  exact ⟨ret_int HR.out.symm, HB.out⟩
end Go.Proofs.Ytpkfpegilhadfab
