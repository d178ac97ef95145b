/- The walk of the law FnMarks. -/
import Derived.Test.YtdhpnjmnjckihaaMkDraw
set_option linter.unusedVariables false
namespace Go.Proofs.Ytdhpnjmnjckihaa
open Go.RowKit Mk

theorem row_one (w : World) (m : Mrk) (T : TypeId) : OwnR (w.alloc (.cells #[.int .i64 m.p, .int .i64 m.n] T)) w.heap.size T 2 (.slice (some ⟨w.heap.size, 0, none⟩) 1 1) 1 (markV [m]) :=
  ⟨[.int .i64 m.p, .int .i64 m.n], World.ownsRow_lit w #[.int .i64 m.p, .int .i64 m.n] 1 (Nat.le_refl _) (by unfold maxLen; omega) (by simp), fun i j hi hj => by
    obtain rfl : i = 0 := by omega
    match j, hj with
    | 0, _ => rfl
    | 1, _ => rfl⟩
theorem mown_cons {w : World} {base : Nat} {E : TypeId} {v : Value} {n n2 : Nat} {m : Mrk} {ls : List Mrk} (hl : ls.length = n) (h2 : n2 = n + 1) (h : OwnR w base E 2 v n2 (appR (markV [m]) 1 (markV ls))) : MOwn w base E v n2 (m :: ls) :=
  ⟨by simp [hl, h2], h.congr fun i j hi hj => by
    unfold appR markV
    cases i with
    | zero => rw [if_pos (by omega)]; rfl
    | succ i => rw [if_neg (by omega), Nat.add_sub_cancel]; simp [gM]⟩
set_option maxHeartbeats 600000 in
theorem fnMarks_walk (A : Option Addr) (n c : Nat) (bs : List Int) (w : World) (h : BSl w w.heap.size A n c bs) :
    Calls Try.prog 4 #[.slice A n c] w fun e w' => e = .returned (.bool true) ∧ Below w.heap.size w w' := by
  by_cases hbig : 1048576 < n
  · go_enter Try.func4, Try.ntmps4
    go_wp2
    go_ret
    exact ⟨rfl, Below.refl _ _⟩
  obtain ⟨i1, hi1, hy0, hy1, hy2⟩ := info_parts mark_info
  go_enter Try.func4, Try.ntmps4
  go_wp2_with fail
  refine (DrawMarksValid_any _ _ _ _ _ h (by omega)).mono ?_
  rintro e w1 ⟨b, m, c1, ls, rfl, hD, hb1⟩
  have hm1 := hD.pos
  have hm5 := hD.few
  have i1' := MSl.of_own hD.own hD.inM
  have HIN := Lib.hid hD.inM
  clear hD
  go_wp2_with fail
  refine (iMarksValid_any _ _ _ _ _ i1').mono ?_
  rintro e w2 ⟨rfl, hb2⟩
  have hT2 := Below.step hb1 hb2
  have i2 := (i1'.below hb2).more hb2.size
  clear i1' hb2 hb1
  go_wp2_with fail
  refine (sMarksValid_any _ _ _ _ _ i2).mono ?_
  rintro e w3 ⟨rfl, hb3⟩
  have hT3 := Below.step hT2 hb3
  have i3 := (i2.below hb3).more hb3.size
  clear i2 hb3 hT2
  rcases hok : mkOk ls with _ | _
  · go_wp2
    go_ret
    exact ⟨rfl, hT3⟩
  have hlen := mkOk_len hok
  have hmm := i3.len
  rw [hmm] at hlen
  have HLEN := Lib.hid hmm
  have hcap := i3.cap
  have HT := Lib.hid (mkOk_take hok (k := m - 1) (by rw [hmm]; omega))
  have HW := Lib.hid (mkOk_twice ls (by rw [hmm]; omega))
  have icut := i3.cut (k := m - 1) (by omega)
  clear hok hmm
  have kI : (1 : Int) ≤ (m : Int) := by omega
  rcases (by omega : m ≤ 2 ∨ 3 ≤ m) with hm2 | hm3
  all_goals
    go_wp2_with fail
    refine (iMarksValid_any _ _ _ _ _ icut).mono ?_
    rintro e w4 ⟨rfl, hb4⟩
    rw [HT.out]
    first
      | (have d2 : decide (2 ≤ m - 1) = false := by simp; omega
         have d3 : decide (2 < m) = false := by simp; omega
         have d4 : decide ((2 : Int) < (m : Int)) = false := by simp; omega
         rw [d2])
      | (have d2 : decide (2 ≤ m - 1) = true := by simp; omega
         have d3 : decide (2 < m) = true := by simp; omega
         have d4 : decide ((2 : Int) < (m : Int)) = true := by simp; omega
         rw [d2])
    clear d2
    have hT4 := Below.step hT3 hb4
    have i4 := (i3.below hb4).more hb4.size
    obtain ⟨b', off', hbe, hbB, hkz, hc⟩ := i4.at_ (k := 0) (by omega)
    obtain ⟨q1, q2⟩ := hc 0 (by omega)
    injection hbe with hbe
    injection hbe with hbe1 hbe2
    subst hbe1 hbe2
    have hrow := row_one w4 (gM ls 0) 32
    have hba : Below w4.heap.size w4 (w4.alloc (.cells #[.int .i64 (gM ls 0).p, .int .i64 (gM ls 0).n] 32)) := (Below.refl _ _).alloc (Nat.le_refl _) _
    have i5 := i4.below hba
    have hmI : (0 : Int) < (m : Int) := by omega
    rw [Nat.zero_mul, Nat.add_zero] at q1 q2
    clear hc hkz hb4 icut i3
    go_wp2_with (at_builtin; refine guard_rows (by rfl) _ _ _ _ rfl w4.heap.size 32 i1 _ 2 16 Try.underlying25 hi1 hy0 hy1 hy2 rfl (by omega) (by omega) (.slice (some ⟨w4.heap.size, 0, none⟩) 1 1) 1 (markV [gM ls 0]) rfl hrow w4.heap.size _ m c1 (markV ls) rfl i5.row (fun i j _ _ => markV_one ls i j) (1 + m) (by omega) (by omega) hba.size ?_; intro v' w5 hrow5 hg5; obtain ⟨g5, c5, rfl, hg51, hg52⟩ := own_form2 hrow5 (by omega))
    have hb5 : Below w4.heap.size w4 w5 := hba.grown hg5 hba.size (by intro q e; simp [Value.ownBlock] at e; omega)
    have hT5 := Below.step hT4 hb5
    have HOWN := Lib.hid (mown_cons HLEN.out (by omega) hrow5)
    have HI2 : Hid (∀ l ∈ gM ls 0 :: ls, InM l) := fun l hl => by
      rcases List.mem_cons.1 hl with e | hl
      · rw [e]; exact inM_gM HIN.out 0
      · exact HIN.out l hl
    clear hrow5 hg5
    go_wp2_with fail
    refine (iMarksValid_any _ _ _ _ _ (MSl.of_own HOWN.out HI2.out)).mono ?_
    rintro e w6 ⟨rfl, hb6⟩
    have hT6 := Below.step hT5 hb6
    rw [HW.out]
    go_wp2
    go_ret
    exact ⟨rfl, hT6⟩

end Go.Proofs.Ytdhpnjmnjckihaa
