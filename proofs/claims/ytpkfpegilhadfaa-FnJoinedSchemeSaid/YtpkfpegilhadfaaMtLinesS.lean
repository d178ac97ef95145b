/- The walk of the reference's SchemeLines. -/
import Derived.Test.YtpkfpegilhadfaaMtPut
import Derived.StillTailTactics
set_option linter.unusedVariables false
namespace Go.Proofs.Ytpkfpegilhadfaa
open Go.RowKit Lk Mt

theorem mkL_in {s : List Nd} (h : sOk s = true) {u l : Nat} (hu : u < s.length) (hl : l < s.length) : InL (lm (mkL s u l)) := by
  have a := sOk_at h hu
  have b := sOk_at h hl
  have c := sOk_bd h
  unfold nOk at a b
  unfold InL InI lm mkL; dsimp only; omega
theorem puts_inL {s : List Nd} (h : sOk s = true) {i k : Nat} (hi : i < s.length) (hk : k ≤ i) : ∀ l ∈ (puts (raw s i ++ row s i k)).map lm, InL l := by
  intro l hl
  obtain ⟨x, hx, rfl⟩ := List.mem_map.1 hl
  rw [(puts_perm _).mem_iff, List.mem_append, raw_mem, row_mem] at hx
  rcases hx with ⟨u, q, h1, h2, _, rfl⟩ | ⟨q, h1, _, rfl⟩
  · exact mkL_in h (by omega) (by omega)
  · exact mkL_in h hi (by omega)
def SORel (n : Nat) (s : List Nd) (w : World) (l i : Value) (wr : World) : Prop :=
  ∃ (k : Nat) (L : List Line) (A' : Option Addr) (c' : Nat), k ≤ n ∧ i = .int .i64 k ∧ l = .slice A' L.length c' ∧ Hid (L = puts (raw s k)) ∧ LOwn wr w.heap.size 57 (.slice A' L.length c') L.length (L.map lm) ∧ L.length ≤ 12 * k ∧ Below w.heap.size w wr
def SIRel (k : Nat) (s : List Nd) (w : World) (l i : Value) (wr : World) : Prop :=
  ∃ (j : Nat) (M : List Line) (A2 : Option Addr) (c2 : Nat), j ≤ k ∧ i = .int .i64 j ∧ l = .slice A2 M.length c2 ∧ Hid (M = puts (raw s k ++ row s k j)) ∧ LOwn wr w.heap.size 57 (.slice A2 M.length c2) M.length (M.map lm) ∧ M.length ≤ 12 * k + j ∧ Below w.heap.size w wr
set_option maxRecDepth 100000 in
set_option maxHeartbeats 8000000 in
theorem sSchemeLines_any (A : Option Addr) (n c : Nat) (s : List Nd) (w : World) (h : NSl w w.heap.size A n c s) :
    Calls Try.prog 30 #[.slice A n c] w (LinesRes s w) := by
  have HL := Lib.hid h.len
  have hcap := h.cap
  have hlit : LOwn (w.alloc (.cells #[] 57)) w.heap.size 57 (.slice (some ⟨w.heap.size, 0, none⟩) 0 0) 0 [] := LOwn.lit0 w 57
  have hb0 : Below w.heap.size w (w.alloc (.cells #[] 57)) := (Below.refl _ _).alloc (Nat.le_refl _) _
  have i0 := (h.below hb0).more hb0.size
  go_enter Try.func30, Try.ntmps30
  go_wp2_with fail
  refine (sSchemeValid_any _ _ _ s _ i0).mono ?_
  rintro e w1 ⟨rfl, hb1⟩
  have hown1 := hlit.below hb1
  have hbt := Below.step hb0 hb1
  clear hb0 hb1 hlit i0
  rcases hv : sOk s with _ | _
  · have HV := Lib.hid hv
    have HO := Lib.hid (And.intro hown1 hbt)
    clear hown1 hbt
    go_wp2
    go_ret
    exact ⟨_, _, _, rfl, by rw [lines_no HV.out]; exact HO.out.1, HO.out.2⟩
  have HV := Lib.hid hv
  have hn12 : n ≤ 12 := by have := sOk_bd hv; rw [HL.out] at this; omega
  have HNO : Hid (∀ i, i < n → nOk s i) := fun i hi => sOk_at HV.out (by rw [HL.out]; exact hi)
  clear hv
  go_wp2
  go_loopw [3, 4] (fun l i wr => SORel n s w l i wr) (fun _ i _ => n - (intOf i).toNat)
  case atStart => exact ⟨0, [], _, 0, Nat.zero_le _, rfl, rfl, rfl, hown1, Nat.le_refl _, hbt⟩
  case round =>
    generalize wr = wo at hrel ⊢
    obtain ⟨k, L, A', c', hk, rfl, rfl, hL, hown, hlen, hb⟩ := hrel
    clear hown1 hbt
    by_cases hlt : k < n
    · obtain ⟨b, off, rfl, hbB, hkz, hc⟩ := h.at_ hlt
      have HC := Lib.hid hc
      clear hc
      obtain ⟨X, hX⟩ : ∃ X, gN s k = X := ⟨_, rfl⟩
      have HX := Lib.hid hX
      clear hX
      obtain ⟨xe, xj, xo⟩ := X
      go_wp2
      go_loopw [3, 5] (fun l i wr => SIRel k s w l i wr) (fun _ i _ => k - (intOf i).toNat)
      case atStart => exact ⟨0, L, A', c', Nat.zero_le _, rfl, rfl, (by show _ = _; rw [hL.out]; simp [row]), hown, hlen, hb⟩
      case round =>
        obtain ⟨j, M, A2, c2, hj, rfl, rfl, hM, hownM, hlen2, hbM⟩ := hrel
        clear hown hb
        by_cases hjk : j < k
        · obtain ⟨Y, hY⟩ : ∃ Y, gN s j = Y := ⟨_, rfl⟩
          have HY := Lib.hid hY
          have hokj := HNO.out j (by omega)
          have hokk := HNO.out k hlt
          unfold nOk at hokj hokk
          rw [HX.out] at hokk
          rw [hY] at hokj
          obtain ⟨q1, q2, q3⟩ := HC.out k hlt
          obtain ⟨q4, q5, q6⟩ := HC.out j (by omega)
          rw [HX.out] at q1 q2 q3
          rw [hY] at q4 q5 q6
          obtain ⟨ye, yj, yo⟩ := Y
          dsimp only at hokj hokk q1 q2 q3 q4 q5 q6
          clear hY
          have hbr : b < wr.heap.size := by have := hbM.size; omega
          have p1 : ∀ g : Gw wr.heap.size wr, g.W.cell? ⟨b, off + k * 3, none⟩ = some (.int .i64 xe) := fun g => g.cell hbr ((bcell hbM _ _ hbB).trans q1)
          have p2 : ∀ g : Gw wr.heap.size wr, g.W.cell? ⟨b, off + k * 3 + 1, none⟩ = some (.int .i64 xj) := fun g => g.cell hbr ((bcell hbM _ _ hbB).trans q2)
          have p3 : ∀ g : Gw wr.heap.size wr, g.W.cell? ⟨b, off + k * 3 + 2, none⟩ = some (.bool xo) := fun g => g.cell hbr ((bcell hbM _ _ hbB).trans q3)
          have p4 : ∀ g : Gw wr.heap.size wr, g.W.cell? ⟨b, off + j * 3, none⟩ = some (.int .i64 ye) := fun g => g.cell hbr ((bcell hbM _ _ hbB).trans q4)
          have p5 : ∀ g : Gw wr.heap.size wr, g.W.cell? ⟨b, off + j * 3 + 1, none⟩ = some (.int .i64 yj) := fun g => g.cell hbr ((bcell hbM _ _ hbB).trans q5)
          have p6 : ∀ g : Gw wr.heap.size wr, g.W.cell? ⟨b, off + j * 3 + 2, none⟩ = some (.bool yo) := fun g => g.cell hbr ((bcell hbM _ _ hbB).trans q6)
          have hcl := fun W => l31Allowed_any ⟨xe, xj, xo⟩ ⟨ye, yj, yo⟩ W (by dsimp only; omega) (by dsimp only; omega)
          dsimp only at hcl
          have u1 : (k : Int) < (n : Int) := by omega
          have u2 : (j : Int) < (n : Int) := by omega
          have hrow1 : Hid (allowed ⟨xe, xj, xo⟩ ⟨ye, yj, yo⟩ = false → M = puts (raw s k ++ row s k (j + 1))) := fun ha => by rw [hM.out, row_succ, HX.out, HY.out, ha]; simp
          have hrow2 : Hid (allowed ⟨xe, xj, xo⟩ ⟨ye, yj, yo⟩ = true → put M ⟨k, j, xe - ye⟩ = puts (raw s k ++ row s k (j + 1))) := fun ha => by rw [hM.out, row_succ, HX.out, HY.out, ha, ← puts_snoc]; unfold mkL; rw [HX.out, HY.out]; simp
          have hxb : 0 ≤ xe ∧ xe ≤ 200000 ∧ 0 ≤ ye ∧ ye ≤ 200000 := by omega
          obtain ⟨x1, x2, x3, x4⟩ := hxb
          have hokk2 := Lib.hid (And.intro hokj hokk)
          clear hokj hokk
          go_upto_region 10 with (fail)
          rcases hA : allowed ⟨xe, xj, xo⟩ ⟨ye, yj, yo⟩ with _ | _
          · simp only [hA] at hcl
            have hR := Lib.hid (hrow1.out hA)
            clear hA
            have hnonempty := Gw.ne (Nat.le_refl wr.heap.size) (Below.refl wr.heap.size wr)
            refine wp_region_gw (Nat.le_refl wr.heap.size) (Below.refl wr.heap.size wr) (by kernel_rfl) (by kernel_rfl) ?_
            repeat (go_big_quiet_step ((go_at_call 55; exact Gw.of (hcl _))))
            refine wpQuiet_nil ?_
            intro wq hw'
            have hq := Gw.out hw'
            clear hw' hnonempty
            have HO := Lib.hid (And.intro (hownM.below hq) (Below.step hbM hq))
            clear hcl p1 p2 p3 p4 p5 p6 hq hownM hbM q1 q2 q3 q4 q5 q6
            go_wp2
            go_roundw
            case rel => exact ⟨j + 1, M, A2, c2, by omega, by go_num, rfl, hR.out, HO.out.1, by omega, HO.out.2⟩
            case measure => simp [intOf]; omega
          · simp only [hA] at hcl
            have hR := Lib.hid (hrow2.out hA)
            clear hA
            have hnonempty := Gw.ne (Nat.le_refl wr.heap.size) (Below.refl wr.heap.size wr)
            refine wp_region_gw (Nat.le_refl wr.heap.size) (Below.refl wr.heap.size wr) (by kernel_rfl) (by kernel_rfl) ?_
            repeat (go_big_quiet_step ((go_at_call 55; exact Gw.of (hcl _))))
            refine wpQuiet_nil ?_
            intro wq hw'
            have hq := Gw.out hw'
            clear hw' hnonempty
            have hbT := Below.step hbM hq
            have hO4 := hownM.below hq
            replace q1 := (bcell hbT _ _ hbB).trans q1
            replace q4 := (bcell hbT _ _ hbB).trans q4
            have u3 : IntKind.i64.wrap (xe - ye) = xe - ye := IntWalk.i64_in _ (by omega)
            clear hcl p1 p2 p3 p4 p5 p6 hq hownM hbM q2 q3 q5 q6
            go_upto_region 11 with (fail)
            go_still_tail 15, (by kernel_rfl)
            change wpList _ _ _ _ _ wq.drew
            have hbT2 := below_drew hbT
            have hO5 : LOwn wq.drew w.heap.size 57 (.slice A2 M.length c2) M.length (M.map lm) := hO4.drewN 1
            clear hbT hO4 q1 q4 u1 u2 u3
            generalize wq.drew = wd at *
            have hin := LSl.of_own hO5 (by rw [hM.out]; exact puts_inL HV.out (by rw [HL.out]; exact hlt) hj)
            have hx : InL (lm ⟨k, j, xe - ye⟩) := by unfold InL InI lm; dsimp only; omega
            go_wp2_with fail
            refine (l31Put_any _ _ _ M ⟨k, j, xe - ye⟩ _ hin (by omega) hx).mono ?_
            rintro e w5 ⟨A5, c5, rfl, hown5, hb5⟩
            have hbT5 := Below.step hbT2 hb5
            have HO := Lib.hid (And.intro (hown5.base_ hbT2.size) hbT5)
            have HLN : Hid ((put M ⟨k, j, xe - ye⟩).length = M.length + 1) := put_len
            clear hown5 hb5 hbT5 hbT2 hO5 hin hx
            go_wp2
            go_roundw
            case rel => exact ⟨j + 1, _, A5, c5, by omega, by go_num, by rw [HLN.out], hR.out, by rw [HLN.out]; exact HO.out.1, by rw [HLN.out]; omega, HO.out.2⟩
            case measure => simp [intOf]; omega
        · obtain rfl : j = k := by omega
          have hr : Hid (M = puts (raw s (j + 1))) := by show _ = _; rw [hM.out, raw_succ]
          have hO := Lib.hid (And.intro hownM hbM)
          clear hownM hbM
          go_wp2
          go_roundw
          case rel => exact ⟨j + 1, M, A2, c2, by omega, by go_num, rfl, hr.out, hO.out.1, by omega, hO.out.2⟩
          case measure => simp [intOf]; omega
    · obtain rfl : k = n := by omega
      have HLN : Hid (lines s = L) := by show _ = _; unfold lines; rw [HV.out, hL.out, HL.out]; rfl
      have HO := Lib.hid (And.intro hown hb)
      clear hown hb
      go_wp2
      go_ret
      exact ⟨_, _, _, rfl, by rw [HLN.out]; exact HO.out.1, HO.out.2⟩
end Go.Proofs.Ytpkfpegilhadfaa
