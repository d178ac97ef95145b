/- The walk of the reference's SchemeReach. -/
import Derived.Test.YtpkfpegilhadfaaMtReachI
import Derived.Test.YtpkfpegilhadfaaMtLinesS
set_option linter.unusedVariables false
namespace Go.Proofs.Ytpkfpegilhadfaa
open Go.RowKit Lk Mt

/-- which nodes are joined by a line -/
def al (s : List Nd) : Nat → Nat → Bool := fun i k => allowed (gN s i) (gN s k)
def b0 (n : Nat) : List Bool := (List.replicate n false).set 0 true
theorem b0_len (n : Nat) : (b0 n).length = n := by simp [b0]
theorem rs_no {A : Nat → Nat → Bool} {b : List Bool} {i k : Nat} (h : ¬ (gB b k = true ∧ A i k = true)) : rs A b i k = b := by unfold rs; rw [if_neg h]
theorem rs_yes {A : Nat → Nat → Bool} {b : List Bool} {i k : Nat} (h : gB b k = true ∧ A i k = true) : rs A b i k = b.set i true := by unfold rs; rw [if_pos h]
def RcRel (s : List Nd) (n B g : Nat) (F : Nat → List Bool) (W : World) (i : Value) (wr : World) : Prop :=
  ∃ k : Nat, k ≤ n ∧ i = .int .i64 k ∧ wr.ownsRow B 4 1 (.slice (some ⟨g, 0, none⟩) n n) n ((F k).map Value.bool) ∧ Below W.heap.size W wr
set_option maxRecDepth 100000 in
set_option maxHeartbeats 8000000 in
theorem sSchemeReach_any (A : Option Addr) (n c : Nat) (s : List Nd) (w : World) (h : NSl w w.heap.size A n c s) :
    Calls Try.prog 25 #[.slice A n c] w (ReachRes s w) := by
  have HL := Lib.hid h.len
  obtain ⟨i0, hi, hz0, hz1, hz2⟩ := info_parts boolR_info
  go_enter Try.func25, Try.ntmps25
  go_wp2_with fail
  refine (sSchemeValid_any _ _ _ s _ h).mono ?_
  rintro e w1 ⟨rfl, hb1⟩
  rcases hv : sOk s with _ | _
  · have HV := Lib.hid hv
    have HO := Lib.hid (And.intro (own_base (own_lit0 w1 4) hb1.size) (hb1.alloc hb1.size (.cells #[] 4)))
    clear hb1 hv
    go_wp2
    go_ret
    exact ⟨_, 0, 0, rfl, by rw [reachL_no HV.out]; exact HO.out.1, HO.out.2⟩
  have HV := Lib.hid hv
  have hbd := sOk_bd hv
  rw [HL.out] at hbd
  have hn1 : 1 ≤ n := hbd.1
  have hn12 : n ≤ 12 := hbd.2.1
  have HNO : Hid (∀ i, i < n → nOk s i) := fun i hi => sOk_at HV.out (by rw [HL.out]; exact hi)
  have h1 := (h.below hb1).more hb1.size
  have hs1 := hb1.size
  clear hv hbd
  go_upto_region 4 with (at_make; refine wpList_make_full _ rfl _ _ 43 rfl w1.heap.size 4 i0 (.bool false) 1 Try.underlying43 hi hz0 hz1 _ _ _ _ n rfl rfl (by omega) (by omega) (by rw [hz2]; omega) (by unfold maxLen; omega) (Nat.le_refl _) ?_; intro w2 hown2 hg2)
  rw [made_boolsR] at hown2
  have hb2 : Below w1.heap.size w1 w2 := (Below.refl _ _).grown hg2 (Nat.le_refl _) (by simp)
  have hcell := (hown2.cellAt 0 (by omega)).trans (boolsR_at (bs := List.replicate n false) (i := 0) (by simp; omega))
  have hfr := hown2.frozenAt 0
  have hst := hown2.stored 0 (.bool true)
  rw [← List.map_set] at hst
  have hO3 : (w2.setCell ⟨w1.heap.size, 0, none⟩ (.bool true)).ownsRow w1.heap.size 4 1 (.slice (some ⟨w1.heap.size, 0, none⟩) n n) n ((rnds (al s) n (b0 n) 0).map Value.bool) := hst.1
  have hB3 : Below w1.heap.size w1 (w2.setCell ⟨w1.heap.size, 0, none⟩ (.bool true)) := hb2.trans (below_mark hown2 hb2.size hst.2)
  clear hst hown2 hg2 hb2
  go_wp2
  go_loopw [4] (fun i wr => RcRel s n w1.heap.size w1.heap.size (rnds (al s) n (b0 n)) w1 i wr) (fun i _ => n - (intOf i).toNat)
  case atStart => exact ⟨0, Nat.zero_le _, rfl, hO3, hB3⟩
  case round =>
    generalize wr = wA at hrel ⊢
    obtain ⟨r, hr, rfl, hOr, hBr⟩ := hrel
    clear hO3 hB3 hcell hfr
    by_cases hrn : r < n
    · go_wp2
      go_loopw [5] (fun i wr => RcRel s n w1.heap.size w1.heap.size (rall (al s) n (rnds (al s) n (b0 n) r)) w1 i wr) (fun i _ => n - (intOf i).toNat)
      case atStart => exact ⟨0, Nat.zero_le _, rfl, hOr, hBr⟩
      case round =>
        generalize wr = wB at hrel ⊢
        obtain ⟨i, hii, rfl, hOi, hBi⟩ := hrel
        clear hOr hBr
        by_cases hin : i < n
        · go_wp2
          go_loopw [6] (fun q wr => RcRel s n w1.heap.size w1.heap.size (rrow (al s) (rall (al s) n (rnds (al s) n (b0 n) r) i) i) w1 q wr) (fun q _ => n - (intOf q).toNat)
          case atStart => exact ⟨0, Nat.zero_le _, rfl, hOi, hBi⟩
          case round =>
            obtain ⟨k, hkk, rfl, hOk, hBk⟩ := hrel
            clear hOi hBi
            by_cases hkn : k < n
            · have HLEN : Hid ((rrow (al s) (rall (al s) n (rnds (al s) n (b0 n) r) i) i k).length = n) := by
                show _ = _
                rw [rrow_len, rall_len, rnds_len, b0_len]
              have HSTEP : Hid (rrow (al s) (rall (al s) n (rnds (al s) n (b0 n) r) i) i (k + 1) = rs (al s) (rrow (al s) (rall (al s) n (rnds (al s) n (b0 n) r) i) i k) i k) := rfl
              obtain ⟨bs, hbs⟩ : ∃ bs, rrow (al s) (rall (al s) n (rnds (al s) n (b0 n) r) i) i k = bs := ⟨_, rfl⟩
              rw [hbs] at hOk HLEN HSTEP
              clear hbs
              obtain ⟨b, off, rfl, hbB, _, hc⟩ := h1.at_ hkn
              obtain ⟨q1, q2, q3⟩ := hc i hin
              obtain ⟨q4, q5, q6⟩ := hc k hkn
              have hoki := HNO.out i hin
              have hokk := HNO.out k hkn
              unfold nOk at hoki hokk
              obtain ⟨X, hX⟩ : ∃ X, gN s i = X := ⟨_, rfl⟩
              obtain ⟨Y, hY⟩ : ∃ Y, gN s k = Y := ⟨_, rfl⟩
              have HAL : Hid (al s i k = allowed X Y) := by show _ = _; unfold al; rw [hX, hY]
              rw [hX] at q1 q2 q3 hoki
              rw [hY] at q4 q5 q6 hokk
              obtain ⟨xe, xj, xo⟩ := X
              obtain ⟨ye, yj, yo⟩ := Y
              dsimp only at q1 q2 q3 q4 q5 q6 hoki hokk
              have hcl := fun W => l31Allowed_any ⟨xe, xj, xo⟩ ⟨ye, yj, yo⟩ W (by dsimp only; omega) (by dsimp only; omega)
              dsimp only at hcl
              clear hX hY hc hoki hokk
              have hbr : b < wr.heap.size := by have := hBk.size; omega
              have hgr : w1.heap.size < wr.heap.size := (hOk.lt _ rfl).2
              have p1 : ∀ g : Gw wr.heap.size wr, g.W.cell? ⟨b, off + i * 3, none⟩ = some (.int .i64 xe) := fun g => g.cell hbr ((bcell hBk _ _ hbB).trans q1)
              have p2 : ∀ g : Gw wr.heap.size wr, g.W.cell? ⟨b, off + i * 3 + 1, none⟩ = some (.int .i64 xj) := fun g => g.cell hbr ((bcell hBk _ _ hbB).trans q2)
              have p3 : ∀ g : Gw wr.heap.size wr, g.W.cell? ⟨b, off + i * 3 + 2, none⟩ = some (.bool xo) := fun g => g.cell hbr ((bcell hBk _ _ hbB).trans q3)
              have p4 : ∀ g : Gw wr.heap.size wr, g.W.cell? ⟨b, off + k * 3, none⟩ = some (.int .i64 ye) := fun g => g.cell hbr ((bcell hBk _ _ hbB).trans q4)
              have p5 : ∀ g : Gw wr.heap.size wr, g.W.cell? ⟨b, off + k * 3 + 1, none⟩ = some (.int .i64 yj) := fun g => g.cell hbr ((bcell hBk _ _ hbB).trans q5)
              have p6 : ∀ g : Gw wr.heap.size wr, g.W.cell? ⟨b, off + k * 3 + 2, none⟩ = some (.bool yo) := fun g => g.cell hbr ((bcell hBk _ _ hbB).trans q6)
              have hck := (hOk.cellAt k (by omega)).trans (boolsR_at (bs := bs) (i := k) (by have := HLEN.out; omega))
              have hHK := Lib.hid hck
              obtain ⟨V, hV⟩ : ∃ V, gB bs k = V := ⟨_, rfl⟩
              rw [hV] at hck
              have p7 : ∀ g : Gw wr.heap.size wr, g.W.cell? ⟨w1.heap.size, k, none⟩ = some (.bool V) := fun g => g.cell hgr hck
              have u1 : (i : Int) < (n : Int) := by omega
              have u2 : (k : Int) < (n : Int) := by omega
              clear hck q1 q2 q3 q4 q5 q6
              go_upto_region 14 with (fail)
              by_cases hyes : V = true ∧ allowed ⟨xe, xj, xo⟩ ⟨ye, yj, yo⟩ = true
              · obtain ⟨rfl, hA⟩ := hyes
                simp only [hA] at hcl
                have HS : Hid (rs (al s) bs i k = bs.set i true) := rs_yes ⟨hV, by rw [HAL.out]; exact hA⟩
                clear hV hA
                have hnonempty := Gw.ne (Nat.le_refl wr.heap.size) (Below.refl wr.heap.size wr)
                refine wp_region_gw (Nat.le_refl wr.heap.size) (Below.refl wr.heap.size wr) (by kernel_rfl) (by kernel_rfl) ?_
                repeat (go_big_quiet_step ((go_at_call 55; exact Gw.of (hcl _))))
                refine wpQuiet_nil ?_
                intro wq hw'
                have hq := Gw.out hw'
                clear hw' hnonempty
                have hOq := own_below hOk hq
                have hBq := Below.step hBk hq
                have hci := (hOq.cellAt i (by omega)).trans (boolsR_at (bs := bs) (i := i) (by have := HLEN.out; omega))
                have hfi := hOq.frozenAt i
                have hst := hOq.stored i (.bool true)
                rw [← List.map_set, ← HS.out, ← HSTEP.out] at hst
                have HO := Lib.hid (And.intro hst.1 (hBq.trans (below_mark hOq hBq.size hst.2)))
                clear hst hOq hBq hOk hBk hq hcl p1 p2 p3 p4 p5 p6 p7
                go_wp2
                go_roundw
                case rel => exact ⟨k + 1, by omega, by go_num, HO.out.1, HO.out.2⟩
                case measure => simp [intOf]; omega
              · have HS : Hid (rs (al s) bs i k = bs) := rs_no (fun hh => hyes ⟨by rw [← hV]; exact hh.1, by rw [← HAL.out]; exact hh.2⟩)
                obtain ⟨C, hC⟩ : ∃ C, allowed ⟨xe, xj, xo⟩ ⟨ye, yj, yo⟩ = C := ⟨_, rfl⟩
                rw [hC] at hyes
                simp only [hC] at hcl
                clear hV hC
                cases V
                · clear hyes
                  have hnonempty := Gw.ne (Nat.le_refl wr.heap.size) (Below.refl wr.heap.size wr)
                  refine wp_region_gw (Nat.le_refl wr.heap.size) (Below.refl wr.heap.size wr) (by kernel_rfl) (by kernel_rfl) ?_
                  repeat (go_big_quiet_step ((go_at_call 55; exact Gw.of (hcl _))))
                  refine wpQuiet_nil ?_
                  intro wq hw'
                  have hq := Gw.out hw'
                  clear hw' hnonempty
                  have HO := Lib.hid (And.intro (own_below hOk hq) (Below.step hBk hq))
                  clear hOk hBk hq hcl p1 p2 p3 p4 p5 p6 p7
                  go_wp2
                  go_roundw
                  case rel => exact ⟨k + 1, by omega, by go_num, by rw [HSTEP.out, HS.out]; exact HO.out.1, HO.out.2⟩
                  case measure => simp [intOf]; omega
                · obtain rfl : C = false := by cases C; rfl; exact absurd ⟨rfl, rfl⟩ hyes
                  clear hyes
                  have hnonempty := Gw.ne (Nat.le_refl wr.heap.size) (Below.refl wr.heap.size wr)
                  refine wp_region_gw (Nat.le_refl wr.heap.size) (Below.refl wr.heap.size wr) (by kernel_rfl) (by kernel_rfl) ?_
                  repeat (go_big_quiet_step ((go_at_call 55; exact Gw.of (hcl _))))
                  refine wpQuiet_nil ?_
                  intro wq hw'
                  have hq := Gw.out hw'
                  clear hw' hnonempty
                  have HO := Lib.hid (And.intro (own_below hOk hq) (Below.step hBk hq))
                  clear hOk hBk hq hcl p1 p2 p3 p4 p5 p6 p7
                  go_wp2
                  go_roundw
                  case rel => exact ⟨k + 1, by omega, by go_num, by rw [HSTEP.out, HS.out]; exact HO.out.1, HO.out.2⟩
                  case measure => simp [intOf]; omega
            · obtain rfl : k = n := by omega
              have HO := Lib.hid (And.intro hOk hBk)
              clear hOk hBk
              go_wp2
              go_roundw
              case rel => exact ⟨i + 1, by omega, by go_num, HO.out.1, HO.out.2⟩
              case measure => simp [intOf]; omega
        · obtain rfl : i = n := by omega
          have HO := Lib.hid (And.intro hOi hBi)
          clear hOi hBi
          go_wp2
          go_roundw
          case rel => exact ⟨r + 1, by omega, by go_num, HO.out.1, HO.out.2⟩
          case measure => simp [intOf]; omega
    · obtain rfl : r = n := by omega
      have HE : Hid (rnds (al s) r (b0 r) r = reachL s) := by
        show _ = _
        have := rnds_reach HV.out
        rw [HL.out] at this
        exact this
      rw [HE.out] at hOr
      have HO := Lib.hid (And.intro (own_base hOr hs1) (Below.step hb1 hBr))
      clear hOr hBr
      go_wp2
      go_ret
      exact ⟨_, _, _, rfl, HO.out.1, HO.out.2⟩
end Go.Proofs.Ytpkfpegilhadfaa
