/- The walks of the reference's l33Ok and MatchBest, and of the program's seenValid. -/
import Derived.Test.YtpkfpegilhadfaaMtLinesS
set_option linter.unusedVariables false
namespace Go.Proofs.Ytpkfpegilhadfaa
open Go.RowKit Lk Mt

set_option maxHeartbeats 1000000 in
theorem seenValid_any (seen tol : Int) (w : World) :
    Calls Try.prog 40 #[.int .i64 seen, .int .i64 tol] w fun e w' => e = .returned (.bool (mOk seen tol)) ∧ w = w' := by
  by_cases h1 : 0 ≤ seen
  case neg =>
    go_enter Try.func40, Try.ntmps40
    go_wp2
    go_ret
    exact ⟨ret_bool (by unfold mOk; simp; omega), rfl⟩
  by_cases h2 : seen ≤ 200000
  case neg =>
    go_enter Try.func40, Try.ntmps40
    go_wp2
    go_ret
    exact ⟨ret_bool (by unfold mOk; simp; omega), rfl⟩
  by_cases h3 : 0 ≤ tol
  case neg =>
    go_enter Try.func40, Try.ntmps40
    go_wp2
    go_ret
    exact ⟨ret_bool (by unfold mOk; simp; omega), rfl⟩
  by_cases h4 : tol ≤ 1000
  case neg =>
    go_enter Try.func40, Try.ntmps40
    go_wp2
    go_ret
    exact ⟨ret_bool (by unfold mOk; simp; omega), rfl⟩
  go_enter Try.func40, Try.ntmps40
  go_wp2
  go_ret
  exact ⟨ret_bool (by unfold mOk; simp; omega), rfl⟩
theorem mOk_parts (seen tol : Int) : mOk seen tol = (inB seen 0 200000 && inB tol 0 1000) := by
  unfold mOk inB
  rcases h1 : decide (0 ≤ seen ∧ seen ≤ 200000) with _ | _ <;> rcases h2 : decide (0 ≤ tol ∧ tol ≤ 1000) with _ | _ <;> simp at * <;> omega
set_option maxHeartbeats 1000000 in
theorem l33Ok_any (A : Option Addr) (n c : Nat) (s : List Nd) (seen tol : Int) (w : World) (h : NSl w w.heap.size A n c s) :
    Calls Try.prog 62 #[.slice A n c, .int .i64 seen, .int .i64 tol] w fun e w' => e = .returned (.bool (sOk s && mOk seen tol)) ∧ Below w.heap.size w w' := by
  rw [mOk_parts]
  go_enter Try.func62, Try.ntmps62
  go_wp2_with fail
  refine (sSchemeValid_any _ _ _ s _ h).mono ?_
  rintro e w1 ⟨rfl, hb1⟩
  rcases hv : sOk s with _ | _
  · go_wp2
    go_ret
    exact ⟨ret_bool (by rw [hv]; rfl), hb1⟩
  rcases h1 : inB seen 0 200000 with _ | _
  · go_wp2_with (go_at_call 67; refine (l6In_any _ _ _ _).mono ?_; rintro e w' ⟨rfl, rfl⟩)
    go_ret
    exact ⟨ret_bool (by rw [hv, h1]; rfl), hb1⟩
  rcases h2 : inB tol 0 1000 with _ | _
  · go_wp2_with (go_at_call 67; refine (l6In_any _ _ _ _).mono ?_; rintro e w' ⟨rfl, rfl⟩)
    go_ret
    exact ⟨ret_bool (by rw [hv, h1, h2]; rfl), hb1⟩
  · go_wp2_with (go_at_call 67; refine (l6In_any _ _ _ _).mono ?_; rintro e w' ⟨rfl, rfl⟩)
    go_ret
    exact ⟨ret_bool (by rw [hv, h1, h2]; rfl), hb1⟩
theorem LSl.of_lines {w : World} {base : Nat} {E : TypeId} {A : Option Addr} {n c : Nat} {s : List Nd} (h : LOwn w base E (.slice A n c) n ((lines s).map lm)) : LSl w w.heap.size A n c ((lines s).map lm) := LSl.of_own h lines_inL
/-- a line's number, read -/
theorem LSl.num {w : World} {B : Nat} {A : Option Addr} {n c : Nat} {L : List Line} (h : LSl w B A n c (L.map lm)) {k : Nat} (hk : k < n) : ∃ b off, A = some ⟨b, off, none⟩ ∧ b < B ∧ ∀ i, i < n → w.cell? ⟨b, off + i * 3 + 2, none⟩ = some (.int .i64 (gX L i).n) := by
  obtain ⟨b, off, e, hb, _, hc⟩ := h.at_ hk
  exact ⟨b, off, e, hb, fun i hi => by have := (hc i hi).2.2; rw [gL_lm] at this; exact this⟩
def BRel (L : List Line) (seen tol : Int) (n : Nat) (W : World) (b i : Value) (wr : World) : Prop :=
  ∃ k : Nat, k ≤ n ∧ i = .int .i64 k ∧ b = .int .i64 (scan L seen tol k) ∧ Below W.heap.size W wr
theorem scan_bd (L : List Line) (seen tol : Int) (m : Nat) : scan L seen tol m = -1 ∨ ∃ q : Nat, q < m ∧ scan L seen tol m = q := by
  rcases scan_spec L seen tol m with ⟨h, _⟩ | ⟨k, h1, h2, _⟩
  · exact .inl h
  · exact .inr ⟨k, h1, h2⟩
theorem scan_no {L : List Line} {seen tol : Int} {k : Nat} (h : ¬ (off L seen k ≤ tol ∧ (scan L seen tol k < 0 ∨ off L seen k < off L seen (scan L seen tol k).toNat))) : scan L seen tol (k + 1) = scan L seen tol k := by
  show (if _ then _ else _) = _
  rw [if_neg h]
theorem scan_yes {L : List Line} {seen tol : Int} {k : Nat} (h : off L seen k ≤ tol ∧ (scan L seen tol k < 0 ∨ off L seen k < off L seen (scan L seen tol k).toNat)) : scan L seen tol (k + 1) = k := by
  show (if _ then _ else _) = _
  rw [if_pos h]
set_option maxRecDepth 100000 in
set_option maxHeartbeats 8000000 in
theorem sMatchBest_any (A : Option Addr) (n c : Nat) (s : List Nd) (seen tol : Int) (w : World) (h : NSl w w.heap.size A n c s) :
    Calls Try.prog 35 #[.slice A n c, .int .i64 seen, .int .i64 tol] w fun e w' => e = .returned (.int .i64 (matchBest s seen tol)) ∧ Below w.heap.size w w' := by
  go_enter Try.func35, Try.ntmps35
  go_wp2_with fail
  refine (l33Ok_any _ _ _ s _ _ _ h).mono ?_
  rintro e w1 ⟨rfl, hb1⟩
  rcases hv : (sOk s && mOk seen tol) with _ | _
  · have HV : Hid (matchBest s seen tol = -1) := by
      show _ = _
      unfold matchBest
      rw [if_neg (by intro hh; rw [hh.1, hh.2] at hv; cases hv)]
    go_wp2
    go_ret
    exact ⟨ret_int HV.out.symm, hb1⟩
  simp only [Bool.and_eq_true] at hv
  have HV := Lib.hid hv.1
  have hm := mOk_iff.1 hv.2
  obtain ⟨m1, m2, m3, m4⟩ := hm
  have HM : Hid (matchBest s seen tol = bestL (lines s) seen tol) := by
    show _ = _
    unfold matchBest
    rw [if_pos hv]
  clear hv
  have h1 := (h.below hb1).more hb1.size
  go_wp2_with fail
  refine (sSchemeLines_any _ _ _ s _ h1).mono ?_
  rintro e w2 ⟨A2, n2, c2, rfl, hown2, hb2⟩
  have i2 := LSl.of_lines hown2
  have HL : Hid ((lines s).length = n2) := by show _ = _; have := i2.len; simpa using this
  have HIN : Hid (∀ i, i < n2 → 0 < (gX (lines s) i).n ∧ (gX (lines s) i).n ≤ 200000) := fun i hi => by
    have := lines_in HV.out (gX_mem (s := lines s) (i := i) (by rw [HL.out]; exact hi)); omega
  have hbt := Below.step hb1 hb2
  have hfew : n2 ≤ 144 := by rw [← HL.out]; exact lines_len s
  clear hown2 hb1 hb2 h1
  go_wp2
  generalize lines s = L at *
  go_loopw [8, 9] (fun b i wr => BRel L seen tol n2 w2 b i wr) (fun _ i _ => n2 - (intOf i).toNat)
  case atStart => exact ⟨0, Nat.zero_le _, rfl, rfl, Below.refl _ _⟩
  case round =>
    obtain ⟨k, hk, rfl, rfl, hb⟩ := hrel
    by_cases hlt : k < n2
    · obtain ⟨b, off, rfl, hbB, hc⟩ := i2.num hlt
      have p1 := (bcell hb _ _ hbB).trans (hc k hlt)
      have hx := HIN.out k hlt
      obtain ⟨F, hF⟩ : ∃ F, Mt.off L seen k = F := ⟨_, rfl⟩
      have hF2 := hF
      unfold Mt.off at hF2
      obtain ⟨X, hX⟩ : ∃ X, (gX L k).n = X := ⟨_, rfl⟩
      rw [hX] at p1 hx hF2
      have hc1 := fun W => l1Abs_any (X - seen) W (by omega) (by omega)
      simp only [hF2] at hc1
      have HF := Lib.hid hF
      have hFb : 0 ≤ F ∧ F ≤ 400000 := by omega
      obtain ⟨f1, f2⟩ := hFb
      obtain ⟨x1, x2⟩ := hx
      have u1 : IntKind.i64.wrap (X - seen) = X - seen := IntWalk.i64_in _ (by omega)
      clear hF hF2 hX
      have hbd := scan_bd L seen tol k
      have HNO : Hid (¬ (F ≤ tol ∧ (scan L seen tol k < 0 ∨ F < Mt.off L seen (scan L seen tol k).toNat)) → scan L seen tol (k + 1) = scan L seen tol k) := fun hh => scan_no (by rw [HF.out]; exact hh)
      have HYES : Hid (F ≤ tol ∧ (scan L seen tol k < 0 ∨ F < Mt.off L seen (scan L seen tol k).toNat) → scan L seen tol (k + 1) = k) := fun hh => scan_yes (by rw [HF.out]; exact hh)
      go_upto_region 9 with (go_at_call 63; (with_reducible refine (hc1 _).mono ?_); rintro e w' ⟨rfl, rfl⟩)
      clear hc1 u1 p1
      by_cases hft : F ≤ tol
      case neg =>
        have HS := Lib.hid (HNO.out (fun hh => hft hh.1))
        clear hbd HNO HYES
        generalize scan L seen tol k = S at *
        go_wp2
        go_roundw
        case rel => exact ⟨k + 1, by omega, by go_num, by rw [HS.out], hb⟩
        case measure => simp [intOf]; omega
      rcases hbd with hbd | ⟨q, hq, hbd⟩
      · have HS := Lib.hid (HYES.out ⟨hft, .inl (by rw [hbd]; omega)⟩)
        clear HNO HYES
        rw [hbd]
        clear hbd
        go_wp2
        go_roundw
        case rel => exact ⟨k + 1, by omega, by go_num, by rw [HS.out], hb⟩
        case measure => simp [intOf]; omega
      · rw [hbd]
        rw [hbd, Int.toNat_natCast] at HNO HYES
        clear hbd
        have p2 := (bcell hb _ _ hbB).trans (hc q (by omega))
        have hy := HIN.out q (by omega)
        obtain ⟨G, hG⟩ : ∃ F, Mt.off L seen q = F := ⟨_, rfl⟩
        have hG2 := hG
        rw [hG] at HNO HYES
        unfold Mt.off at hG2
        obtain ⟨Y, hY⟩ : ∃ X, (gX L q).n = X := ⟨_, rfl⟩
        rw [hY] at p2 hy hG2
        have hc2 := fun W => l1Abs_any (Y - seen) W (by omega) (by omega)
        simp only [hG2] at hc2
        have hGb : 0 ≤ G ∧ G ≤ 400000 := by omega
        obtain ⟨f3, f4⟩ := hGb
        obtain ⟨y1, y2⟩ := hy
        have u2 : IntKind.i64.wrap (Y - seen) = Y - seen := IntWalk.i64_in _ (by omega)
        have hqn : q < n2 := by omega
        clear hG hG2 hY
        by_cases hfg : F < G
        · have HS := Lib.hid (HYES.out ⟨hft, .inr hfg⟩)
          clear HNO HYES
          go_wp2_with (go_at_call 63; (with_reducible refine (hc2 _).mono ?_); rintro e w' ⟨rfl, rfl⟩)
          go_roundw
          case rel => exact ⟨k + 1, by omega, by go_num, by rw [HS.out], hb⟩
          case measure => simp [intOf]; omega
        · have HS := Lib.hid (HNO.out (fun hh => by omega))
          clear HNO HYES
          go_wp2_with (go_at_call 63; (with_reducible refine (hc2 _).mono ?_); rintro e w' ⟨rfl, rfl⟩)
          go_roundw
          case rel => exact ⟨k + 1, by omega, by go_num, by rw [HS.out], hb⟩
          case measure => simp [intOf]; omega
    · obtain rfl : k = n2 := by omega
      have HE : Hid (matchBest s seen tol = scan L seen tol k) := by show _ = _; rw [HM.out]; unfold bestL; rw [HL.out]
      have HB := Lib.hid (Below.step hbt hb)
      clear hb hbt
      generalize scan L seen tol k = S at *
      go_wp2
      go_ret
      exact ⟨ret_int HE.out.symm, HB.out⟩
end Go.Proofs.Ytpkfpegilhadfaa
