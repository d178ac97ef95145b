/- The contract of the reference's LinksNear. -/
import Derived.Test.YtnlnelfncejcfaaLkRelS
set_option linter.unusedVariables false
namespace Go.Proofs.Ytnlnelfncejcfaa
open Go.RowKit Lk

/-- LinksNear's result -/
def linksNear (many : Int) (ls : List Link) (tol : Int) : Bool := lsOk many ls && inB tol 0 200000 && nearB many.toNat ls tol
theorem made_ints {w w1 : World} {base N : Nat} {v : Value} (h : w1.ownsRow base 3 1 v N (madeCells (Value.int .i64 0).cells (N * 1)).toList) : w1.ownsRow base 3 1 v N ((List.replicate N 0).map (Value.int .i64)) := by
  have : (madeCells (Value.int .i64 0).cells (N * 1)).toList = (List.replicate N (0 : Int)).map (Value.int .i64) := by
    rw [Nat.mul_one]
    show (madeCells #[Value.int .i64 0] N).toList = _
    rw [toList_madeCells_one]; simp
  rw [← this]; exact h
theorem bd_rounds {tol : Int} (ht : 0 ≤ tol) {ls : List Link} {n : Nat} (hl : ∀ l ∈ ls, In n l) (hd : ∀ l ∈ ls, -200000 ≤ l.d ∧ l.d ≤ 200000) (h30 : ls.length ≤ 30) (r : Nat) : Bd (12000000 * r) (rounds tol ls r (List.replicate n 0)) := by
  induction r with
  | zero => exact bd_zero n
  | succ r ih =>
    have e : (rounds tol ls r (List.replicate n 0)).length = n := by rw [rounds_len, List.length_replicate]
    exact (bd_rel ht ls (by rw [e]; exact hl) hd ih (by omega)).more (by omega)

set_option maxHeartbeats 2000000 in
theorem sLinksNear_any (many : Int) (A : Option Addr) (n c : Nat) (ls : List Link) (tol : Int) (w : World) (h : LSl w w.heap.size A n c ls) (hn : n ≤ 16777216) :
    Calls Try.prog 15 #[.int .i64 many, .slice A n c, .int .i64 tol] w fun e w' => e = .returned (.bool (linksNear many ls tol)) ∧ Below w.heap.size w w' := by
  have HL := Lib.hid h.len
  rcases hok : lsOk many ls with _ | _
  · go_enter Try.func15, Try.ntmps15
    go_wp2_with fail
    refine (l34Valid_any _ _ _ _ _ _ h hn).mono ?_
    rintro e w1 ⟨rfl, hb1⟩
    go_wp2
    go_ret
    exact ⟨ret_bool (by simp [linksNear, hok]), hb1⟩
  rcases hin : inB tol 0 200000 with _ | _
  · go_enter Try.func15, Try.ntmps15
    go_wp2_with fail
    refine (l34Valid_any _ _ _ _ _ _ h hn).mono ?_
    rintro e w1 ⟨rfl, hb1⟩
    go_wp2_with fail
    refine (l6In_any _ _ _ _).mono ?_
    rintro e w' ⟨rfl, rfl⟩
    go_wp2
    go_ret
    exact ⟨ret_bool (by simp [linksNear, hok, hin]), hb1⟩
  have htol := inB_yes hin
  have hbd := lsOk_bd hok
  rw [HL.out] at hbd
  obtain ⟨N, rfl⟩ := Int.eq_ofNat_of_zero_le (show 0 ≤ many by omega)
  have HLIN : Hid (∀ l ∈ ls, In N l) := in_of_ok hok rfl
  have HD : Hid (∀ l ∈ ls, -200000 ≤ l.d ∧ l.d ≤ 200000) := fun l hl => by have := lsOk_mem hok hl; unfold lOk at this; omega
  have HIN : Hid (∀ i, i < ls.length → (0 ≤ (gL ls i).f ∧ (gL ls i).f < (N : Int)) ∧ (0 ≤ (gL ls i).t ∧ (gL ls i).t < (N : Int)) ∧ (-200000 ≤ (gL ls i).d ∧ (gL ls i).d ≤ 200000)) := fun i hi => by have := lsOk_at hok hi; unfold lOk at this; omega
  have HRES : Hid (∀ b, nearB N ls tol = b → linksNear (N : Int) ls tol = b) := fun b hb => by unfold linksNear; rw [hok, hin, Int.toNat_natCast, hb]; rfl
  have hn30 : n ≤ 30 := hbd.2.2
  have hN1 : 1 ≤ N := by omega
  have hN2 : N ≤ 12 := by omega
  obtain ⟨i0, hi, hz0, hz1, hz2⟩ := info_parts int_info
  clear hbd
  go_enter Try.func15, Try.ntmps15
  go_wp2_with fail
  refine (l34Valid_any _ _ _ _ _ _ h hn).mono ?_
  rintro e w1 ⟨rfl, hb1⟩
  go_wp2_with fail
  refine (l6In_any _ _ _ _).mono ?_
  rintro e w' ⟨rfl, rfl⟩
  go_wp2_with (at_make; refine wpList_make_full _ rfl _ _ 40 rfl w1.heap.size 3 i0 (.int .i64 0) 1 Try.underlying40 hi hz0 hz1 _ _ _ _ N rfl rfl (by omega) (by omega) (by rw [hz2]; omega) (by unfold maxLen; omega) (Nat.le_refl _) ?_; intro w2 hown2 hg2)
  have hown2' := made_ints (w := w1) hown2
  have hb2 : Below w1.heap.size w1 w2 := (Below.refl _ _).grown hg2 (Nat.le_refl _) (by simp)
  have h1 : LSl w1 w1.heap.size A n c ls := (h.below hb1).more hb1.size
  clear hown2 hg2 hok hin
  go_loopw [8] (fun i wr => ∃ k : Nat, k ≤ N ∧ i = .int .i64 k ∧ Hid (∀ r, r < k → rel tol ls (rounds tol ls r (List.replicate N 0)) ≠ rounds tol ls r (List.replicate N 0)) ∧ wr.ownsRow w1.heap.size 3 1 (.slice (some ⟨w1.heap.size, 0, none⟩) N N) N ((rounds tol ls k (List.replicate N 0)).map (Value.int .i64)) ∧ Below w1.heap.size w1 wr) (fun i _ => N - (intOf i).toNat)
  case atStart => exact ⟨0, Nat.zero_le _, rfl, (fun r hr => by omega), hown2', hb2⟩
  case round =>
    obtain ⟨k, hk, rfl, hne, hown, hb⟩ := hrel
    clear hown2' hb2
    by_cases hlt : k < N
    · have HR : Hid (rounds tol ls (k + 1) (List.replicate N 0) = rel tol ls (rounds tol ls k (List.replicate N 0))) := rfl
      have HBD : Hid (Bd (12000000 * k) (rounds tol ls k (List.replicate N 0))) := bd_rounds (by omega) HLIN.out HD.out (by rw [HL.out]; exact hn30) k
      have HST : Hid (rel tol ls (rounds tol ls k (List.replicate N 0)) = rounds tol ls k (List.replicate N 0) → nearB N ls tol = true) := nearB_rest HLIN.out
      obtain ⟨z, hzE⟩ : ∃ z, rounds tol ls k (List.replicate N 0) = z := ⟨_, rfl⟩
      rw [hzE] at HR HBD HST hown
      have HE := Lib.hid hzE
      clear hzE
      by_cases hst : rel tol ls z = z
      · have hd : decide (rel tol ls z ≠ z) = false := by simpa using hst
        have HS := Lib.hid (HRES.out _ (HST.out hst))
        clear hst
        go_wp2_with fail
        refine (l34Relax_any _ _ _ _ _ _ _ _ _ _ (12000000 * k) _ (h1.below hb) hn30 htol.1 htol.2 hown HIN.out HBD.out (by omega) (by omega)).mono ?_
        rintro e w3 ⟨rfl, hown3, hG3⟩
        have hb3 := below_mark hown hb.size hG3
        have hbT := Below.step hb1 (hb.trans hb3)
        go_wp2
        go_ret
        exact ⟨ret_bool HS.out.symm, hbT⟩
      · have hd : decide (rel tol ls z ≠ z) = true := by simpa using hst
        have HS := Lib.hid hst
        clear hst
        go_wp2_with fail
        refine (l34Relax_any _ _ _ _ _ _ _ _ _ _ (12000000 * k) _ (h1.below hb) hn30 htol.1 htol.2 hown HIN.out HBD.out (by omega) (by omega)).mono ?_
        rintro e w3 ⟨rfl, hown3, hG3⟩
        have hb3 := below_mark hown hb.size hG3
        have hbT := hb.trans hb3
        clear hG3 hb3 hown
        go_wp2
        go_roundw
        case rel =>
          refine ⟨k + 1, by omega, by go_num, fun r hr => ?_, by rw [HR.out]; exact hown3, hbT⟩
          by_cases e : r = k
          · rw [e, HE.out]; exact HS.out
          · exact hne.out r (by omega)
        case measure => simp [intOf]; omega
    · go_wp2
      go_ret
      refine ⟨ret_bool (HRES.out _ (nearB_no HLIN.out (r := N - 1) (by omega) (hne.out (N - 1) (by omega)))).symm, Below.step hb1 hb⟩
end Go.Proofs.Ytnlnelfncejcfaa
