/- The contract of the reference's LinksFit. -/
import Derived.Test.YtaefojbgialiaabLkFitS
import Derived.Test.YtaefojbgialiaabLkGap
set_option linter.unusedVariables false
namespace Go.Proofs.Ytaefojbgialiaab
open Go.RowKit Lk

theorem bool_info : (Try.prog.info? 4).map (fun i => (i.zero, i.size, i.bytes)) = some (some (.bool false), 1, 1) := by kernel_rfl
theorem offL_z {es : List Int} {l : Link} (h : gI es l.t.toNat - gI es l.f.toNat - l.d = 0) : gI es l.t.toNat - gI es l.f.toNat = l.d := by omega

/-- LinksFit's end -/
def FitEnd (many : Int) (ls : List Link) (w : World) (e : Ending) (w' : World) : Prop :=
  ∃ A' m c', e = .returned (.tuple #[.slice A' m c', .bool (fitR many ls).isSome]) ∧ w'.ownsRow w.heap.size 3 1 (.slice A' m c') m (((fitR many ls).getD []).map (Value.int .i64)) ∧ Below w.heap.size w w'

set_option maxHeartbeats 4000000 in
theorem sLinksFit_any (many : Int) (A : Option Addr) (n c : Nat) (ls : List Link) (w : World) (h : LSl w w.heap.size A n c ls) (hn : n ≤ 16777216) :
    Calls Try.prog 18 #[.int .i64 many, .slice A n c] w (FitEnd many ls w) := by
  have HL := Lib.hid h.len
  rcases hok : lsOk many ls with _ | _
  · have HR := Lib.hid (fitR_bad hok)
    go_enter Try.func18, Try.ntmps18
    go_wp2_with fail
    refine (l34Valid_any _ _ _ _ _ _ h hn).mono ?_
    rintro e w1 ⟨rfl, hb1⟩
    have ho := own_base (own_lit0 w1 3) hb1.size
    go_wp2
    go_ret2
    exact ⟨_, 0, 0, by rw [HR.out]; rfl, by rw [HR.out]; exact ho, hb1.trans ((Below.refl _ _).alloc hb1.size _)⟩
  have hbd := lsOk_bd hok
  obtain ⟨N, rfl⟩ := Int.eq_ofNat_of_zero_le (show 0 ≤ many by omega)
  have HOK := Lib.hid hok
  have HIN : Hid (∀ l ∈ ls, In N l) := in_of_ok hok rfl
  have HD : Hid (∀ l ∈ ls, -200000 ≤ l.d ∧ l.d ≤ 200000) := fun l h => by have := lsOk_mem hok h; unfold lOk at this; omega
  have HF : Hid (∀ l ∈ ls, 0 ≤ l.f ∧ 0 ≤ l.t ∧ l.f < (N : Int) ∧ l.t < (N : Int)) := fun l h => by have := lsOk_mem hok h; unfold lOk at this; omega
  have hN1 : 1 ≤ N := by omega
  have hN2 : N ≤ 12 := by omega
  have hn30 : n ≤ 30 := by have := HL.out; omega
  obtain ⟨i0, hi, hz0, hz1, hz2⟩ := info_parts int_info
  obtain ⟨j0, hj, hy0, hy1, hy2⟩ := info_parts bool_info
  clear hbd hok
  go_enter Try.func18, Try.ntmps18
  go_wp2_with fail
  refine (l34Valid_any _ _ _ _ _ _ h hn).mono ?_
  rintro e w1 ⟨rfl, hb1⟩
  rw [HOK.out]
  have hs1 := hb1.size
  go_upto_region 4 with (at_make; refine wpList_make_full _ rfl _ _ 32 rfl w.heap.size 3 i0 (.int .i64 0) 1 Try.underlying32 hi hz0 hz1 _ _ _ _ N rfl rfl (by omega) (by omega) (by rw [hz2]; omega) (by unfold maxLen; omega) (by omega) ?_; intro w2 hown2 hg2)
  have hs2 := hg2.size
  have hb2 : Below w.heap.size w w2 := hb1.grown hg2 hs1 (by simp)
  go_wp2_with (at_make; refine wpList_make_full _ rfl _ _ 54 rfl w.heap.size 4 j0 (.bool false) 1 Try.underlying54 hj hy0 hy1 _ _ _ _ N rfl rfl (by omega) (by omega) (by rw [hy2]; omega) (by unfold maxLen; omega) (by omega) ?_; intro w3 hown3 hg3)
  have hb3 : Below w.heap.size w w3 := hb2.grown hg3 (by omega) (by simp)
  have hlt2 : w1.heap.size < w2.heap.size := (hown2.lt _ rfl).2
  have hO : StO w3 w.heap.size w.heap.size w1.heap.size w2.heap.size N (st0 N) := by
    refine ⟨by omega, ?_, ?_⟩
    · have : (madeCells (Value.int .i64 0).cells (N * 1)).toList = (st0 N).e.map (Value.int .i64) := by
        rw [Nat.mul_one]
        show (madeCells #[Value.int .i64 0] N).toList = _
        rw [toList_madeCells_one]; simp [st0]
      rw [← this]
      exact hown2.kept hg3 (.inr (by simp [Value.ownBlock]))
    · have : (madeCells (Value.bool false).cells (N * 1)).toList = (st0 N).k.map Value.bool := by
        rw [Nat.mul_one]
        show (madeCells #[Value.bool false] N).toList = _
        rw [toList_madeCells_one]; simp [st0]
      rw [← this]
      exact hown3
  have hg1 : w.heap.size ≤ w1.heap.size := hs1
  have hg2 : w.heap.size ≤ w2.heap.size := by omega
  clear hown2 hown3 hg3 hlt2 hb1 hb2 hi hz0 hz1 hz2 hj hy0 hy1 hy2
  generalize w1.heap.size = g1 at *
  generalize w2.heap.size = g2 at *
  go_wp2
  go_loopw [8] (fun i wr => ∃ (k : Nat) (s : St), k ≤ N ∧ i = .int .i64 k ∧ Hid (Ref N ls k s) ∧ StO wr w.heap.size w.heap.size g1 g2 N s ∧ Below w.heap.size w wr) (fun i _ => N - (intOf i).toNat)
  case atStart => exact ⟨0, st0 N, Nat.zero_le _, rfl, ref_start N ls, hO, hb3⟩
  case round =>
    obtain ⟨k, s, hk, rfl, HR, hs, hb⟩ := hrel
    clear hO hb3
    by_cases hlt : k < N
    · have HSE := Lib.hid (ref_see hlt HR.out)
      have HST := Lib.hid (ref_step HIN.out HD.out hlt HR.out)
      obtain ⟨a1, a2⟩ := hs.setK k true
      have a3 := below_set hb a2 hg2 hb.size
      have f1 := hs.frK k
      have r1 := hs.atK hlt
      have HS := Lib.hid a1
      have HB := Lib.hid a3
      clear a1 a2 a3
      go_wp2
      go_loopw [9] (fun i wr => ∃ r : Nat, r ≤ N ∧ i = .int .i64 r ∧ StO wr w.heap.size w.heap.size g1 g2 N (sps ls r (see s k)) ∧ Below w.heap.size w wr) (fun i _ => N - (intOf i).toNat)
      case atStart => exact ⟨0, Nat.zero_le _, rfl, HS.out, HB.out⟩
      case round =>
        obtain ⟨r, hr, rfl, hz, hbz⟩ := hrel
        clear hs f1 r1 hb
        by_cases hlr : r < N
        · have HGD := Lib.hid (sps_good HIN.out HD.out HSE.out.1 HSE.out.2 r)
          have HSS : Hid (sps ls (r + 1) (see s k) = sp ls (sps ls r (see s k))) := rfl
          generalize sps ls r (see s k) = z at *
          go_wp2_with fail
          refine (l34Spread_any _ _ _ _ _ _ _ _ _ w.heap.size _ _ (h.below hbz) hn30 hg1 hg2 hbz.size hz HGD.out hN2 HOK.out).mono ?_
          rintro e w5 ⟨rfl, hz5, hb5⟩
          have hb6 := hbz.trans hb5
          clear hz hb5 hbz
          go_wp2
          go_roundw
          case rel => exact ⟨r + 1, by omega, by go_num, by rw [HSS.out]; exact hz5, hb6⟩
          case measure => simp [intOf]; omega
        · obtain rfl : r = N := by omega
          go_wp2
          go_roundw
          case rel => exact ⟨k + 1, _, by omega, by go_num, HST.out, hz, hbz⟩
          case measure => simp [intOf]; omega
    · obtain rfl : k = N := by omega
      have HE := Lib.hid (ref_end HIN.out HR.out)
      have HGD := Lib.hid HR.out.good
      have HSZ := Lib.hid HR.out.sz
      obtain ⟨wo, rfl⟩ : ∃ wo : World, wo = wr := ⟨_, rfl⟩
      have ow := hs.eo
      have hsw := hb.size
      go_wp2
      go_loopw [10] (fun i wr => ∃ j : Nat, j ≤ n ∧ i = .int .i64 j ∧ Hid (∀ i, i < j → gI s.e (gL ls i).t.toNat - gI s.e (gL ls i).f.toNat = (gL ls i).d) ∧ Below wo.heap.size wo wr) (fun i _ => n - (intOf i).toNat)
      case atStart => exact ⟨0, Nat.zero_le _, rfl, (fun i hi => absurd hi (Nat.not_lt_zero _) : ∀ i, i < 0 → gI s.e (gL ls i).t.toNat - gI s.e (gL ls i).f.toNat = (gL ls i).d), Below.refl _ _⟩
      case round =>
        obtain ⟨j, hj, rfl, HJ, hbj⟩ := hrel
        have hbT := hb.trans (hbj.mono hsw)
        have owj := own_below ow hbj
        by_cases hlj : j < n
        · obtain ⟨b, off, rfl, hbB, hkz, hc⟩ := h.at_ hlj
          obtain ⟨q1, q2, q3⟩ := hc j hlj
          have p1 := (bcell hbT _ _ hbB).trans q1
          have p2 := (bcell hbT _ _ hbB).trans q2
          have p3 := (bcell hbT _ _ hbB).trans q3
          have HM := Lib.hid (gL_mem hkz)
          obtain ⟨f1, f2, f3, f4⟩ := HF.out _ HM.out
          obtain ⟨d1, d2⟩ := HD.out _ HM.out
          have HST : Hid (gI s.e (gL ls j).t.toNat - gI s.e (gL ls j).f.toNat = (gL ls j).d → ∀ i, i < j + 1 → gI s.e (gL ls i).t.toNat - gI s.e (gL ls i).f.toNat = (gL ls i).d) := fun h0 i hi => by
            by_cases e : i = j
            · rw [e]; exact h0
            · exact HJ.out i (by omega)
          have HNO : Hid (gI s.e (gL ls j).t.toNat - gI s.e (gL ls j).f.toNat ≠ (gL ls j).d → fitR (k : Int) ls = none) := fun h0 => fitR_no fun ⟨p, hp⟩ => h0 (fit0 (HE.out.2 p hp) HM.out)
          clear q1 q2 q3 hc
          generalize gL ls j = l at *
          have g1' := good_bd hN2 (show l.f.toNat < k by omega) HGD.out
          have g2' := good_bd hN2 (show l.t.toNat < k by omega) HGD.out
          have el := HSZ.out.1
          have r1 : wr.cell? ⟨g1, l.f.toNat, none⟩ = some (.int .i64 (gI s.e l.f.toNat)) := (owj.cellAt _ (by omega)).trans (getElem?_map_some (by omega))
          have r2 : wr.cell? ⟨g1, l.t.toNat, none⟩ = some (.int .i64 (gI s.e l.t.toNat)) := (owj.cellAt _ (by omega)).trans (getElem?_map_some (by omega))
          have hljI : (j : Int) < (n : Int) := by omega
          clear el
          by_cases hd : gI s.e l.t.toNat - gI s.e l.f.toNat = l.d
          · have HN := Lib.hid (HST.out hd)
            have hd' : (gI s.e l.t.toNat - gI s.e l.f.toNat != l.d) = false := by simpa using hd
            have u1 : IntKind.i64.wrap (gI s.e l.t.toNat - gI s.e l.f.toNat) = gI s.e l.t.toNat - gI s.e l.f.toNat := IntWalk.i64_in _ (by omega)
            clear hd
            go_wp2
            go_quiet (fail)
            go_wp2
            go_roundw
            case rel => exact ⟨j + 1, by omega, by go_num, HN.out, below_drewN hbj _⟩
            case measure => simp [intOf]; omega
          · have HN := Lib.hid (HNO.out hd)
            have hd' : (gI s.e l.t.toNat - gI s.e l.f.toNat != l.d) = true := by simpa using hd
            have u1 : IntKind.i64.wrap (gI s.e l.t.toNat - gI s.e l.f.toNat) = gI s.e l.t.toNat - gI s.e l.f.toNat := IntWalk.i64_in _ (by omega)
            have hsj := hbT.size
            have HO : Hid (∀ k, (wr.drewN k |>.alloc (.cells #[] 3)).ownsRow w.heap.size 3 1 (.slice (some ⟨wr.heap.size, 0, none⟩) 0 0) 0 [] ∧ Below w.heap.size w (wr.drewN k |>.alloc (.cells #[] 3))) := fun k =>
              ⟨own_base (own_lit0 (wr.drewN k) 3) hsj, (below_drewN hbT k).alloc hsj _⟩
            clear hd
            go_wp2
            go_quiet (fail)
            go_wp2
            go_ret2
            exact ⟨_, 0, 0, by rw [HN.out]; rfl, by rw [HN.out]; exact (HO.out nq).1, (HO.out nq).2⟩
        · obtain rfl : j = n := by omega
          have HFE : Hid (fitR (k : Int) ls = some s.e) := by
            refine fitR_yes HOK.out (HE.out.1 (fit0_mk fun l hl => ?_))
            obtain ⟨i, hi, rfl⟩ := mem_gL hl
            exact HJ.out i (by rw [← HL.out]; exact hi)
          have owk := own_base owj (Nat.le_refl _)
          go_wp2
          go_ret2
          exact ⟨_, k, k, by rw [HFE.out]; rfl, by rw [HFE.out]; exact owk, hbT⟩
end Go.Proofs.Ytaefojbgialiaab
