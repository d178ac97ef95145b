/- The contract of the program's LinksNear. -/
import Derived.Test.YtnlnelfncejcfaaLkNearS
set_option linter.unusedVariables false
namespace Go.Proofs.Ytnlnelfncejcfaa
open Go.RowKit Lk

set_option maxRecDepth 100000 in
set_option maxHeartbeats 8000000 in
theorem within_any (N : Nat) (A : Option Addr) (n c : Nat) (ls : List Link) (tol : Int) (w : World) (h : LSl w w.heap.size A n c ls) (hok : lsOk (N : Int) ls = true) (ht : 0 ≤ tol) (ht2 : tol ≤ 200000) :
    Calls Try.prog 13 #[.int .i64 (N : Int), .slice A n c, .int .i64 tol] w fun e w' => e = .returned (.bool (nearB N ls tol)) ∧ Below w.heap.size w w' := by
  have HL := Lib.hid h.len
  have hbd := lsOk_bd hok
  rw [HL.out] at hbd
  have HLIN : Hid (∀ l ∈ ls, In N l) := in_of_ok hok rfl
  have HD : Hid (∀ l ∈ ls, -200000 ≤ l.d ∧ l.d ≤ 200000) := fun l hl => by have := lsOk_mem hok hl; unfold lOk at this; omega
  have HIN : Hid (∀ i, i < ls.length → (0 ≤ (gL ls i).f ∧ (gL ls i).f < (N : Int)) ∧ (0 ≤ (gL ls i).t ∧ (gL ls i).t < (N : Int)) ∧ (-200000 ≤ (gL ls i).d ∧ (gL ls i).d ≤ 200000)) := fun i hi => by have := lsOk_at hok hi; unfold lOk at this; omega
  have hn30 : n ≤ 30 := hbd.2.2
  have hN1 : 1 ≤ N := by omega
  have hN2 : N ≤ 12 := by omega
  obtain ⟨i0, hi, hz0, hz1, hz2⟩ := info_parts int_info
  clear hbd hok
  go_enter Try.func13, Try.ntmps13
  go_wp2_with (at_make; refine wpList_make_full _ rfl _ _ 40 rfl w.heap.size 3 i0 (.int .i64 0) 1 Try.underlying40 hi hz0 hz1 _ _ _ _ N rfl rfl (by omega) (by omega) (by rw [hz2]; omega) (by unfold maxLen; omega) (Nat.le_refl _) ?_; intro w2 hown2 hg2)
  have hown2' := made_ints (w := w) hown2
  have hb2 : Below w.heap.size w w2 := (Below.refl _ _).grown hg2 (Nat.le_refl _) (by simp)
  clear hown2 hg2
  go_loopw [17] (fun i wr => ∃ k : Nat, k ≤ N + 1 ∧ i = .int .i64 k ∧ Hid (∀ r, r < k → rel tol ls (rounds tol ls r (List.replicate N 0)) ≠ rounds tol ls r (List.replicate N 0)) ∧ wr.ownsRow w.heap.size 3 1 (.slice (some ⟨w.heap.size, 0, none⟩) N N) N ((rounds tol ls k (List.replicate N 0)).map (Value.int .i64)) ∧ Below w.heap.size w wr) (fun i _ => N + 1 - (intOf i).toNat)
  case atStart => exact ⟨0, Nat.zero_le _, rfl, (fun r hr => by omega), hown2', hb2⟩
  case round =>
    obtain ⟨k, hk, rfl, hne, hown, hb⟩ := hrel
    clear hown2' hb2
    by_cases hlt : k < N + 1
    · have HR : Hid (rounds tol ls (k + 1) (List.replicate N 0) = rel tol ls (rounds tol ls k (List.replicate N 0))) := rfl
      have HBD0 : Hid (Bd (12000000 * k) (rounds tol ls k (List.replicate N 0))) := bd_rounds (by omega) HLIN.out HD.out (by rw [HL.out]; exact hn30) k
      have HST : Hid (rel tol ls (rounds tol ls k (List.replicate N 0)) = rounds tol ls k (List.replicate N 0) → nearB N ls tol = true) := nearB_rest HLIN.out
      obtain ⟨es, hzE⟩ : ∃ z, rounds tol ls k (List.replicate N 0) = z := ⟨_, rfl⟩
      rw [hzE] at HR HBD0 HST hown
      have HE := Lib.hid hzE
      clear hzE
      have hem : es.length = N := by have := hown.1; simpa using this
      have HEM := Lib.hid hem
      clear hem
      have hgw : w.heap.size < wr.heap.size := (hown.lt _ rfl).2
      have hfr : decide (es ≠ es) = false := by simp
      have hB0 : (0 : Int) ≤ 12000000 * k := by omega
      obtain ⟨B, hBE⟩ : ∃ B : Int, 12000000 * (k : Int) = B := ⟨_, rfl⟩
      have hB1 : B ≤ 156000000 := by omega
      rw [hBE] at HBD0 hB0
      clear hBE
      obtain ⟨wo, rfl⟩ : ∃ wo : World, wo = wr := ⟨_, rfl⟩
      go_wp2
      go_loopw [8, 21] (fun fr i wr => ∃ (j : Nat) (z : List Int), j ≤ n ∧ i = .int .i64 j ∧ fr = .bool (decide (z ≠ es)) ∧ Hid (z = rel tol (ls.take j) es) ∧ Hid (z.length = N) ∧ Hid (Bd (B + 400000 * j) z) ∧ Hid (Le z es) ∧ wr.ownsRow w.heap.size 3 1 (.slice (some ⟨w.heap.size, 0, none⟩) N N) N (z.map (Value.int .i64)) ∧ wo.grownBy wr (some w.heap.size)) (fun _ i _ => n - (intOf i).toNat)
      case atStart => exact ⟨0, es, Nat.zero_le _, rfl, by rw [hfr], rfl, HEM.out, HBD0.out.more (by omega), Le.refl _, hown, World.grownBy.refl wo _⟩
      case round =>
        obtain ⟨j, z, hj, rfl, rfl, HZ, HZL, HBD, HLE, hz, hG⟩ := hrel
        have hsz := hG.size
        clear hfr
        by_cases hlj : j < n
        · obtain ⟨b, off, rfl, hbB, hkz, hc⟩ := h.at_ hlj
          obtain ⟨q1, q2, q3⟩ := hc j hlj
          have p1 := ((grown_cells hG hbB hgw).trans (bcell hb _ _ hbB)).trans q1
          have p2 := ((grown_cells hG hbB hgw).trans (bcell hb _ _ hbB)).trans q2
          have p3 := ((grown_cells hG hbB hgw).trans (bcell hb _ _ hbB)).trans q3
          have hik := HIN.out j hkz
          have HT : Hid (rel tol (ls.take (j + 1)) es = rel1 tol z (gL ls j)) := by show rel tol _ es = _; rw [take_snocL hkz, rel_snoc, HZ.out]
          clear q1 q2 q3 hc
          generalize gL ls j = l at *
          obtain ⟨⟨i1, i2⟩, ⟨i3, i4⟩, i5, i6⟩ := hik
          have hIn : Hid (In N l) := ⟨by omega, by omega⟩
          have e1 := HBD.out l.f.toNat
          have e2 := HBD.out l.t.toNat
          have hzl := HZL.out
          have r1 : ∀ o, (wr.alloc o).cell? ⟨w.heap.size, l.f.toNat, none⟩ = some (.int .i64 (gI z l.f.toNat)) := fun o => ((hz.alloc o).cellAt _ (by omega)).trans (getElem?_map_some (by omega))
          clear hzl
          have u1 : IntKind.i64.wrap (gI z l.f.toNat + l.d) = gI z l.f.toNat + l.d := IntWalk.i64_in _ (by omega)
          have u2 : IntKind.i64.wrap (gI z l.f.toNat + l.d + tol) = gI z l.f.toNat + l.d + tol := IntWalk.i64_in _ (by omega)
          go_wp2
          go_quiet (fail)
          have a0 : wr.heap.size < ((wr.alloc (.cells #[.int .i64 l.f, .int .i64 l.t, .int .i64 l.d] 28)).drewN nq).heap.size := by simp [World.drewN]
          have a1 : ((wr.alloc (.cells #[.int .i64 l.f, .int .i64 l.t, .int .i64 l.d] 28)).drewN nq).ownsRow w.heap.size 3 1 (.slice (some ⟨w.heap.size, 0, none⟩) N N) N (z.map (Value.int .i64)) := hz.alloc _
          have a2 : wo.grownBy ((wr.alloc (.cells #[.int .i64 l.f, .int .i64 l.t, .int .i64 l.d] 28)).drewN nq) (some w.heap.size) := grown_drewN (grown_alloc hG _) _
          have a3 : Box3 ((wr.alloc (.cells #[.int .i64 l.f, .int .i64 l.t, .int .i64 l.d] 28)).drewN nq) wr.heap.size l := box3_new wr l _ nq
          generalize (wr.alloc (.cells #[.int .i64 l.f, .int .i64 l.t, .int .i64 l.d] 28)).drewN nq = wd at a0 a1 a2 a3 ⊢
          clear hG hz r1 u1 u2 p1 p2 p3
          have hzl := HZL.out
          obtain ⟨b1, b2, b3⟩ := a3
          have r2 : wd.cell? ⟨w.heap.size, l.t.toNat, none⟩ = some (.int .i64 (gI z l.t.toNat)) := (a1.cellAt _ (by omega)).trans (getElem?_map_some (by omega))
          clear hzl
          go_upto_if 41 with (fail)
          go_cut [8] (fun s8 wx => s8 = .bool (decide (relA tol z l ≠ es)) ∧ wx.ownsRow w.heap.size 3 1 (.slice (some ⟨w.heap.size, 0, none⟩) N N) N ((relA tol z l).map (Value.int .i64)) ∧ wo.grownBy wx (some w.heap.size) ∧ Box3 wx wr.heap.size l)
          case first =>
            by_cases c1 : gI z l.f.toNat + l.d + tol < gI z l.t.toNat
            · have hzl := HZL.out
              have HY := Lib.hid (relA_yes (by rw [hzl]; exact hIn.out) HLE.out c1)
              have f2 := a1.frozenAt l.t.toNat
              have hst := a1.stored l.t.toNat (.int .i64 (gI z l.f.toNat + l.d + tol))
              rw [← List.map_set] at hst
              have a3' : Box3 (wd.setCell ⟨w.heap.size, l.t.toNat, none⟩ (.int .i64 (gI z l.f.toNat + l.d + tol))) wr.heap.size l := box3_set ⟨b1, b2, b3⟩ (by omega) _ _
              have HS := Lib.hid (And.intro hst.1 (And.intro (a2.trans hst.2) a3'))
              clear hst a1 a2 hzl a3'
              go_wp2
              go_meet
              case rel =>
                rw [HY.out.2, HY.out.1]
                exact ⟨rfl, HS.out.1, HS.out.2.1, HS.out.2.2⟩
            · have c1' : decide (gI z l.f.toNat + l.d + tol < gI z l.t.toNat) = false := by simpa using c1
              have c1'' : gI z l.t.toNat ≤ gI z l.f.toNat + l.d + tol := by omega
              have HN := Lib.hid (relA_no c1)
              have A3 : Box3 wd wr.heap.size l := ⟨b1, b2, b3⟩
              clear c1
              go_wp2
              go_meet
              case rel =>
                rw [HN.out]
                exact ⟨rfl, a1, a2, A3⟩
          case rest =>
            obtain ⟨rfl, B1, B2, B3⟩ := hcut
            clear a0 a1 a2 e1 e2 r2 b1 b2 b3
            have hle1 : Hid (Le (relA tol z l) es) := (relA_le tol z l).trans HLE.out
            have hbd1 : Hid (Bd (B + 400000 * j + 200000) (relA tol z l)) := bd_relA (by rw [HZL.out]; exact hIn.out) HBD.out (by omega) ht ⟨i5, i6⟩
            have hzl1 : Hid ((relA tol z l).length = N) := by show _ = _; rw [relA_len, HZL.out]
            have hb1 : Hid (rel1 tol z l = relB tol (relA tol z l) l) := rfl
            have hbdn : Hid (Bd (B + 400000 * (j + 1 : Nat)) (relB tol (relA tol z l) l)) := (bd_rel1 (by rw [HZL.out]; exact hIn.out) HBD.out (by omega) ht ⟨i5, i6⟩ : Bd _ (rel1 tol z l)).more (by omega)
            clear HBD HLE HZL
            generalize relA tol z l = z1 at *
            clear HZ
            have e1 := hbd1.out l.f.toNat
            have e2 := hbd1.out l.t.toNat
            have hzl := hzl1.out
            obtain ⟨c1, c2, c3⟩ := B3
            have r2 : wc.cell? ⟨w.heap.size, l.t.toNat, none⟩ = some (.int .i64 (gI z1 l.t.toNat)) := (B1.cellAt _ (by omega)).trans (getElem?_map_some (by omega))
            have u1 : IntKind.i64.wrap (gI z1 l.t.toNat - l.d) = gI z1 l.t.toNat - l.d := IntWalk.i64_in _ (by omega)
            have u2 : IntKind.i64.wrap (gI z1 l.t.toNat - l.d + tol) = gI z1 l.t.toNat - l.d + tol := IntWalk.i64_in _ (by omega)
            go_wp2
            go_quiet (fail)
            have D1 : (wc.drewN nq).ownsRow w.heap.size 3 1 (.slice (some ⟨w.heap.size, 0, none⟩) N N) N (z1.map (Value.int .i64)) := B1
            have D2 : wo.grownBy (wc.drewN nq) (some w.heap.size) := grown_drewN B2 _
            have D3 : Box3 (wc.drewN nq) wr.heap.size l := ⟨c1, c2, c3⟩
            generalize wc.drewN nq = wd at D1 D2 D3 ⊢
            clear B1 B2 c1 c2 c3 r2 u1 u2
            obtain ⟨c1, c2, c3⟩ := D3
            have r1 : wd.cell? ⟨w.heap.size, l.f.toNat, none⟩ = some (.int .i64 (gI z1 l.f.toNat)) := (D1.cellAt _ (by omega)).trans (getElem?_map_some (by omega))
            have f2 := D1.frozenAt l.f.toNat
            by_cases d1 : gI z1 l.t.toNat - l.d + tol < gI z1 l.f.toNat
            · have HY := Lib.hid (relB_yes (by rw [hzl]; exact hIn.out) hle1.out d1)
              have hst := D1.stored l.f.toNat (.int .i64 (gI z1 l.t.toNat - l.d + tol))
              rw [← List.map_set] at hst
              have HS := Lib.hid (And.intro hst.1 (D2.trans hst.2))
              clear hst D1 D2 hzl
              go_wp2
              go_roundw
              case rel =>
                exact ⟨j + 1, relB tol z1 l, by omega, by go_num, by rw [HY.out.2], by show _ = _; rw [HT.out, hb1.out], by show _ = _; rw [relB_len, hzl1.out], hbdn.out, (relB_le tol z1 l).trans hle1.out, by rw [HY.out.1]; exact HS.out.1, HS.out.2⟩
              case measure => simp [intOf]; omega
            · have d1' : decide (gI z1 l.t.toNat - l.d + tol < gI z1 l.f.toNat) = false := by simpa using d1
              have d1'' : gI z1 l.f.toNat ≤ gI z1 l.t.toNat - l.d + tol := by omega
              have HN := Lib.hid (relB_no d1)
              clear d1 hzl
              go_wp2
              go_roundw
              case rel =>
                exact ⟨j + 1, relB tol z1 l, by omega, by go_num, by rw [HN.out], by show _ = _; rw [HT.out, hb1.out], by show _ = _; rw [relB_len, hzl1.out], hbdn.out, (relB_le tol z1 l).trans hle1.out, by rw [HN.out]; exact D1, D2⟩
              case measure => simp [intOf]; omega
        · have hzz : z = rel tol ls es := by rw [HZ.out, show j = n by omega, List.take_of_length_le (by rw [HL.out]; exact Nat.le_refl _)]
          subst hzz
          have hbT := hb.trans (below_mark hown hb.size hG)
          clear hb
          by_cases hst : rel tol ls es = es
          · have hd : decide (rel tol ls es ≠ es) = false := by simpa using hst
            have HS := Lib.hid (HST.out hst)
            clear hst
            go_wp2
            go_ret
            exact ⟨ret_bool HS.out.symm, hbT⟩
          · have hd : decide (rel tol ls es ≠ es) = true := by simpa using hst
            have HS := Lib.hid hst
            clear hst hG
            go_wp2
            go_roundw
            case rel =>
              refine ⟨k + 1, by omega, by go_num, fun r hr => ?_, by rw [HR.out]; exact hz, hbT⟩
              by_cases e : r = k
              · rw [e, HE.out]; exact HS.out
              · exact hne.out r (by omega)
            case measure => simp [intOf]; omega
    · go_wp2
      go_ret
      refine ⟨ret_bool (nearB_no HLIN.out (r := N) (by omega) (hne.out N (by omega))).symm, hb⟩
end Go.Proofs.Ytnlnelfncejcfaa
