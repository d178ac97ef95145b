/- The contract of the reference's round of bounds. -/
import Derived.Test.YtnlnelfncejcfaaLkGap
import Derived.Test.YtnlnelfncejcfaaLkRelP
import Derived.Deep.DeepCutAuto
set_option linter.unusedVariables false
namespace Go.Proofs.Ytnlnelfncejcfaa
open Go.RowKit Lk

theorem grown_cells {w w' : World} {g b off : Nat} (hG : w.grownBy w' (some g)) (hb : b < g) (hg : g < w.heap.size) : w'.cell? ⟨b, off, none⟩ = w.cell? ⟨b, off, none⟩ :=
  World.cell?_of_block (hG.block b (by omega) (fun e => by injection e; omega))
/-- x is a struct in block gx -/
def Box3 (w : World) (gx : Nat) (l : Link) : Prop := w.cell? ⟨gx, 0, none⟩ = some (.int .i64 l.f) ∧ w.cell? ⟨gx, 1, none⟩ = some (.int .i64 l.t) ∧ w.cell? ⟨gx, 2, none⟩ = some (.int .i64 l.d)

theorem grown_drewN {w a : World} {row : Option Nat} (h : w.grownBy a row) (n : Nat) : w.grownBy (a.drewN n) row := ⟨h.os, h.tape, h.output, h.size, h.block⟩
theorem box3_new (w : World) (l : Link) (t : TypeId) (k : Nat) : Box3 ((w.alloc (.cells #[.int .i64 l.f, .int .i64 l.t, .int .i64 l.d] t)).drewN k) w.heap.size l :=
  ⟨(cell_of_row (w.alloc _) _ 0 _ _ _ (heap_alloc_new w _)).trans rfl, (cell_of_row (w.alloc _) _ 1 _ _ _ (heap_alloc_new w _)).trans rfl, (cell_of_row (w.alloc _) _ 2 _ _ _ (heap_alloc_new w _)).trans rfl⟩
theorem box3_set {w : World} {gx g : Nat} {l : Link} (h : Box3 w gx l) (hne : g ≠ gx) (i : Nat) (u : Value) : Box3 (w.setCell ⟨g, i, none⟩ u) gx l :=
  have k : ∀ j, (w.setCell ⟨g, i, none⟩ u).cell? ⟨gx, j, none⟩ = w.cell? ⟨gx, j, none⟩ := fun j => World.cell?_setCell_other w _ _ _ (by intro e; injection e; omega)
  ⟨(k 0).trans h.1, (k 1).trans h.2.1, (k 2).trans h.2.2⟩
set_option maxHeartbeats 4000000 in
theorem l34Relax_any (A : Option Addr) (n c : Nat) (ls : List Link) (tol : Int) (g m c' base : Nat) (es : List Int) (B : Int) (w : World)
    (h : LSl w g A n c ls) (hn : n ≤ 30) (ht : 0 ≤ tol) (ht2 : tol ≤ 200000) (hown : w.ownsRow base 3 1 (.slice (some ⟨g, 0, none⟩) m c') m (es.map (Value.int .i64)))
    (hin : ∀ i, i < ls.length → (0 ≤ (gL ls i).f ∧ (gL ls i).f < m) ∧ (0 ≤ (gL ls i).t ∧ (gL ls i).t < m) ∧ (-200000 ≤ (gL ls i).d ∧ (gL ls i).d ≤ 200000)) (hB : Bd B es) (hB0 : 0 ≤ B) (hB1 : B ≤ 1000000000) :
    Calls Try.prog 18 #[.slice A n c, .int .i64 tol, .slice (some ⟨g, 0, none⟩) m c'] w fun e w' => e = .returned (.bool (decide (rel tol ls es ≠ es))) ∧ w'.ownsRow base 3 1 (.slice (some ⟨g, 0, none⟩) m c') m ((rel tol ls es).map (Value.int .i64)) ∧ w.grownBy w' (some g) := by
  have HL := Lib.hid h.len
  have hem : es.length = m := by have := hown.1; simpa using this
  have HEM := Lib.hid hem
  clear hem
  have hgw : g < w.heap.size := (hown.lt g rfl).2
  have hfr : decide (es ≠ es) = false := by simp
  go_enter Try.func18, Try.ntmps18
  go_wp2
  go_loopw [7, 8] (fun fr i wr => ∃ (k : Nat) (z : List Int), k ≤ n ∧ i = .int .i64 k ∧ fr = .bool (decide (z ≠ es)) ∧ Hid (z = rel tol (ls.take k) es) ∧ Hid (z.length = m) ∧ Hid (Bd (B + 400000 * k) z) ∧ Hid (Le z es) ∧ wr.ownsRow base 3 1 (.slice (some ⟨g, 0, none⟩) m c') m (z.map (Value.int .i64)) ∧ w.grownBy wr (some g)) (fun _ i _ => n - (intOf i).toNat)
  case atStart => exact ⟨0, es, Nat.zero_le _, rfl, by rw [hfr], rfl, HEM.out, hB.more (by omega), Le.refl _, hown, World.grownBy.refl w _⟩
  case round =>
    obtain ⟨k, z, hk, rfl, rfl, HZ, HZL, HBD, HLE, hz, hG⟩ := hrel
    have hsz := hG.size
    clear hfr hown
    by_cases hlt : k < n
    · obtain ⟨b, off, rfl, hbB, hkz, hc⟩ := h.at_ hlt
      obtain ⟨q1, q2, q3⟩ := hc k hlt
      have p1 := (grown_cells hG hbB hgw).trans q1
      have p2 := (grown_cells hG hbB hgw).trans q2
      have p3 := (grown_cells hG hbB hgw).trans q3
      have hik := hin k hkz
      have HT : Hid (rel tol (ls.take (k + 1)) es = rel1 tol z (gL ls k)) := by show rel tol _ es = _; rw [take_snocL hkz, rel_snoc, HZ.out]
      clear q1 q2 q3 hc hin
      generalize gL ls k = l at *
      obtain ⟨⟨i1, i2⟩, ⟨i3, i4⟩, i5, i6⟩ := hik
      have hIn : Hid (In m l) := ⟨by omega, by omega⟩
      have e1 := HBD.out l.f.toNat
      have e2 := HBD.out l.t.toNat
      have hzl := HZL.out
      have r1 : ∀ o, (wr.alloc o).cell? ⟨g, l.f.toNat, none⟩ = some (.int .i64 (gI z l.f.toNat)) := fun o => ((hz.alloc o).cellAt _ (by omega)).trans (getElem?_map_some (by omega))
      have r2 : ∀ o, (wr.alloc o).cell? ⟨g, l.t.toNat, none⟩ = some (.int .i64 (gI z l.t.toNat)) := fun o => ((hz.alloc o).cellAt _ (by omega)).trans (getElem?_map_some (by omega))
      clear hzl
      have u1 : IntKind.i64.wrap (gI z l.f.toNat + l.d) = gI z l.f.toNat + l.d := IntWalk.i64_in _ (by omega)
      have u2 : IntKind.i64.wrap (gI z l.f.toNat + l.d + tol) = gI z l.f.toNat + l.d + tol := IntWalk.i64_in _ (by omega)
      go_wp2
      go_quiet (fail)
      have a0 : wr.heap.size < ((wr.alloc (.cells #[.int .i64 l.f, .int .i64 l.t, .int .i64 l.d] 28)).drewN nq).heap.size := by simp [World.drewN]
      have a1 : ((wr.alloc (.cells #[.int .i64 l.f, .int .i64 l.t, .int .i64 l.d] 28)).drewN nq).ownsRow base 3 1 (.slice (some ⟨g, 0, none⟩) m c') m (z.map (Value.int .i64)) := hz.alloc _
      have a2 : w.grownBy ((wr.alloc (.cells #[.int .i64 l.f, .int .i64 l.t, .int .i64 l.d] 28)).drewN nq) (some g) := grown_drewN (grown_alloc hG _) _
      have a3 : Box3 ((wr.alloc (.cells #[.int .i64 l.f, .int .i64 l.t, .int .i64 l.d] 28)).drewN nq) wr.heap.size l := box3_new wr l _ nq
      generalize (wr.alloc (.cells #[.int .i64 l.f, .int .i64 l.t, .int .i64 l.d] 28)).drewN nq = wd at a0 a1 a2 a3 ⊢
      clear hG hz r1 r2 u1 u2 p1 p2 p3
      go_upto_if 35 with (fail)
      go_cut [7] (fun s7 wx => s7 = .bool (decide (relA tol z l ≠ es)) ∧ wx.ownsRow base 3 1 (.slice (some ⟨g, 0, none⟩) m c') m ((relA tol z l).map (Value.int .i64)) ∧ w.grownBy wx (some g) ∧ Box3 wx wr.heap.size l)
      case first =>
        by_cases c1 : gI z l.f.toNat + l.d + tol < gI z l.t.toNat
        · have hzl := HZL.out
          have HY := Lib.hid (relA_yes (by rw [hzl]; exact hIn.out) HLE.out c1)
          have r1 : wd.cell? ⟨g, l.f.toNat, none⟩ = some (.int .i64 (gI z l.f.toNat)) := (a1.cellAt _ (by omega)).trans (getElem?_map_some (by omega))
          have r2 : wd.cell? ⟨g, l.t.toNat, none⟩ = some (.int .i64 (gI z l.t.toNat)) := (a1.cellAt _ (by omega)).trans (getElem?_map_some (by omega))
          have f2 := a1.frozenAt l.t.toNat
          have hst := a1.stored l.t.toNat (.int .i64 (gI z l.f.toNat + l.d + tol))
          rw [← List.map_set] at hst
          obtain ⟨b1, b2, b3⟩ := a3
          have a3' : Box3 (wd.setCell ⟨g, l.t.toNat, none⟩ (.int .i64 (gI z l.f.toNat + l.d + tol))) wr.heap.size l := box3_set ⟨b1, b2, b3⟩ (by omega) _ _
          have HS := Lib.hid (And.intro hst.1 (And.intro (a2.trans hst.2) a3'))
          have u1 : IntKind.i64.wrap (gI z l.f.toNat + l.d) = gI z l.f.toNat + l.d := IntWalk.i64_in _ (by omega)
          have u2 : IntKind.i64.wrap (gI z l.f.toNat + l.d + tol) = gI z l.f.toNat + l.d + tol := IntWalk.i64_in _ (by omega)
          clear hst a1 a2 hzl a3'
          go_wp2
          go_still_tail 14, (by kernel_rfl)
          change wpList _ _ _ _ _ wd.drew
          clear u1 u2
          go_wp2
          go_meet
          case rel =>
            rw [HY.out.2, HY.out.1]
            exact ⟨rfl, HS.out.1, grown_drew HS.out.2.1, HS.out.2.2⟩
        · have c1' : decide (gI z l.f.toNat + l.d + tol < gI z l.t.toNat) = false := by simpa using c1
          have c1'' : gI z l.t.toNat ≤ gI z l.f.toNat + l.d + tol := by omega
          have HN := Lib.hid (relA_no c1)
          clear c1
          go_wp2
          go_meet
          case rel =>
            rw [HN.out]
            exact ⟨rfl, a1, a2, a3⟩
      case rest =>
        obtain ⟨rfl, b1, b2, b3⟩ := hcut
        clear a0 a1 a2 a3 e1 e2
        have hle1 : Hid (Le (relA tol z l) es) := (relA_le tol z l).trans HLE.out
        have hbd1 : Hid (Bd (B + 400000 * k + 200000) (relA tol z l)) := bd_relA (by rw [HZL.out]; exact hIn.out) HBD.out (by omega) ht ⟨i5, i6⟩
        have hzl1 : Hid ((relA tol z l).length = m) := by show _ = _; rw [relA_len, HZL.out]
        have hb1 : Hid (rel1 tol z l = relB tol (relA tol z l) l) := rfl
        have hbdn : Hid (Bd (B + 400000 * (k + 1 : Nat)) (relB tol (relA tol z l) l)) := (bd_rel1 (by rw [HZL.out]; exact hIn.out) HBD.out (by omega) ht ⟨i5, i6⟩ : Bd _ (rel1 tol z l)).more (by omega)
        clear HBD HLE HZL
        generalize relA tol z l = z1 at *
        clear HZ
        have e1 := hbd1.out l.f.toNat
        have e2 := hbd1.out l.t.toNat
        have hzl := hzl1.out
        obtain ⟨c1, c2, c3⟩ := b3
        have r1 : wc.cell? ⟨g, l.f.toNat, none⟩ = some (.int .i64 (gI z1 l.f.toNat)) := (b1.cellAt _ (by omega)).trans (getElem?_map_some (by omega))
        have r2 : wc.cell? ⟨g, l.t.toNat, none⟩ = some (.int .i64 (gI z1 l.t.toNat)) := (b1.cellAt _ (by omega)).trans (getElem?_map_some (by omega))
        have f2 := b1.frozenAt l.f.toNat
        have u1 : IntKind.i64.wrap (gI z1 l.t.toNat - l.d) = gI z1 l.t.toNat - l.d := IntWalk.i64_in _ (by omega)
        have u2 : IntKind.i64.wrap (gI z1 l.t.toNat - l.d + tol) = gI z1 l.t.toNat - l.d + tol := IntWalk.i64_in _ (by omega)
        go_wp2
        go_quiet (fail)
        have B1 : (wc.drewN nq).ownsRow base 3 1 (.slice (some ⟨g, 0, none⟩) m c') m (z1.map (Value.int .i64)) := b1
        have B2 : w.grownBy (wc.drewN nq) (some g) := grown_drewN b2 _
        have B3 : Box3 (wc.drewN nq) wr.heap.size l := ⟨c1, c2, c3⟩
        generalize wc.drewN nq = wd at B1 B2 B3 ⊢
        clear b1 b2 c1 c2 c3 r1 r2 f2 u1 u2
        by_cases d1 : gI z1 l.t.toNat - l.d + tol < gI z1 l.f.toNat
        · have HY := Lib.hid (relB_yes (by rw [hzl]; exact hIn.out) hle1.out d1)
          have r1 : wd.cell? ⟨g, l.f.toNat, none⟩ = some (.int .i64 (gI z1 l.f.toNat)) := (B1.cellAt _ (by omega)).trans (getElem?_map_some (by omega))
          have r2 : wd.cell? ⟨g, l.t.toNat, none⟩ = some (.int .i64 (gI z1 l.t.toNat)) := (B1.cellAt _ (by omega)).trans (getElem?_map_some (by omega))
          have f2 := B1.frozenAt l.f.toNat
          have hst := B1.stored l.f.toNat (.int .i64 (gI z1 l.t.toNat - l.d + tol))
          rw [← List.map_set] at hst
          obtain ⟨c1, c2, c3⟩ := B3
          have HS := Lib.hid (And.intro hst.1 (B2.trans hst.2))
          have u1 : IntKind.i64.wrap (gI z1 l.t.toNat - l.d) = gI z1 l.t.toNat - l.d := IntWalk.i64_in _ (by omega)
          have u2 : IntKind.i64.wrap (gI z1 l.t.toNat - l.d + tol) = gI z1 l.t.toNat - l.d + tol := IntWalk.i64_in _ (by omega)
          clear hst B1 B2 hzl
          go_wp2
          go_still_tail 14, (by kernel_rfl)
          change wpList _ _ _ _ _ wd.drew
          clear u1 u2
          go_wp2
          go_roundw
          case rel =>
            exact ⟨k + 1, relB tol z1 l, by omega, by go_num, by rw [HY.out.2], by show _ = _; rw [HT.out, hb1.out], by show _ = _; rw [relB_len, hzl1.out], hbdn.out, (relB_le tol z1 l).trans hle1.out, by rw [HY.out.1]; exact HS.out.1, grown_drew HS.out.2⟩
          case measure => simp [intOf]; omega
        · have d1' : decide (gI z1 l.t.toNat - l.d + tol < gI z1 l.f.toNat) = false := by simpa using d1
          have d1'' : gI z1 l.f.toNat ≤ gI z1 l.t.toNat - l.d + tol := by omega
          have HN := Lib.hid (relB_no d1)
          clear d1 hzl
          go_wp2
          go_roundw
          case rel =>
            exact ⟨k + 1, relB tol z1 l, by omega, by go_num, by rw [HN.out], by show _ = _; rw [HT.out, hb1.out], by show _ = _; rw [relB_len, hzl1.out], hbdn.out, (relB_le tol z1 l).trans hle1.out, by rw [HN.out]; exact B1, B2⟩
          case measure => simp [intOf]; omega
    · go_wp2
      go_ret
      obtain rfl : k = n := by omega
      have hzz : z = rel tol ls es := by rw [HZ.out, List.take_of_length_le (by rw [HL.out]; exact Nat.le_refl _)]
      subst hzz
      exact ⟨rfl, hz, hG⟩
end Go.Proofs.Ytnlnelfncejcfaa
