/- Contracts of the reference's energies. -/
import Derived.Test.YtaefojbgialiaabLkFitM
set_option linter.unusedVariables false
namespace Go.Proofs.Ytaefojbgialiaab
open Go.RowKit Lk

set_option maxHeartbeats 4000000 in
theorem l34Spread_any (A : Option Addr) (n c : Nat) (ls : List Link) (b1 b2 g1 g2 N B : Nat) (s : St) (w : World)
    (h : LSl w B A n c ls) (hn : n ≤ 30) (hB1 : B ≤ g1) (hB2 : B ≤ g2) (hBw : B ≤ w.heap.size) (hO : StO w b1 b2 g1 g2 N s) (hgood : Lk.Good N s) (hN : N ≤ 12) (hok : lsOk (N : Int) ls = true) :
    Calls Try.prog 40 #[.slice A n c, .slice (some ⟨g1, 0, none⟩) N N, .slice (some ⟨g2, 0, none⟩) N N] w fun e w' => e = .returned (.tuple #[]) ∧ StO w' b1 b2 g1 g2 N (sp ls s) ∧ Below B w w' := by
  have HL := Lib.hid h.len
  have HG := Lib.hid hgood
  have HSZ := Lib.hid hO.sz
  have HIN : Hid (∀ l ∈ ls, In N l) := in_of_ok hok rfl
  have HD : Hid (∀ l ∈ ls, -200000 ≤ l.d ∧ l.d ≤ 200000) := fun l h => by have := lsOk_mem hok h; unfold lOk at this; omega
  have HF : Hid (∀ l ∈ ls, 0 ≤ l.f ∧ 0 ≤ l.t ∧ l.f < (N : Int) ∧ l.t < (N : Int)) := fun l h => by have := lsOk_mem hok h; unfold lOk at this; omega
  have hne := hO.ne
  clear hok hgood
  go_enter Try.func40, Try.ntmps40
  go_wp2
  go_loopw [6] (fun i wr => ∃ (k : Nat) (z : St), k ≤ n ∧ i = .int .i64 k ∧ Hid (z = sp (ls.take k) s) ∧ StO wr b1 b2 g1 g2 N z ∧ Below B w wr) (fun i _ => n - (intOf i).toNat)
  case atStart => exact ⟨0, s, Nat.zero_le _, rfl, rfl, hO, Below.refl _ _⟩
  case round =>
    obtain ⟨k, z, hk, rfl, HZ, hz, hb⟩ := hrel
    clear hO
    by_cases hlt : k < n
    · obtain ⟨b, off, rfl, hbB, hkz, hc⟩ := h.at_ hlt
      obtain ⟨q1, q2, q3⟩ := hc k hlt
      have p1 := (bcell hb _ _ hbB).trans q1
      have p2 := (bcell hb _ _ hbB).trans q2
      have p3 := (bcell hb _ _ hbB).trans q3
      have HM := Lib.hid (gL_mem hkz)
      have HT : Hid (sp (ls.take (k + 1)) s = sp1 z (gL ls k)) := by show _ = _; rw [take_snocL hkz, sp_snoc, HZ.out]
      have HGZ : Hid (Lk.Good N z) := by
        rw [HZ.out]
        exact sp_good (fun l hl => HIN.out l (List.mem_of_mem_take hl)) (fun l hl => HD.out l (List.mem_of_mem_take hl)) HSZ.out HG.out
      obtain ⟨f1, f2, f3, f4⟩ := HF.out _ HM.out
      obtain ⟨d1, d2⟩ := HD.out _ HM.out
      clear q1 q2 q3 hc HZ HM
      generalize gL ls k = l at *
      obtain ⟨F, hF⟩ := Int.eq_ofNat_of_zero_le f1
      obtain ⟨T, hT⟩ := Int.eq_ofNat_of_zero_le f2
      have HFE := Lib.hid (show l.f.toNat = F by rw [hF, Int.toNat_natCast])
      have HTE := Lib.hid (show l.t.toNat = T by rw [hT, Int.toNat_natCast])
      rw [hF] at p1 f1 f3
      rw [hT] at p2 f2 f4
      have hFN : F < N := by omega
      have hTN : T < N := by omega
      have e1 := good_bd hN hFN HGZ.out
      have e2 := good_bd hN hTN HGZ.out
      have r1 : ∀ o, (wr.alloc o).cell? ⟨g2, F, none⟩ = some (.bool (gB z.k F)) := fun o => (hz.alloc o).atK hFN
      have r2 : ∀ o, (wr.alloc o).cell? ⟨g2, T, none⟩ = some (.bool (gB z.k T)) := fun o => (hz.alloc o).atK hTN
      have m1 : ∀ o, (wr.alloc o).frozen? ⟨g2, F, none⟩ = false := fun o => (hz.alloc o).frK F
      have m2 : ∀ o, (wr.alloc o).frozen? ⟨g2, T, none⟩ = false := fun o => (hz.alloc o).frK T
      have hsz : B ≤ wr.heap.size := Nat.le_trans hBw hb.size
      have hne1 : g1 ≠ wr.heap.size := by have := hz.lt1; omega
      have hne2 : g2 ≠ wr.heap.size := by have := hz.lt2; omega
      clear hF hT f1 f2
      rcases hkf : gB z.k F with _ | _ <;> rcases hkt : gB z.k T with _ | _
      · have HNN : Hid (sp1 z l = z) := sp1_no (by rw [HFE.out, HTE.out, hkf, hkt])
        rw [hkf] at r1
        rw [hkt] at r2
        go_wp2
        go_roundw
        case rel => exact ⟨k + 1, z, by omega, by go_num, by show _ = _; rw [HT.out, HNN.out], hz.alloc _, hb.alloc hsz _⟩
        case measure => simp [intOf]; omega
      · have HNN : Hid (sp1 z l = ⟨z.e.set F (gI z.e T - l.d), z.k.set F true⟩) := by
          have := sp1_tf (s := z) (l := l) (by rw [HTE.out]; exact hkt) (by rw [HFE.out]; exact hkf)
          rw [HFE.out, HTE.out] at this; exact this
        rw [hkf] at r1
        rw [hkt] at r2
        obtain ⟨a1, s2⟩ := (hz.alloc (.cells #[.int .i64 F, .int .i64 T, .int .i64 l.d] 28)).setK F true
        have a2 := below_set (hb.alloc hsz (.cells #[.int .i64 F, .int .i64 T, .int .i64 l.d] 28)) s2 hB2 (by simp; omega)
        have a0 : Box3 ((wr.alloc (.cells #[.int .i64 F, .int .i64 T, .int .i64 l.d] 28)).setCell ⟨g2, F, none⟩ (.bool true)) wr.heap.size ⟨F, T, l.d⟩ := box3_set (box3_new wr ⟨F, T, l.d⟩ 28 0) hne2 _ _
        have a3 : wr.heap.size < ((wr.alloc (.cells #[.int .i64 F, .int .i64 T, .int .i64 l.d] 28)).setCell ⟨g2, F, none⟩ (.bool true)).heap.size := by simp
        go_upto_region 9 with (fail)
        generalize (wr.alloc (.cells #[.int .i64 F, .int .i64 T, .int .i64 l.d] 28)).setCell ⟨g2, F, none⟩ (.bool true) = wd at a0 a1 a2 a3 s2 ⊢
        obtain ⟨c1, c2, c3⟩ := a0
        dsimp only at c1 c2 c3
        have hsB := hb.size
        have t1 := a1.atE hFN
        have t2 := a1.atE hTN
        have t3 := a1.frE F
        have HS := Lib.hid (a1.setE F (gI z.e T - l.d))
        have HB := Lib.hid a2
        have w1 : IntKind.i64.wrap (gI z.e T - l.d) = gI z.e T - l.d := IntWalk.i64_in _ (by omega)
        have hs' : B ≤ wd.heap.size := by omega
        clear s2 p1 p2 p3 r1 r2 m1 m2 a1 a2
        go_still_tail 12, (by kernel_rfl)
        change wpList _ _ _ _ _ wd.drew
        go_wp2
        go_roundw
        case rel => exact ⟨k + 1, _, by omega, by go_num, by show _ = _; rw [HT.out, HNN.out], HS.out.1.drew, below_drew (below_set HB.out HS.out.2 hB1 (by omega))⟩
        case measure => simp [intOf]; omega
      · have HNN : Hid (sp1 z l = ⟨z.e.set T (gI z.e F + l.d), z.k.set T true⟩) := by
          have := sp1_ft (s := z) (l := l) (by rw [HFE.out]; exact hkf) (by rw [HTE.out]; exact hkt)
          rw [HFE.out, HTE.out] at this; exact this
        rw [hkf] at r1
        rw [hkt] at r2
        obtain ⟨a1, s2⟩ := (hz.alloc (.cells #[.int .i64 F, .int .i64 T, .int .i64 l.d] 28)).setK T true
        have a2 := below_set (hb.alloc hsz (.cells #[.int .i64 F, .int .i64 T, .int .i64 l.d] 28)) s2 hB2 (by simp; omega)
        have a0 : Box3 ((wr.alloc (.cells #[.int .i64 F, .int .i64 T, .int .i64 l.d] 28)).setCell ⟨g2, T, none⟩ (.bool true)) wr.heap.size ⟨F, T, l.d⟩ := box3_set (box3_new wr ⟨F, T, l.d⟩ 28 0) hne2 _ _
        have a3 : wr.heap.size < ((wr.alloc (.cells #[.int .i64 F, .int .i64 T, .int .i64 l.d] 28)).setCell ⟨g2, T, none⟩ (.bool true)).heap.size := by simp
        go_upto_region 6 with (fail)
        generalize (wr.alloc (.cells #[.int .i64 F, .int .i64 T, .int .i64 l.d] 28)).setCell ⟨g2, T, none⟩ (.bool true) = wd at a0 a1 a2 a3 s2 ⊢
        obtain ⟨c1, c2, c3⟩ := a0
        dsimp only at c1 c2 c3
        have hsB := hb.size
        have t1 := a1.atE hFN
        have t2 := a1.atE hTN
        have t3 := a1.frE T
        have t4 := a1.atK hTN
        have t5 := a1.atK hFN
        rw [show gB (z.k.set T true) T = true by rw [gB_set (by rw [hz.kl]; exact hTN), if_pos rfl]] at t4
        rw [show gB (z.k.set T true) F = true by rw [gB_set (by rw [hz.kl]; exact hTN)]; split <;> first | rfl | exact hkf] at t5
        have HS := Lib.hid (a1.setE T (gI z.e F + l.d))
        have HB := Lib.hid a2
        have w1 : IntKind.i64.wrap (gI z.e F + l.d) = gI z.e F + l.d := IntWalk.i64_in _ (by omega)
        have hs' : B ≤ wd.heap.size := by omega
        clear s2 p1 p2 p3 r1 r2 m1 m2 a1 a2
        go_still_tail 12, (by kernel_rfl)
        change wpList _ _ _ _ _ wd.drew
        go_wp2
        go_roundw
        case rel => exact ⟨k + 1, _, by omega, by go_num, by show _ = _; rw [HT.out, HNN.out], HS.out.1.drew, below_drew (below_set HB.out HS.out.2 hB1 (by omega))⟩
        case measure => simp [intOf]; omega
      · have HNN : Hid (sp1 z l = z) := sp1_no (by rw [HFE.out, HTE.out, hkf, hkt])
        rw [hkf] at r1
        rw [hkt] at r2
        go_wp2
        go_roundw
        case rel => exact ⟨k + 1, z, by omega, by go_num, by show _ = _; rw [HT.out, HNN.out], hz.alloc _, hb.alloc hsz _⟩
        case measure => simp [intOf]; omega
    · go_wp2
      go_end0
      obtain rfl : k = n := by omega
      have hzz : z = sp ls s := by rw [HZ.out, List.take_of_length_le (by rw [HL.out]; exact Nat.le_refl _)]
      subst hzz
      exact ⟨rfl, hz, hb⟩
end Go.Proofs.Ytaefojbgialiaab
