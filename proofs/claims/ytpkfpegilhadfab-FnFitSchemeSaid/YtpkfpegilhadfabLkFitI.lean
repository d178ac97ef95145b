/- The contract of the program's LinksFit. -/
import Derived.Test.YtpkfpegilhadfabLkFitT
import Derived.Test.YtpkfpegilhadfabLkJoined
import Derived.Deep.LoopGhost
set_option linter.unusedVariables false
namespace Go.Proofs.Ytpkfpegilhadfab
open Go.RowKit Lk

namespace Lk
def partB (zs : List Bool) (k n : Nat) : List Bool := zs.take k ++ List.replicate (n - k) false
theorem partB_len {zs : List Bool} {k n : Nat} (h : zs.length = n) (hk : k ≤ n) : (partB zs k n).length = n := by simp [partB]; omega
theorem partB_zero (zs : List Bool) (n : Nat) : partB zs 0 n = List.replicate n false := by simp [partB]
theorem partB_all {zs : List Bool} {n : Nat} (h : zs.length = n) : partB zs n n = zs := by simp [partB, ← h]
theorem partB_set {zs : List Bool} {k n : Nat} (h : zs.length = n) (hk : k < n) : (partB zs k n).set k (gB zs k) = partB zs (k + 1) n := by
  apply gB_ext (by rw [List.length_set, partB_len h (by omega), partB_len h (by omega)])
  intro i hi
  rw [gB_set (by rw [partB_len h (by omega)]; exact hk)]
  rw [List.length_set, partB_len h (by omega)] at hi
  unfold partB gB
  by_cases e : i = k
  · rw [if_pos e, e, List.getElem?_append_left (by simp; omega), List.getElem?_take_of_lt (by omega)]
  · rw [if_neg e]
    rcases Nat.lt_or_ge i k with c | c
    · rw [List.getElem?_append_left (by simp; omega), List.getElem?_append_left (by simp; omega), List.getElem?_take_of_lt c, List.getElem?_take_of_lt (by omega)]
    · rw [List.getElem?_append_right (by simp; omega), List.getElem?_append_right (by simp; omega), List.getElem?_replicate, List.getElem?_replicate]
      simp only [List.length_take]
      rw [if_pos (by omega), if_pos (by omega)]
theorem rootsB_len (ls : List Link) (n : Nat) : (rootsB ls n).length = n := by simp [rootsB]
theorem closed_of {ls : List Link} {s : St} (h : ∀ i, i < ls.length → gB s.k (gL ls i).t.toNat = gB s.k (gL ls i).f.toNat) : Closed ls s := fun l hl => by
  obtain ⟨i, hi, rfl⟩ := mem_gL hl
  exact h i hi
/-- what a round over links has done -/
def Grew (N : Nat) (ls : List Link) (s z : St) (j : Nat) (b : Bool) : Prop :=
  (b = false ∧ z = s ∧ ∀ i, i < j → gB s.k (gL ls i).t.toNat = gB s.k (gL ls i).f.toNat) ∨ (b = true ∧ kn N s < kn N z)
theorem grew_still {N j : Nat} {ls : List Link} {s z : St} {b : Bool} (h : Grew N ls s z j b) (hc : gB z.k (gL ls j).t.toNat = gB z.k (gL ls j).f.toNat) : Grew N ls s z (j + 1) b := by
  rcases h with ⟨h1, h2, h3⟩ | h
  · refine .inl ⟨h1, h2, fun i hi => ?_⟩
    by_cases e : i = j
    · rw [e, ← h2]; exact hc
    · exact h3 i (by omega)
  · exact .inr h
theorem grew_more {N j : Nat} {ls : List Link} {s z y : St} {b : Bool} (h : Grew N ls s z j b) (hc : kn N z < kn N y) : Grew N ls s y (j + 1) true := by
  rcases h with ⟨h1, h2, h3⟩ | ⟨h1, h2⟩
  · exact .inr ⟨rfl, by rw [← h2]; exact hc⟩
  · exact .inr ⟨rfl, by omega⟩
/-- the rounds to come, at most -/
def ToCome (N : Nat) (s : St) (b : Bool) (k : Nat) : Prop := N + b.toNat ≤ k + kn N s
theorem toCome_start (k : Nat) (s : St) : ToCome k s true (k + 1) := by unfold ToCome; simp
end Lk

set_option maxRecDepth 100000 in
set_option maxHeartbeats 8000000 in
theorem iLinksFit_any (many : Int) (A : Option Addr) (n c : Nat) (ls : List Link) (w : World) (h : LSl w w.heap.size A n c ls) (hn : n ≤ 16777216) :
    Calls Try.prog 14 #[.int .i64 many, .slice A n c] w (FitEnd many ls w) := by
  have HL := Lib.hid h.len
  rcases hok : lsOk many ls with _ | _
  · have HR := Lib.hid (fitR_bad hok)
    go_enter Try.func14, Try.ntmps14
    go_wp2_with fail
    refine (linksValid_any _ _ _ _ _ _ h hn).mono ?_
    rintro e w1 ⟨rfl, hb1⟩
    rw [hok]
    go_wp2
    go_ret2
    exact ⟨none, 0, 0, by rw [HR.out]; rfl, by rw [HR.out]; exact World.ownsRow_nil _ _ _ _, hb1⟩
  have hbd := lsOk_bd hok
  obtain ⟨N, rfl⟩ := Int.eq_ofNat_of_zero_le (show 0 ≤ many by omega)
  have HOK := Lib.hid hok
  have HIN : Hid (∀ l ∈ ls, In N l) := in_of_ok hok rfl
  have HD : Hid (∀ l ∈ ls, -200000 ≤ l.d ∧ l.d ≤ 200000) := fun l h => by have := lsOk_mem hok h; unfold lOk at this; omega
  have HF : Hid (∀ l ∈ ls, 0 ≤ l.f ∧ 0 ≤ l.t ∧ l.f < (N : Int) ∧ l.t < (N : Int)) := fun l h => by have := lsOk_mem hok h; unfold lOk at this; omega
  have hN1 : 1 ≤ N := by omega
  have hN2 : N ≤ 12 := by omega
  obtain ⟨i0, hi, hz0, hz1, hz2⟩ := info_parts int_info
  obtain ⟨j0, hj, hy0, hy1, hy2⟩ := info_parts bool_info
  clear hbd hok
  go_enter Try.func14, Try.ntmps14
  go_wp2_with fail
  refine (linksValid_any _ _ _ _ _ _ h hn).mono ?_
  rintro e w1 ⟨rfl, hb1⟩
  rw [HOK.out]
  have hs1 := hb1.size
  go_upto_region 4 with (at_make; refine wpList_make_full _ rfl _ _ 30 rfl w.heap.size 3 i0 (.int .i64 0) 1 Try.underlying30 hi hz0 hz1 _ _ _ _ N rfl rfl (by omega) (by omega) (by rw [hz2]; omega) (by unfold maxLen; omega) (by omega) ?_; intro w2 hown2 hg2)
  have hs2 := hg2.size
  have hb2 : Below w.heap.size w w2 := hb1.grown hg2 hs1 (by simp)
  go_wp2_with (at_make; refine wpList_make_full _ rfl _ _ 72 rfl w.heap.size 4 j0 (.bool false) 1 Try.underlying72 hj hy0 hy1 _ _ _ _ N rfl rfl (by omega) (by omega) (by rw [hy2]; omega) (by unfold maxLen; omega) (by omega) ?_; intro w3 hown3 hg3)
  have hb3 : Below w.heap.size w w3 := hb2.grown hg3 (by omega) (by simp)
  have hlt2 : w1.heap.size < w2.heap.size := (hown2.lt _ rfl).2
  have hlt3 : w2.heap.size < w3.heap.size := (hown3.lt _ rfl).2
  have hO : StO w3 w.heap.size w.heap.size w1.heap.size w2.heap.size N (st0 N) := by
    refine ⟨by omega, ?_, ?_⟩
    · have : (madeCells (Value.int .i64 0).cells (N * 1)).toList = (st0 N).e.map (Value.int .i64) := by
        rw [Nat.mul_one]
        show (madeCells #[Value.int .i64 0] N).toList = _
        rw [toList_madeCells_one]; simp [st0]
      rw [← this]
      exact hown2.kept hg3 (.inr (by simp [Value.ownBlock]))
    · have : (madeCells (Value.bool false).cells (N * 1)).toList = (st0 N).k.map Value.bool := by
        rw [Nat.mul_one]
        show (madeCells #[Value.bool false] N).toList = _
        rw [toList_madeCells_one]; simp [st0]
      rw [← this]
      exact hown3
  have hg1 : w.heap.size ≤ w1.heap.size := hs1
  have hg2 : w.heap.size ≤ w2.heap.size := by omega
  clear hown2 hown3 hg3 hlt2 hb1 hb2 hi hz0 hz1 hz2 hj hy0 hy1 hy2
  generalize w1.heap.size = g1 at *
  generalize w2.heap.size = g2 at *
  go_wp2_with fail
  refine (iLinksJoined_any _ _ _ _ _ _ ((h.below hb3).more hb3.size) hn).mono ?_
  rintro e w4 ⟨A4, m4, c4, rfl, hJ, hb4⟩
  rw [joinedR_yes HOK.out] at hJ
  have hm4 : m4 = N := by have := hJ.1; simpa [joinL_len] using this.symm
  subst hm4
  obtain ⟨gj, rfl, hgj1, hgj2⟩ := own_at hJ (by omega)
  have hO4 := hO.below hb4
  have hb5 := hb3.trans (hb4.mono hb3.size)
  have hne : gj ≠ g2 := by omega
  have hst : StO w4 w.heap.size w.heap.size g1 g2 m4 ⟨List.replicate m4 0, partB (rootsB ls m4) 0 m4⟩ := by rw [partB_zero]; exact hO4
  clear hO hO4 hb3 hb4
  go_wp2
  go_loopw [25] (fun i wr => ∃ k : Nat, k ≤ m4 ∧ i = .int .i64 k ∧ StO wr w.heap.size w.heap.size g1 g2 m4 ⟨List.replicate m4 0, partB (rootsB ls m4) k m4⟩ ∧ wr.ownsRow w3.heap.size 3 1 (.slice (some ⟨gj, 0, none⟩) m4 c4) m4 ((joinL ls m4).map (Value.int .i64)) ∧ Below w.heap.size w wr) (fun i _ => m4 - (intOf i).toNat)
  case atStart => exact ⟨0, Nat.zero_le _, rfl, hst, hJ, hb5⟩
  case round =>
    obtain ⟨k, hk, rfl, hs, hj, hb⟩ := hrel
    clear hst hJ hb5
    by_cases hlt : k < m4
    · have HJA : Hid (gI (joinL ls m4) k = (joinF ls k : Int)) := by show _ = _; simp [gI, joinL, hlt]
      have HPS := Lib.hid (partB_set (rootsB_len ls m4) hlt)
      have HRB := Lib.hid (rootsB_at (ls := ls) hlt)
      have r1 : wr.cell? ⟨gj, k, none⟩ = some (.int .i64 (gI (joinL ls m4) k)) := (hj.cellAt _ (by omega)).trans (getElem?_map_some (by rw [joinL_len]; exact hlt))
      rw [HJA.out] at r1
      have r2 := hs.atK hlt
      have f2 := hs.frK k
      obtain ⟨a1, a2⟩ := hs.setK k (gB (rootsB ls m4) k)
      have a3 := hj.kept a2 (.inr (by simp [Value.ownBlock]; omega))
      have a4 := below_set hb a2 hg2 hb.size
      dsimp only at a1
      rw [HPS.out] at a1
      have HS := Lib.hid a1
      have HJ3 := Lib.hid a3
      have HB := Lib.hid a4
      clear a1 a2 a3 a4 hj
      have HRB' := HRB.out
      generalize gB (rootsB ls m4) k = b at *
      generalize joinF ls k = x at *
      have hxb : ((x : Int) == (k : Int)) = b := by
        rw [HRB']
        by_cases e : x = k
        · subst e; simp
        · simp [e]; omega
      have hkI : (k : Int) < (m4 : Int) := by omega
      clear HRB'
      go_wp2
      go_roundw
      case rel => exact ⟨k + 1, by omega, by go_num, HS.out, HJ3.out, HB.out⟩
      case measure => simp [intOf]; omega
    · obtain rfl : k = m4 := by omega
      rw [partB_all (rootsB_len ls k)] at hs
      clear hj
      go_wp2
      go_loopg [10] (k + 1) (fun kx g wr => ∃ (s : St) (b : Bool), g = .bool b ∧ Hid (Run k ls s) ∧ Hid (b = false → Closed ls s) ∧ StO wr w.heap.size w.heap.size g1 g2 k s ∧ Below w.heap.size w wr ∧ Hid (ToCome k s b kx))
      case atStart => exact ⟨_, true, rfl, run_start k ls, (fun h => by cases h), hs, hb, toCome_start k _⟩
      case round =>
        obtain ⟨s, b, rfl, HR, HC, hs, hb, HT⟩ := hrel
        rcases b with _ | _
        · have HE := Lib.hid (run_end HIN.out HR.out (HC.out rfl))
          have HGD := Lib.hid HR.out.good
          have i9 : ISl wr wr.heap.size (some ⟨g1, 0, none⟩) k k s.e := ISl.of_own hs.eo (fun z hz => by
            obtain ⟨i, hi, rfl⟩ := List.mem_iff_getElem.1 hz
            have := good_bd hN2 (show i < k by rw [← hs.el]; exact hi) HGD.out
            rw [gI_lt hi] at this
            unfold InI; omega)
          have HGO := Lib.hid (gapOk_of (e := s.e) HOK.out rfl (fun i hi => by have := good_bd hN2 (show i < k by rw [← hs.el]; exact hi) HGD.out; omega))
          have ow := hs.eo
          go_wp2_with fail
          refine (gapOf_any _ _ _ _ _ _ _ _ _ ((h.below hb).more hb.size) i9 hn (by omega) HGO.out).mono ?_
          rintro e w7 ⟨rfl, hb7⟩
          have hbT := Below.step hb hb7
          have ow7 := own_below ow hb7
          by_cases hz : gapF ls s.e = 0
          · have HFE : Hid (fitR (k : Int) ls = some s.e) := fitR_yes HOK.out (HE.out.1 (gap_fit (by omega)))
            rw [hz]
            go_wp2
            go_ret2
            exact ⟨_, k, k, by rw [HFE.out]; rfl, by rw [HFE.out]; exact ow7, hbT⟩
          · have HFE : Hid (fitR (k : Int) ls = none) := fitR_no fun ⟨p, hp⟩ => hz (fit_gap (HE.out.2 p hp))
            have hz' : (gapF ls s.e != 0) = true := by simpa using hz
            generalize gapF ls s.e = gp at *
            clear hz
            go_wp2
            go_ret2
            exact ⟨none, 0, 0, by rw [HFE.out]; rfl, by rw [HFE.out]; exact World.ownsRow_nil _ _ _ _, hbT⟩
        · go_wp2
          go_loopw [10, 40] (fun g i wr => ∃ (j : Nat) (z : St) (b : Bool), j ≤ n ∧ i = .int .i64 j ∧ g = .bool b ∧ Hid (Run k ls z) ∧ Hid (Grew k ls s z j b) ∧ StO wr w.heap.size w.heap.size g1 g2 k z ∧ Below w.heap.size w wr) (fun _ i _ => n - (intOf i).toNat)
          case atStart => exact ⟨0, s, false, Nat.zero_le _, rfl, rfl, HR.out, (.inl ⟨rfl, rfl, fun i hi => absurd hi (Nat.not_lt_zero _)⟩ : Grew k ls s s 0 false), hs, hb⟩
          case round =>
            obtain ⟨j, z, b, hj, rfl, rfl, HZ, HW, hz, hb2⟩ := hrel
            clear hs hb
            by_cases hlj : j < n
            · obtain ⟨bb, off, rfl, hbB, hkz, hc⟩ := h.at_ hlj
              obtain ⟨q1, q2, q3⟩ := hc j hlj
              have p1 := (bcell hb2 _ _ hbB).trans q1
              have p2 := (bcell hb2 _ _ hbB).trans q2
              have p3 := (bcell hb2 _ _ hbB).trans q3
              have HM := Lib.hid (gL_mem hkz)
              obtain ⟨f1, f2, f3, f4⟩ := HF.out _ HM.out
              obtain ⟨d1, d2⟩ := HD.out _ HM.out
              have HRN := Lib.hid (run_step HM.out (HIN.out _ HM.out) ⟨d1, d2⟩ HZ.out)
              have HK := Lib.hid (sp1_kn hz.sz (HIN.out _ HM.out))
              have HGS : Hid (gB z.k (gL ls j).t.toNat = gB z.k (gL ls j).f.toNat → Grew k ls s z (j + 1) b) := fun hc => grew_still HW.out hc
              have HGM : Hid (kn k z < kn k (sp1 z (gL ls j)) → Grew k ls s (sp1 z (gL ls j)) (j + 1) true) := fun hc => grew_more HW.out hc
              have HGZ := Lib.hid HZ.out.good
              clear q1 q2 q3 hc HM
              generalize gL ls j = l at *
              obtain ⟨F, hF⟩ := Int.eq_ofNat_of_zero_le f1
              obtain ⟨T, hT⟩ := Int.eq_ofNat_of_zero_le f2
              have HFE := Lib.hid (show l.f.toNat = F by rw [hF, Int.toNat_natCast])
              have HTE := Lib.hid (show l.t.toNat = T by rw [hT, Int.toNat_natCast])
              rw [hF] at p1 f1 f3
              rw [hT] at p2 f2 f4
              have hFN : F < k := by omega
              have hTN : T < k := by omega
              have e1 := good_bd hN2 hFN HGZ.out
              have e2 := good_bd hN2 hTN HGZ.out
              have r1 : ∀ o, (wr.alloc o).cell? ⟨g2, F, none⟩ = some (.bool (gB z.k F)) := fun o => (hz.alloc o).atK hFN
              have r2 : ∀ o, (wr.alloc o).cell? ⟨g2, T, none⟩ = some (.bool (gB z.k T)) := fun o => (hz.alloc o).atK hTN
              have hsz := hb2.size
              have hne1 : g1 ≠ wr.heap.size := by have := hz.lt1; omega
              have hne2 : g2 ≠ wr.heap.size := by have := hz.lt2; omega
              have hne3 := hz.ne
              have hljI : (j : Int) < (n : Int) := by omega
              rw [HTE.out, HFE.out] at HGS
              have HK2 : Hid (gB z.k T ≠ gB z.k F → kn k z < kn k (sp1 z l)) := by have := HK.out; rw [HTE.out, HFE.out] at this; exact this
              clear hF hT f1 f2 HK
              rcases hkf : gB z.k F with _ | _ <;> rcases hkt : gB z.k T with _ | _
              · have HX := Lib.hid (HGS.out (by rw [hkf, hkt]))
                rw [hkf] at r1
                rw [hkt] at r2
                go_wp2
                go_roundw
                case rel => exact ⟨j + 1, z, b, by omega, by go_num, rfl, HZ.out, HX.out, hz.alloc _, hb2.alloc hsz _⟩
                case measure => simp [intOf]; omega
              · have HNN : Hid (sp1 z l = ⟨z.e.set F (gI z.e T - l.d), z.k.set F true⟩) := by
                  have := sp1_tf (s := z) (l := l) (by rw [HTE.out]; exact hkt) (by rw [HFE.out]; exact hkf)
                  rw [HFE.out, HTE.out] at this; exact this
                have HX := Lib.hid (HGM.out (HK2.out (by rw [hkf, hkt]; simp)))
                rw [hkf] at r1
                rw [hkt] at r2
                have a0 := box3_new wr ⟨F, T, l.d⟩ 70 0
                have a1 := hz.alloc (.cells #[.int .i64 F, .int .i64 T, .int .i64 l.d] 70)
                have a2 := hb2.alloc hsz (.cells #[.int .i64 F, .int .i64 T, .int .i64 l.d] 70)
                have a3 : w.heap.size ≤ (wr.alloc (.cells #[.int .i64 F, .int .i64 T, .int .i64 l.d] 70)).heap.size := by simp; omega
                go_upto_region 19 with (fail)
                change Box3 (wr.alloc (.cells #[.int .i64 F, .int .i64 T, .int .i64 l.d] 70)) _ _ at a0
                generalize wr.alloc (.cells #[.int .i64 F, .int .i64 T, .int .i64 l.d] 70) = wd at a0 a1 a2 a3 ⊢
                obtain ⟨c1, c2, c3⟩ := a0
                dsimp only at c1 c2 c3
                have t1 := a1.atE hFN
                have t2 := a1.atE hTN
                have t3 := a1.frE F
                have t4 := a1.frK F
                have t5 := a1.atK hFN
                obtain ⟨s1, s2⟩ := a1.setE F (gI z.e T - l.d)
                obtain ⟨s3, s4⟩ := s1.setK F true
                have s5 := below_set (below_set a2 s2 hg1 a3) s4 hg2 (by have := s2.size; omega)
                have HS := Lib.hid s3
                have HB := Lib.hid s5
                have wq : IntKind.i64.wrap (gI z.e T - l.d) = gI z.e T - l.d := IntWalk.i64_in _ (by omega)
                clear s1 s2 s3 s4 s5 p1 p2 p3 r1 r2 a1 a2
                go_region
                all_goals go_wp2
                all_goals
                  go_roundw
                  case rel => exact ⟨j + 1, _, true, by omega, by go_num, rfl, HRN.out, HX.out, by rw [HNN.out]; exact HS.out.drew, below_drew HB.out⟩
                  case measure => simp [intOf]; omega
              · have HNN : Hid (sp1 z l = ⟨z.e.set T (gI z.e F + l.d), z.k.set T true⟩) := by
                  have := sp1_ft (s := z) (l := l) (by rw [HFE.out]; exact hkf) (by rw [HTE.out]; exact hkt)
                  rw [HFE.out, HTE.out] at this; exact this
                have HX := Lib.hid (HGM.out (HK2.out (by rw [hkf, hkt]; simp)))
                rw [hkf] at r1
                rw [hkt] at r2
                have a0 := box3_new wr ⟨F, T, l.d⟩ 70 0
                have a1 := hz.alloc (.cells #[.int .i64 F, .int .i64 T, .int .i64 l.d] 70)
                have a2 := hb2.alloc hsz (.cells #[.int .i64 F, .int .i64 T, .int .i64 l.d] 70)
                have a3 : w.heap.size ≤ (wr.alloc (.cells #[.int .i64 F, .int .i64 T, .int .i64 l.d] 70)).heap.size := by simp; omega
                go_upto_region 17 with (fail)
                change Box3 (wr.alloc (.cells #[.int .i64 F, .int .i64 T, .int .i64 l.d] 70)) _ _ at a0
                generalize wr.alloc (.cells #[.int .i64 F, .int .i64 T, .int .i64 l.d] 70) = wd at a0 a1 a2 a3 ⊢
                obtain ⟨c1, c2, c3⟩ := a0
                dsimp only at c1 c2 c3
                have t1 := a1.atE hFN
                have t2 := a1.atE hTN
                have t3 := a1.frE T
                have t4 := a1.frK T
                have t5 := a1.atK hTN
                obtain ⟨s1, s2⟩ := a1.setE T (gI z.e F + l.d)
                obtain ⟨s3, s4⟩ := s1.setK T true
                have s5 := below_set (below_set a2 s2 hg1 a3) s4 hg2 (by have := s2.size; omega)
                have HS := Lib.hid s3
                have HB := Lib.hid s5
                have wq : IntKind.i64.wrap (gI z.e F + l.d) = gI z.e F + l.d := IntWalk.i64_in _ (by omega)
                clear s1 s2 s3 s4 s5 p1 p2 p3 r1 r2 a1 a2
                go_region
                all_goals go_wp2
                all_goals
                  go_roundw
                  case rel => exact ⟨j + 1, _, true, by omega, by go_num, rfl, HRN.out, HX.out, by rw [HNN.out]; exact HS.out.drew, below_drew HB.out⟩
                  case measure => simp [intOf]; omega
              · have HX := Lib.hid (HGS.out (by rw [hkf, hkt]))
                rw [hkf] at r1
                rw [hkt] at r2
                go_wp2
                go_roundw
                case rel => exact ⟨j + 1, z, b, by omega, by go_num, rfl, HZ.out, HX.out, hz.alloc _, hb2.alloc hsz _⟩
                case measure => simp [intOf]; omega
            · have HCL : Hid (b = false → Closed ls z) := fun e => by
                rcases HW.out with ⟨h1, h2, h3⟩ | ⟨h1, _⟩
                · rw [h2]
                  exact closed_of fun i hi => h3 i (by have := HL.out; omega)
                · rw [h1] at e; cases e
              have HTC : Hid (∃ kx, kx < gk ∧ ToCome k z b kx) := by
                have h1 := HT.out
                unfold ToCome at h1
                have h2 := kn_le k s
                have h3 := kn_le k z
                refine ⟨gk - 1, by simp at h1; omega, ?_⟩
                unfold ToCome
                rcases HW.out with ⟨e1, e2, _⟩ | ⟨e1, e2⟩
                · rw [e1, e2]; simp at h1 ⊢; omega
                · rw [e1]; simp at h1 ⊢; omega
              obtain ⟨kx, hkx, hTC⟩ := HTC.out
              have HTD := Lib.hid hTC
              clear hTC
              go_wp2
              go_roundg kx
              case measure => exact hkx
              case rel => exact ⟨z, b, rfl, HZ.out, HCL.out, hz, hb2, HTD.out⟩
end Go.Proofs.Ytpkfpegilhadfab
