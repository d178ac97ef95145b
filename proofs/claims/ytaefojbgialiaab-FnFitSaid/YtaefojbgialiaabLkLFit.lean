/- The walk of the law FnFit. -/
import Derived.Test.YtaefojbgialiaabLkDraw2
import Derived.Test.YtaefojbgialiaabLkFitX
set_option linter.unusedVariables false
namespace Go.Proofs.Ytaefojbgialiaab
open Go.RowKit Lk

set_option maxRecDepth 100000 in
set_option maxHeartbeats 4000000 in
theorem fnFit_walk (A : Option Addr) (n c : Nat) (bs : List Int) (w : World) (h : BSl w w.heap.size A n c bs) :
    Calls Try.prog 9 #[.slice A n c] w fun e w' => e = .returned (.bool true) ∧ Below w.heap.size w w' := by
  by_cases hbig : 1048576 < n
  · go_enter Try.func9, Try.ntmps9
    go_wp2
    go_ret
    exact ⟨rfl, Below.refl _ _⟩
  go_enter Try.func9, Try.ntmps9
  go_wp2_with fail
  refine (DrawLinksFit_any _ _ _ _ _ h (by omega)).mono ?_
  rintro e w1 ⟨many, A1, m, c1, ls, rfl, hD, hb1⟩
  have hm9 := hD.few
  have hp := hD.pos
  have hp6 := hD.six
  have i1 := LSl.of_own hD.own hD.inL
  have HLI := Lib.hid hD.inL
  clear hD
  rcases ho : fitR (many : Int) ls with _ | es
  · have HX : Hid ((fitR (many : Int) ls).getD [] = []) := by rw [ho]; rfl
    have HB : Hid ((fitR (many : Int) ls).isSome = false) := by rw [ho]; rfl
    clear ho
    go_wp2_with fail
    refine (iLinksFit_x _ _ _ _ _ [] false _ i1 (by omega) HX.out HB.out).mono ?_
    rintro e w2 ⟨B2, m2, d2, rfl, r2, hb2⟩
    have hT2 := Below.step hb1 hb2
    have i2 := (i1.below hb2).more hb2.size
    obtain rfl : m2 = 0 := (own_len r2).symm
    clear i1
    go_wp2_with fail
    refine (sLinksFit_x _ _ _ _ _ [] false _ i2 (by omega) HX.out HB.out).mono ?_
    rintro e w3 ⟨B3, m3, d3, rfl, r3, hb3⟩
    have hT3 := Below.step hT2 hb3
    have r4 := own_below r2 hb3
    have j2 := ISl.of_own r4 (by intro z hz; cases hz)
    have j3 := ISl.of_own r3 (by intro z hz; cases hz)
    clear r2 r3 r4 i2
    go_wp2_with fail
    refine (sameInts_same _ _ _ _ _ _ _ _ j2 j3 (by omega)).mono ?_
    rintro e w4 ⟨rfl, hb4⟩
    have hT4 := Below.step hT3 hb4
    have j4 := (j2.below hb4).more hb4.size
    have j5 := (j3.below hb4).more hb4.size
    clear j2 j3
    go_wp2_with fail
    refine (sameInts_same _ _ _ _ _ _ _ _ j4 j5 (by omega)).mono ?_
    rintro e w5 ⟨rfl, hb5⟩
    have hT5 := Below.step hT4 hb5
    go_wp2
    go_ret
    exact ⟨rfl, hT5⟩
  have HO := Lib.hid ho
  have HX : Hid ((fitR (many : Int) ls).getD [] = es) := by rw [ho]; rfl
  have HB : Hid ((fitR (many : Int) ls).isSome = true) := by rw [ho]; rfl
  have HOK := Lib.hid (fitR_some ho).1
  have HFE := Lib.hid (fitR_some ho).2
  have HBD := Lib.hid (fitE_bd (fitR_some ho).1 (fitR_some ho).2)
  have HEI : Hid (∀ z ∈ es, InI z) := fun z hz => by have := (fitR_bd ho).2.2 z hz; unfold InI; omega
  clear ho
  go_wp2_with fail
  refine (iLinksFit_x _ _ _ _ _ es true _ i1 (by omega) HX.out HB.out).mono ?_
  rintro e w2 ⟨B2, m2, d2, rfl, r2, hb2⟩
  have hT2 := Below.step hb1 hb2
  have i2 := (i1.below hb2).more hb2.size
  have hm2 : m2 = many := by rw [← own_len r2, HFE.out.len]
  subst hm2
  clear i1
  go_wp2_with fail
  refine (sLinksFit_x _ _ _ _ _ es true _ i2 (by omega) HX.out HB.out).mono ?_
  rintro e w3 ⟨B3, m3, d3, rfl, r3, hb3⟩
  have hT3 := Below.step hT2 hb3
  have i3 := (i2.below hb3).more hb3.size
  have r4 := own_below r2 hb3
  have j2 := ISl.of_own r4 HEI.out
  have j3 := ISl.of_own r3 HEI.out
  clear r2 r3 i2
  go_wp2_with fail
  refine (sameInts_same _ _ _ _ _ _ _ _ j2 j3 (by omega)).mono ?_
  rintro e w4 ⟨rfl, hb4⟩
  have hT4 := Below.step hT3 hb4
  have i4 := (i3.below hb4).more hb4.size
  have j4 := (j2.below hb4).more hb4.size
  clear j2 j3 i3 r4
  obtain ⟨g1, hgA, rfl, hgB, hgC⟩ := j4.mem (by omega)
  have HF : Hid (∀ l ∈ ls, 0 ≤ l.f ∧ 0 ≤ l.t ∧ l.f < (m2 : Int) ∧ l.t < (m2 : Int)) := fun l h => by have := lsOk_mem HOK.out h; unfold lOk at this; omega
  have HD : Hid (∀ l ∈ ls, -200000 ≤ l.d ∧ l.d ≤ 200000) := fun l h => by have := lsOk_mem HOK.out h; unfold lOk at this; omega
  go_wp2_with fail
  refine (iLinksJoined_any _ _ _ _ _ _ i4 (by omega)).mono ?_
  rintro e w5 ⟨A5, m5, c5, rfl, hJ, hb5⟩
  rw [joinedR_yes HOK.out] at hJ
  have hm5 : m5 = m2 := by rw [← own_len hJ, joinL_len]
  subst hm5
  have hT5 := Below.step hT4 hb5
  have i5 := (i4.below hb5).more hb5.size
  have j5 := (j4.below hb5).more hb5.size
  have hJI := ISl.of_own hJ (fun z hz => by
    unfold joinL at hz
    obtain ⟨i, hi, rfl⟩ := List.mem_map.1 hz
    have a := List.mem_range.1 hi
    have b := (joinF_is ls).le i
    unfold InI; omega)
  have hC5 : ∀ i, i < m5 → w5.cell? ⟨g1, hgA + i, none⟩ = some (.int .i64 (gI es i)) := fun i hi => (bcell hb5 _ _ hgB).trans (hgC i hi)
  have hg5 : g1 < w5.heap.size := by have := hb5.size; omega
  have HC5 := Lib.hid hC5
  clear i4 j4 hJ hgC hC5 hgB
  go_wp2
  go_loopw [10] (fun i wr => ∃ j : Nat, j ≤ m ∧ i = .int .i64 j ∧ Below w5.heap.size w5 wr) (fun i _ => m - (intOf i).toNat)
  case atStart => exact ⟨0, Nat.zero_le _, rfl, Below.refl _ _⟩
  case round =>
    obtain ⟨j, hj, rfl, hbj⟩ := hrel
    by_cases hlj : j < m
    · obtain ⟨b, off, rfl, hbB, hkz, hc⟩ := i5.at_ hlj
      obtain ⟨q1, q2, q3⟩ := hc j hlj
      have p1 := (bcell hbj _ _ hbB).trans q1
      have p2 := (bcell hbj _ _ hbB).trans q2
      have p3 := (bcell hbj _ _ hbB).trans q3
      have HM := Lib.hid (gL_mem hkz)
      obtain ⟨f1, f2, f3, f4⟩ := HF.out _ HM.out
      obtain ⟨d1, d2⟩ := HD.out _ HM.out
      have hd := fit0 HFE.out.fit HM.out
      clear q1 q2 q3 hc HM
      generalize gL ls j = l at *
      have v1 := HBD.out l.f.toNat (by omega)
      have v2 := HBD.out l.t.toNat (by omega)
      have r1 : wr.cell? ⟨g1, hgA + l.f.toNat, none⟩ = some (.int .i64 (gI es l.f.toNat)) := (bcell hbj _ _ hg5).trans (HC5.out _ (by omega))
      have r2 : wr.cell? ⟨g1, hgA + l.t.toNat, none⟩ = some (.int .i64 (gI es l.t.toNat)) := (bcell hbj _ _ hg5).trans (HC5.out _ (by omega))
      have hljI : (j : Int) < (m : Int) := by omega
      have hd' : (gI es l.t.toNat - gI es l.f.toNat != l.d) = false := by simpa using hd
      have u1 : IntKind.i64.wrap (gI es l.t.toNat - gI es l.f.toNat) = gI es l.t.toNat - gI es l.f.toNat := IntWalk.i64_in _ (by omega)
      clear hd
      go_wp2
      go_quiet (fail)
      go_wp2
      go_roundw
      case rel => exact ⟨j + 1, by omega, by go_num, below_drewN hbj _⟩
      case measure => simp [intOf]; omega
    · obtain ⟨w6, rfl⟩ : ∃ w6 : World, w6 = wr := ⟨_, rfl⟩
      have i6 := (i5.below hbj).more hbj.size
      have j6 := (j5.below hbj).more hbj.size
      have hT6 := Below.step hT5 hbj
      obtain ⟨gj, oj, rfl, hj1, _, hj3⟩ := hJI.at_ (show 0 < m5 by omega)
      go_wp2
      go_loopw [11] (fun i wr => ∃ j : Nat, j ≤ m5 ∧ i = .int .i64 j ∧ Below w6.heap.size w6 wr) (fun i _ => m5 - (intOf i).toNat)
      case atStart => exact ⟨0, Nat.zero_le _, rfl, Below.refl _ _⟩
      case round =>
        obtain ⟨i, hi, rfl, hbk⟩ := hrel
        have hbl := hbj.trans (hbk.mono hbj.size)
        by_cases hlt : i < m5
        · have hja := hj3 i hlt
          have HJA : Hid (gI (joinL ls m5) i = (joinF ls i : Int)) := by show _ = _; simp [gI, joinL, hlt]
          rw [HJA.out] at hja
          have r1 := (bcell hbl _ _ hj1).trans hja
          have hle := (joinF_is ls).le i
          have hrt := HFE.out.root i hlt
          have r2 : wr.cell? ⟨g1, hgA + joinF ls i, none⟩ = some (.int .i64 (gI es (joinF ls i))) := (bcell hbl _ _ hg5).trans (HC5.out _ (by omega))
          rw [hrt] at r2
          generalize joinF ls i = x at *
          have hiI : (i : Int) < (m5 : Int) := by omega
          have hxI : (x : Int) < (m5 : Int) := by omega
          clear hja hrt
          go_wp2
          go_roundw
          case rel => exact ⟨i + 1, by omega, by go_num, hbk⟩
          case measure => simp [intOf]; omega
        · obtain rfl : i = m5 := by omega
          have i7 := (i6.below hbk).more hbk.size
          have j7 := (j6.below hbk).more hbk.size
          have hT6b := Below.step hT6 hbk
          have HGP : Hid (linksGap (i : Int) ls es = 0) := by
            show _ = _
            rw [linksGap_yes HOK.out (by rw [HFE.out.len]) (fun k hk => by have := HBD.out k (by rw [← HFE.out.len]; exact hk); omega)]
            exact fit_gap HFE.out.fit
          go_wp2_with fail
          refine (iLinksGap_any _ _ _ _ _ _ _ _ _ _ i7 j7 (by omega) (by omega)).mono ?_
          rintro e w7 ⟨rfl, hb7⟩
          have hT7 := Below.step hT6b hb7
          rw [HGP.out]
          go_wp2
          go_ret
          exact ⟨rfl, hT7⟩
end Go.Proofs.Ytaefojbgialiaab
