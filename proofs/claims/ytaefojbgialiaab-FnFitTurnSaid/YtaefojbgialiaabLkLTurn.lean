/- The walk of the law FnFitTurn. -/
import Derived.Test.YtaefojbgialiaabLkDraw2
import Derived.Test.YtaefojbgialiaabLkFitX
set_option linter.unusedVariables false
namespace Go.Proofs.Ytaefojbgialiaab
open Go.RowKit Lk

theorem turn_snoc {ls : List Link} {k : Nat} (h : k < ls.length) : (ls.take k).map turn ++ [turn (gL ls k)] = (ls.take (k + 1)).map turn := by
  rw [take_snocL h, List.map_append]; rfl
theorem turn_inL {many : Int} {ls : List Link} (h : lsOk many ls = true) : ∀ l ∈ ls.map turn, InL l := fun l hl => by
  have := lsOk_mem (lsOk_turn h) hl
  have := lsOk_bd h
  unfold lOk at *
  unfold InL InI
  omega
set_option maxRecDepth 100000 in
set_option maxHeartbeats 4000000 in
theorem fnFitTurn_walk (A : Option Addr) (n c : Nat) (bs : List Int) (w : World) (h : BSl w w.heap.size A n c bs) :
    Calls Try.prog 7 #[.slice A n c] w fun e w' => e = .returned (.bool true) ∧ Below w.heap.size w w' := by
  by_cases hbig : 1048576 < n
  · go_enter Try.func7, Try.ntmps7
    go_wp2
    go_ret
    exact ⟨rfl, Below.refl _ _⟩
  go_enter Try.func7, Try.ntmps7
  go_wp2_with fail
  refine (DrawLinksFit_any _ _ _ _ _ h (by omega)).mono ?_
  rintro e w1 ⟨many, A1, m, c1, ls, rfl, hD, hb1⟩
  have hm9 := hD.few
  have hp := hD.pos
  have hp6 := hD.six
  have i1 := LSl.of_own hD.own hD.inL
  have HLI := Lib.hid hD.inL
  clear hD
  rcases ho : fitR (many : Int) ls with _ | es
  · have HX : Hid ((fitR (many : Int) ls).getD [] = []) := by rw [ho]; rfl
    have HB : Hid ((fitR (many : Int) ls).isSome = false) := by rw [ho]; rfl
    clear ho
    go_wp2_with fail
    refine (iLinksFit_x _ _ _ _ _ [] false _ i1 (by omega) HX.out HB.out).mono ?_
    rintro e w2 ⟨B2, m2, d2, rfl, r2, hb2⟩
    have hT2 := Below.step hb1 hb2
    have i2 := (i1.below hb2).more hb2.size
    obtain rfl : m2 = 0 := (own_len r2).symm
    clear i1
    go_wp2_with fail
    refine (sLinksFit_x _ _ _ _ _ [] false _ i2 (by omega) HX.out HB.out).mono ?_
    rintro e w3 ⟨B3, m3, d3, rfl, r3, hb3⟩
    have hT3 := Below.step hT2 hb3
    have r4 := own_below r2 hb3
    have j2 := ISl.of_own r4 (by intro z hz; cases hz)
    have j3 := ISl.of_own r3 (by intro z hz; cases hz)
    clear r2 r3 r4 i2
    go_wp2_with fail
    refine (sameInts_same _ _ _ _ _ _ _ _ j2 j3 (by omega)).mono ?_
    rintro e w4 ⟨rfl, hb4⟩
    have hT4 := Below.step hT3 hb4
    have j4 := (j2.below hb4).more hb4.size
    have j5 := (j3.below hb4).more hb4.size
    clear j2 j3
    go_wp2_with fail
    refine (sameInts_same _ _ _ _ _ _ _ _ j4 j5 (by omega)).mono ?_
    rintro e w5 ⟨rfl, hb5⟩
    have hT5 := Below.step hT4 hb5
    go_wp2
    go_ret
    exact ⟨rfl, hT5⟩
  have HO := Lib.hid ho
  have HX : Hid ((fitR (many : Int) ls).getD [] = es) := by rw [ho]; rfl
  have HB : Hid ((fitR (many : Int) ls).isSome = true) := by rw [ho]; rfl
  have HOK := Lib.hid (fitR_some ho).1
  have HFE := Lib.hid (fitR_some ho).2
  have HBD := Lib.hid (fitE_bd (fitR_some ho).1 (fitR_some ho).2)
  have HEI : Hid (∀ z ∈ es, InI z) := fun z hz => by have := (fitR_bd ho).2.2 z hz; unfold InI; omega
  clear ho
  go_wp2_with fail
  refine (iLinksFit_x _ _ _ _ _ es true _ i1 (by omega) HX.out HB.out).mono ?_
  rintro e w2 ⟨B2, m2, d2, rfl, r2, hb2⟩
  have hT2 := Below.step hb1 hb2
  have i2 := (i1.below hb2).more hb2.size
  have hm2 : m2 = many := by rw [← own_len r2, HFE.out.len]
  subst hm2
  clear i1
  go_wp2_with fail
  refine (sLinksFit_x _ _ _ _ _ es true _ i2 (by omega) HX.out HB.out).mono ?_
  rintro e w3 ⟨B3, m3, d3, rfl, r3, hb3⟩
  have hT3 := Below.step hT2 hb3
  have i3 := (i2.below hb3).more hb3.size
  have r4 := own_below r2 hb3
  have j2 := ISl.of_own r4 HEI.out
  have j3 := ISl.of_own r3 HEI.out
  clear r2 r3 i2
  go_wp2_with fail
  refine (sameInts_same _ _ _ _ _ _ _ _ j2 j3 (by omega)).mono ?_
  rintro e w4 ⟨rfl, hb4⟩
  have hT4 := Below.step hT3 hb4
  have i4 := (i3.below hb4).more hb4.size
  have j4 := (j2.below hb4).more hb4.size
  clear j2 j3 i3 r4
  obtain ⟨i7, hi7, hy0, hy1, hy2⟩ := info_parts link_info
  have hL0 : LOwn (w4.alloc (.cells #[] 28)) w4.heap.size 28 (.slice (some ⟨w4.heap.size, 0, none⟩) 0 0) 0 ((ls.take 0).map turn) := LOwn.lit0 w4 28
  have hba : Below w4.heap.size w4 (w4.alloc (.cells #[] 28)) := (Below.refl _ _).alloc (Nat.le_refl _) _
  have HD : Hid (∀ l ∈ ls, -200000 ≤ l.d ∧ l.d ≤ 200000) := fun l h => by have := lsOk_mem HOK.out h; unfold lOk at this; omega
  have HLEN := Lib.hid i4.len
  go_wp2
  go_loopw [9, 10] (fun s i wr => ∃ k : Nat, k ≤ m ∧ i = .int .i64 k ∧ LOwn wr w4.heap.size 28 s k ((ls.take k).map turn) ∧ Below w4.heap.size w4 wr) (fun _ i _ => m - (intOf i).toNat)
  case atStart => exact ⟨0, Nat.zero_le _, rfl, hL0, hba⟩
  case round =>
    obtain ⟨k, hk, rfl, hown, hb⟩ := hrel
    clear hL0 hba
    by_cases hlt : k < m
    · obtain ⟨b, off, rfl, hbB, hkz, hc⟩ := i4.at_ hlt
      obtain ⟨q1, q2, q3⟩ := hc k hlt
      have p1 := (bcell hb _ _ hbB).trans q1
      have p2 := (bcell hb _ _ hbB).trans q2
      have p3 := (bcell hb _ _ hbB).trans q3
      have hdb := HD.out _ (gL_mem hkz)
      have HSN := Lib.hid (turn_snoc hkz)
      clear q1 q2 q3 hc
      generalize gL ls k = l at *
      obtain ⟨F, hF⟩ : ∃ F, l.f = F := ⟨_, rfl⟩
      obtain ⟨T, hT⟩ : ∃ F, l.t = F := ⟨_, rfl⟩
      obtain ⟨D, hD⟩ : ∃ F, l.d = F := ⟨_, rfl⟩
      have HTU : Hid (turn l = ⟨T, F, 0 - D⟩) := by show _ = _; unfold turn; rw [hF, hT, hD]
      rw [hF] at p1
      rw [hT] at p2
      rw [hD] at p3 hdb
      clear hF hT hD
      obtain ⟨X, hX⟩ : ∃ X, 0 - D = X := ⟨_, rfl⟩
      have HXE := Lib.hid hX
      have u1 : IntKind.i64.wrap (0 - D) = X := by rw [IntWalk.i64_in _ (by omega)]; exact hX
      have u2 : IntKind.i64.wrap (-D) = X := by rw [IntWalk.i64_in _ (by omega)]; omega
      clear hX
      obtain ⟨A7, c7, rfl⟩ := hown.form
      obtain ⟨xs, hxo, hxx⟩ := hown.row
      have HXX := Lib.hid hxx
      have HXL := Lib.hid hxo.1
      have HLL := Lib.hid hown.len
      have hsz := hb.size
      have hne : (Value.slice A7 k c7).ownBlock ≠ some b := fun e => by have := (hxo.lt b e).1; omega
      clear hxx hown
      go_wp2
      go_region_held3 (fun w' => w'.cell? ⟨b, off + k * 3, none⟩ = some (.int .i64 F) ∧ w'.cell? ⟨b, off + k * 3 + 1, none⟩ = some (.int .i64 T) ∧ w'.cell? ⟨b, off + k * 3 + 2, none⟩ = some (.int .i64 D))
        (first
          | go_keep
          | (go_split_ands
             refine ⟨?_, ?_, ?_⟩
             · (rw [hgrow.cell_far _ (by simp; omega) (Ne.symm hne)]; assumption)
             · (rw [hgrow.cell_far _ (by simp; omega) (Ne.symm hne)]; assumption)
             · (rw [hgrow.cell_far _ (by simp; omega) (Ne.symm hne)]; assumption)))
        ((refine step_append_lies _ (by rfl) _ _ _ (by rfl) w4.heap.size 28 i7 _ 3 24 Try.underlying23 hi7 hy0 hy1 hy2 rfl (by omega) (.slice A7 k c7) k xs (by rfl) ((hxo.alloc _).drew)
              ⟨wr.heap.size, 0, none⟩ 1 1 [.int .i64 T, .int .i64 F, .int .i64 X] (by rfl) (by rfl) (cell_three_new wr _ _ _ _) (by simp [Value.oneCell'])
              (by omega) (by unfold maxLen; omega) (by omega) (by simp; omega) (wr.heap.size + 1) (by simp) ?_; intro gg cap w5 hown5 hgrow hat hlt5))
      have hb5 : Below w4.heap.size w4 w5 := (below_drew (hb.alloc hsz _)).grown (w' := w5) hgrow (by simp; omega) (fun q hq => (hxo.lt q hq).1)
      have hL5 : LOwn w5 w4.heap.size 28 (.slice (some ⟨gg, 0, none⟩) (k + 1) cap) (k + 1) ((ls.take (k + 1)).map turn) := by
        have := LOwn.snoc (l := ⟨T, F, X⟩) HXX.out HLL.out HXL.out hown5
        rw [← HXE.out, ← HTU.out, HSN.out] at this
        exact this
      clear hown5 hgrow hat hb hxo u1 u2
      go_wp2
      go_roundw
      case rel => exact ⟨k + 1, by omega, by go_num, hL5, hb5⟩
      case measure => simp [intOf]; omega
    · obtain rfl : k = m := by omega
      obtain ⟨A7, c7, rfl⟩ := hown.form
      have HTK : Hid (ls.take k = ls) := by show _ = _; rw [List.take_of_length_le (by rw [HLEN.out]; exact Nat.le_refl _)]
      rw [HTK.out] at hown
      have i5 := LSl.of_own hown (turn_inL HOK.out)
      have j5 := (j4.below hb).more hb.size
      have hT5 := Below.step hT4 hb
      have HR := Lib.hid (fitR_yes (lsOk_turn HOK.out) (fitE_turn HFE.out))
      have HXT : Hid ((fitR (m2 : Int) (ls.map turn)).getD [] = es) := by rw [HR.out]; rfl
      have HBT : Hid ((fitR (m2 : Int) (ls.map turn)).isSome = true) := by rw [HR.out]; rfl
      clear hown
      go_wp2_with fail
      refine (iLinksFit_x _ _ _ _ _ es true _ i5 (by omega) HXT.out HBT.out).mono ?_
      rintro e w6 ⟨B6, m6, d6, rfl, r6, hb6⟩
      have hT6 := Below.step hT5 hb6
      have j6 := (j5.below hb6).more hb6.size
      have jr := ISl.of_own r6 HEI.out
      obtain rfl : m2 = m6 := by rw [← own_len r6, HFE.out.len]
      clear r6
      go_wp2_with fail
      refine (sameInts_same _ _ _ _ _ _ _ _ jr j6 (by omega)).mono ?_
      rintro e w7 ⟨rfl, hb7⟩
      have hT7 := Below.step hT6 hb7
      go_wp2
      go_ret
      exact ⟨rfl, hT7⟩
end Go.Proofs.Ytaefojbgialiaab
