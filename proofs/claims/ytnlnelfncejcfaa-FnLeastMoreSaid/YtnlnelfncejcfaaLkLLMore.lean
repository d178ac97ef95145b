/- The walk of the law FnLeastMore. -/
import Derived.Test.YtnlnelfncejcfaaLkDraw3
import Derived.Test.YtnlnelfncejcfaaLkLeast
import Derived.Test.YtnlnelfncejcfaaLkAny
import Derived.Deep.RegionLaw
import Derived.Deep.RegionHeld3
set_option linter.unusedVariables false
namespace Go.Proofs.Ytnlnelfncejcfaa
open Go.RowKit Lk

theorem turned_snoc {ls : List Link} {k : Nat} (h : k < ls.length) : (ls.take k).map turn ++ [turn (gL ls k)] = (ls.take (k + 1)).map turn := by
  rw [take_snocL h, List.map_append]; rfl
theorem turned_inL {many : Int} {ls : List Link} (h : lsOk many ls = true) : ∀ l ∈ ls.map turn, InL l := fun l hl => by
  have := lsOk_mem (lsOk_turn h) hl
  have := lsOk_bd h
  unfold lOk at *
  unfold InL InI
  omega
set_option maxRecDepth 100000 in
set_option maxHeartbeats 8000000 in
theorem fnLeastMore_walk (A : Option Addr) (n c : Nat) (bs : List Int) (A' : Option Addr) (n' c' : Nat) (bs' : List Int) (w : World) (h : BSl w w.heap.size A n c bs) (h' : BSl w w.heap.size A' n' c' bs') :
    Calls Try.prog 3 #[.slice A n c, .slice A' n' c'] w fun e w' => e = .returned (.bool true) ∧ Below w.heap.size w w' := by
  by_cases hbig : 1048576 < n
  · go_enter Try.func3, Try.ntmps3
    go_wp2
    go_ret
    exact ⟨rfl, Below.refl _ _⟩
  by_cases hbig' : 1048576 < n'
  · go_enter Try.func3, Try.ntmps3
    go_wp2
    go_ret
    exact ⟨rfl, Below.refl _ _⟩
  obtain ⟨i7, hi7, hy0, hy1, hy2⟩ := info_parts link_info
  go_enter Try.func3, Try.ntmps3
  go_wp2_with fail
  refine (DrawLinksLeast_any _ _ _ _ _ h (by omega)).mono ?_
  rintro e w1 ⟨many, A1, m, c1, ls, rfl, hD, hb1⟩
  have hm9 := hD.few
  have hp := hD.pos
  have hp6 := hD.six
  have i1 := LSl.of_own hD.own hD.inL
  obtain ⟨v, hv⟩ := leastRes_ex (many : Int) ls
  have HV := Lib.hid hv
  have HLI := Lib.hid hD.inL
  clear hD hv
  go_wp2_with fail
  refine (iLinksLeast_any _ _ _ _ _ v _ i1 (by omega) HV.out).mono ?_
  rintro e w2 ⟨rfl, hb2⟩
  have hT2 := Below.step hb1 hb2
  have i2 := (i1.below hb2).more hb2.size
  clear i1 hb2
  go_wp2_with fail
  refine (sLinksLeast_any _ _ _ _ _ v _ i2 (by omega) HV.out).mono ?_
  rintro e w3 ⟨rfl, hb3⟩
  have hT3 := Below.step hT2 hb3
  have i3 := (i2.below hb3).more hb3.size
  clear i2 hb3
  have hne : (v != v) = false := by simp
  by_cases hneg : v < 0
  · go_wp2
    go_ret
    exact ⟨ret_bool (by simp), hT3⟩
  have hL : lsOk (many : Int) ls = true ∧ IsLeast ls v := by
    rcases HV.out with h | h
    · exact h
    · omega
  have HOK := Lib.hid hL.1
  have HL := Lib.hid hL.2
  have hnn : 0 ≤ v := by omega
  have hv2 := HL.out.le
  clear hneg hL
  have hL0 : LOwn (w3.alloc (.cells #[] 28)) w3.heap.size 28 (.slice (some ⟨w3.heap.size, 0, none⟩) 0 0) 0 ((ls.take 0).map turn) := LOwn.lit0 w3 28
  have hba : Below w3.heap.size w3 (w3.alloc (.cells #[] 28)) := (Below.refl _ _).alloc (Nat.le_refl _) _
  have HD : Hid (∀ l ∈ ls, -200000 ≤ l.d ∧ l.d ≤ 200000) := fun l h => by have := lsOk_mem HOK.out h; unfold lOk at this; omega
  have HLEN := Lib.hid i3.len
  have HOK2 := HOK
  go_wp2
  go_loopw [9, 10] (fun s i wr => ∃ k : Nat, k ≤ m ∧ i = .int .i64 k ∧ LOwn wr w3.heap.size 28 s k ((ls.take k).map turn) ∧ Below w3.heap.size w3 wr) (fun _ i _ => m - (intOf i).toNat)
  case atStart => exact ⟨0, Nat.zero_le _, rfl, hL0, hba⟩
  case round =>
    obtain ⟨k, hk, rfl, hown, hb⟩ := hrel
    clear hL0 hba
    by_cases hlt : k < m
    · obtain ⟨b, off, rfl, hbB, hkz, hc⟩ := i3.at_ hlt
      obtain ⟨q1, q2, q3⟩ := hc k hlt
      have p1 := (bcell hb _ _ hbB).trans q1
      have p2 := (bcell hb _ _ hbB).trans q2
      have p3 := (bcell hb _ _ hbB).trans q3
      have hdb := HD.out _ (gL_mem hkz)
      have HSN := Lib.hid (turned_snoc hkz)
      clear q1 q2 q3 hc
      generalize gL ls k = l at *
      obtain ⟨F, hF⟩ : ∃ F, l.f = F := ⟨_, rfl⟩
      obtain ⟨T, hT⟩ : ∃ F, l.t = F := ⟨_, rfl⟩
      obtain ⟨D, hD⟩ : ∃ F, l.d = F := ⟨_, rfl⟩
      have HTU : Hid (turn l = ⟨T, F, 0 - D⟩) := by show _ = _; unfold turn; rw [hF, hT, hD]
      rw [hF] at p1
      rw [hT] at p2
      rw [hD] at p3 hdb
      clear hF hT hD
      obtain ⟨X, hX⟩ : ∃ X, 0 - D = X := ⟨_, rfl⟩
      have HXE := Lib.hid hX
      have u1 : IntKind.i64.wrap (0 - D) = X := by rw [IntWalk.i64_in _ (by omega)]; exact hX
      have u2 : IntKind.i64.wrap (-D) = X := by rw [IntWalk.i64_in _ (by omega)]; omega
      clear hX
      obtain ⟨A7, c7, rfl⟩ := hown.form
      obtain ⟨xs, hxo, hxx⟩ := hown.row
      have HXX := Lib.hid hxx
      have HXL := Lib.hid hxo.1
      have HLL := Lib.hid hown.len
      have hsz := hb.size
      have hne : (Value.slice A7 k c7).ownBlock ≠ some b := fun e => by have := (hxo.lt b e).1; omega
      clear hxx hown
      go_wp2
      go_region_held3 (fun w' => w'.cell? ⟨b, off + k * 3, none⟩ = some (.int .i64 F) ∧ w'.cell? ⟨b, off + k * 3 + 1, none⟩ = some (.int .i64 T) ∧ w'.cell? ⟨b, off + k * 3 + 2, none⟩ = some (.int .i64 D))
        (first
          | go_keep
          | (go_split_ands
             refine ⟨?_, ?_, ?_⟩
             · (rw [hgrow.cell_far _ (by simp; omega) (Ne.symm hne)]; assumption)
             · (rw [hgrow.cell_far _ (by simp; omega) (Ne.symm hne)]; assumption)
             · (rw [hgrow.cell_far _ (by simp; omega) (Ne.symm hne)]; assumption)))
        ((refine step_append_lies _ (by rfl) _ _ _ (by rfl) w3.heap.size 28 i7 _ 3 24 Try.underlying23 hi7 hy0 hy1 hy2 rfl (by omega) (.slice A7 k c7) k xs (by rfl) ((hxo.alloc _).drew)
              ⟨wr.heap.size, 0, none⟩ 1 1 [.int .i64 T, .int .i64 F, .int .i64 X] (by rfl) (by rfl) (cell_three_new wr _ _ _ _) (by simp [Value.oneCell'])
              (by omega) (by unfold maxLen; omega) (by omega) (by simp; omega) (wr.heap.size + 1) (by simp) ?_; intro gg cap w5 hown5 hgrow hat hlt5))
      have hb5 : Below w3.heap.size w3 w5 := (below_drew (hb.alloc hsz _)).grown (w' := w5) hgrow (by simp; omega) (fun q hq => (hxo.lt q hq).1)
      have hL5 : LOwn w5 w3.heap.size 28 (.slice (some ⟨gg, 0, none⟩) (k + 1) cap) (k + 1) ((ls.take (k + 1)).map turn) := by
        have := LOwn.snoc (l := ⟨T, F, X⟩) HXX.out HLL.out HXL.out hown5
        rw [← HXE.out, ← HTU.out, HSN.out] at this
        exact this
      clear hown5 hgrow hat hb hxo u1 u2
      go_wp2
      go_roundw
      case rel => exact ⟨k + 1, by omega, by go_num, hL5, hb5⟩
      case measure => simp [intOf]; omega
    · obtain rfl : k = m := by omega
      obtain ⟨A7, c7, rfl⟩ := hown.form
      have HTK : Hid (ls.take k = ls) := by show _ = _; rw [List.take_of_length_le (by rw [HLEN.out]; exact Nat.le_refl _)]
      rw [HTK.out] at hown
      have i5 := LSl.of_own hown (turned_inL HOK.out)
      have j5 := (i3.below hb).more hb.size
      have hT5 := Below.step hT3 hb
      have HLT : Hid (LeastRes (many : Int) (ls.map turn) v) := .inl ⟨lsOk_turn HOK.out, least_same HL.out (fun t => near_turn ls t)⟩
      have hvv : (v == v) = true := by simp
      clear hown i3 hb
      go_wp2_with fail
      refine (iLinksLeast_any _ _ _ _ _ v _ i5 (by omega) HLT.out).mono ?_
      rintro e w6 ⟨rfl, hb6⟩
      have hT6 := Below.step hT5 hb6
      have j6 := (j5.below hb6).more hb6.size
      clear i5 j5 hb6
      by_cases hm0 : k = 0
      · subst hm0
        have hn0 : ls = [] := List.eq_nil_of_length_eq_zero HLEN.out
        have hv0 : v = 0 := by
          have := least_le HL.out (Int.le_refl 0) (by rw [hn0]; exact ⟨fun _ => 0, fun l hl => by cases hl⟩)
          omega
        subst hv0
        go_wp2
        go_ret
        exact ⟨rfl, hT6⟩
      obtain ⟨K, hKe⟩ : ∃ K, n' % k = K := ⟨_, rfl⟩
      have hK : K < k := by have := Nat.mod_lt n' (show 0 < k by omega); omega
      have t2 : (n' : Int) % (k : Int) = (K : Int) := by rw [← hKe]; simp
      have t1 : (n' : Int).tmod (k : Int) = (K : Int) := by rw [Int.tmod_eq_emod_of_nonneg (by omega)]; exact t2
      have tz : ((k : Int) == 0) = false := by simp; omega
      have tn : ¬ ((k : Int) = 0) := by omega
      have hmc := j6.cap
      have hKc : K ≤ c1 := by omega
      have hKm : K + 1 ≤ k := by omega
      have HRI : Hid (∀ l ∈ ls.take K ++ ls.drop (K + 1), InL l) := fun l hl => HLI.out l (drop_one_mem ls K l hl)
      have HRK : Hid (lsOk (many : Int) (ls.take K ++ ls.drop (K + 1)) = true) := lsOk_sub HOK.out (by simp [HLEN.out]; omega) (fun l hl => drop_one_mem ls K l hl)
      obtain ⟨u, hu⟩ := least_ex HRK.out
      have HU : Hid (LeastRes (many : Int) (ls.take K ++ ls.drop (K + 1)) u) := .inl ⟨HRK.out, hu⟩
      have huv : u ≤ v := least_le hu hnn (near_less HL.out.near (fun l hl => drop_one_mem ls K l hl))
      have hbA : Below w6.heap.size w6 (w6.alloc (.cells #[] 28)) := (Below.refl _ _).alloc (Nat.le_refl _) _
      have HT1 := Lib.hid (j6.tail (k := K + 1) hK)
      have HT2 := Lib.hid (j6.cut (k := K) (by omega))
      have HLT3 := Lib.hid (own_lit3 w6 28)
      have u1 : IntKind.i64.wrap ((K : Int) + 1) = (K : Int) + 1 := IntWalk.i64_in _ (by omega)
      have u2 : ((K : Int) + 1).toNat = K + 1 := by omega
      have u3 : (0 : Int) ≤ (K : Int) + 1 := by omega
      have u4 : (K : Int) + 1 ≤ (k : Int) := by omega
      clear hKe j6 hm0 hu
      go_wp2
      refine wp_region_any (by kernel_rfl) ?_
      change wpAny _ _ _ _ _ _ _ (World.drew _)
      refine wpAny_take (i := 0) (v := ?_) rfl (by kernel_rfl) (by kernel_rfl) (by kernel_rfl) (fun _ _ _ h => h) (Or.inl ⟨by rfl, ?_⟩) ?_
      rotate_left
      · (intro w9; go_simp; try with_reducible rfl)
      simp only [List.getElem_toArray, List.getElem_cons_zero]
      simp only [Act.put, List.setIfInBounds_toArray, List.set_cons_succ, List.set_cons_zero]
      refine wpAny_take (i := 1) (v := ?_) rfl (by kernel_rfl) (by kernel_rfl) (by kernel_rfl) (fun _ _ _ h => h) (Or.inl ⟨by rfl, ?_⟩) ?_
      rotate_left
      · (intro w9; go_simp; try with_reducible rfl)
      simp only [List.getElem_toArray, List.getElem_cons_zero, List.getElem_cons_succ]
      simp only [Act.put, List.setIfInBounds_toArray, List.set_cons_succ, List.set_cons_zero]
      refine wpAny_take (i := 2) (v := ?_) rfl (by kernel_rfl) (by kernel_rfl) (by kernel_rfl) (fun _ _ _ h => h) (Or.inl ⟨by rfl, ?_⟩) ?_
      rotate_left
      · (intro w9; go_simp; try with_reducible rfl)
      simp only [List.getElem_toArray, List.getElem_cons_zero, List.getElem_cons_succ]
      simp only [Act.put, List.setIfInBounds_toArray, List.set_cons_succ, List.set_cons_zero]
      refine wpAny_take (i := 4) (v := ?_) rfl (by kernel_rfl) (by kernel_rfl) (by kernel_rfl) (fun _ _ _ h => h) (Or.inl ⟨by rfl, ?_⟩) ?_
      rotate_left
      · (intro w9; go_simp; try with_reducible rfl)
      simp only [List.getElem_toArray, List.getElem_cons_zero, List.getElem_cons_succ]
      simp only [Act.put, List.setIfInBounds_toArray, List.set_cons_succ, List.set_cons_zero]
      refine wpAny_take (i := 5) (v := ?_) rfl (by kernel_rfl) (by kernel_rfl) (by kernel_rfl) (fun _ _ _ h => h) (Or.inl ⟨by rfl, ?_⟩) ?_
      rotate_left
      · (intro w9; go_simp; try with_reducible rfl)
      simp only [List.getElem_toArray, List.getElem_cons_zero, List.getElem_cons_succ]
      simp only [Act.put, List.setIfInBounds_toArray, List.set_cons_succ, List.set_cons_zero]
      refine wpAny_take (i := 6) (v := ?_) rfl (by kernel_rfl) (by kernel_rfl) (by kernel_rfl) (fun _ _ _ h => h) (Or.inl ⟨by rfl, ?_⟩) ?_
      rotate_left
      · (intro w9; go_simp; try with_reducible rfl)
      simp only [List.getElem_toArray, List.getElem_cons_zero, List.getElem_cons_succ]
      simp only [Act.put, List.setIfInBounds_toArray, List.set_cons_succ, List.set_cons_zero]
      refine wpAny_take (i := 8) (v := ?_) rfl (by kernel_rfl) (by kernel_rfl) (by kernel_rfl) (fun _ _ _ h => h) (Or.inl ⟨by rfl, ?_⟩) ?_
      rotate_left
      · (intro w9; go_simp; try with_reducible rfl)
      simp only [List.getElem_toArray, List.getElem_cons_zero, List.getElem_cons_succ]
      simp only [Act.put, List.setIfInBounds_toArray, List.set_cons_succ, List.set_cons_zero]
      refine wpAny_take (i := 9) (v := ?_) rfl (by kernel_rfl) (by kernel_rfl) (by kernel_rfl) (fun _ _ _ h => h) (Or.inl ⟨by rfl, ?_⟩) ?_
      rotate_left
      · (intro w9; go_simp; try with_reducible rfl)
      simp only [List.getElem_toArray, List.getElem_cons_zero, List.getElem_cons_succ]
      simp only [Act.put, List.setIfInBounds_toArray, List.set_cons_succ, List.set_cons_zero]
      refine wpAny_take (i := 14) (v := ?_) rfl (by kernel_rfl) (by kernel_rfl) (by kernel_rfl) (fun _ _ _ h => h) (Or.inl ⟨by rfl, ?_⟩) ?_
      rotate_left
      · (intro w9; go_simp; try with_reducible rfl)
      simp only [List.getElem_toArray, List.getElem_cons_zero, List.getElem_cons_succ]
      simp only [Act.put, List.setIfInBounds_toArray, List.set_cons_succ, List.set_cons_zero]
      refine wpAny_take (i := 10) (v := ?_) rfl (by kernel_rfl) (by kernel_rfl) (by kernel_rfl) (fun _ _ _ h => h) (Or.inl ⟨by rfl, ?_⟩) ?_
      rotate_left
      · (intro w9; go_simp; try with_reducible rfl)
      simp only [List.getElem_toArray, List.getElem_cons_zero, List.getElem_cons_succ]
      simp only [Act.put, List.setIfInBounds_toArray, List.set_cons_succ, List.set_cons_zero]
      refine wpAny_take (i := 11) (v := ?_) rfl (by kernel_rfl) (by kernel_rfl) (by kernel_rfl) (fun _ _ _ h => h) (Or.inl ⟨by rfl, ?_⟩) ?_
      rotate_left
      · (intro w9; go_simp; try with_reducible rfl)
      simp only [List.getElem_toArray, List.getElem_cons_zero, List.getElem_cons_succ]
      simp only [Act.put, List.setIfInBounds_toArray, List.set_cons_succ, List.set_cons_zero]
      refine wpAny_ready (rs := [3]) (by kernel_rfl) (by simp) ?_
      refine AllReady.cons rfl (fun KK hK => ?_) AllReady.nil
      go_simp
      refine hK _ _ ?_
      clear hK KK
      try simp only [List.getElem_toArray, List.getElem_cons_zero, List.getElem_cons_succ]
      try simp only [Act.put, List.setIfInBounds_toArray, List.set_cons_succ, List.set_cons_zero]
      refine wpAny_ready (rs := [7]) (by kernel_rfl) (by simp) ?_
      refine AllReady.cons rfl (fun KK hK => ?_) AllReady.nil
      refine step_links (by rfl) _ _ _ _ (by rfl) w6.heap.size 28 i7 _ Try.underlying23 hi7 hy0 hy1 hy2 rfl (.slice (some ⟨w6.heap.size, 0, none⟩) 0 0) 0 [] (by rfl) HLT3.out w6.heap.size A1 K c1 (ls.take K) (by rfl) ?_ K (ls.take K) (by omega) (by rfl) (by omega) hbA.size ?_
      · first | exact HT2.out.below hbA | exact (HT2.out.below hbA).drewN 1
      intro va wa hva hga
      have hba := (below_drew hbA).grown (w' := wa) hga (by simp) (by intro g e; simp [Value.ownBlock] at e; omega)
      refine hK _ _ ?_
      clear hK KK
      simp only [List.getElem_toArray, List.getElem_cons_zero, List.getElem_cons_succ]
      simp only [Act.put, List.setIfInBounds_toArray, List.set_cons_succ, List.set_cons_zero]
      refine wpAny_ready (rs := [12]) (by kernel_rfl) (by simp) ?_
      refine AllReady.cons rfl (fun KK hK => ?_) AllReady.nil
      refine step_links (by rfl) _ _ _ _ (by rfl) w6.heap.size 28 i7 _ Try.underlying23 hi7 hy0 hy1 hy2 rfl va K (ls.take K) (by rfl) hva w6.heap.size _ (k - (K + 1)) _ (ls.drop (K + 1)) (by rfl) (HT1.out.below hba) (k - 1) (ls.take K ++ ls.drop (K + 1)) (by omega) rfl (by omega) hba.size ?_
      intro vb wb hvb hgb
      obtain ⟨Ab, cb, rfl⟩ := own_form hvb
      refine hK _ _ ?_
      clear hK KK
      simp only [List.getElem_toArray, List.getElem_cons_zero, List.getElem_cons_succ]
      simp only [Act.put, List.setIfInBounds_toArray, List.set_cons_succ, List.set_cons_zero]
      refine wpAny_ready (rs := [13]) (by kernel_rfl) (by simp) ?_
      refine AllReady.cons rfl (fun KK hK => ?_) AllReady.nil
      go_simp
      go_at_call 5
      refine (iLinksLeast_any _ _ _ _ _ u _ (LSl.of_own (LOwn.of_cells hvb) HRI.out) (by omega) HU.out).mono ?_
      rintro e w8 ⟨rfl, hb8⟩
      refine hK _ _ ?_
      clear hK KK
      have hbb : Below w6.heap.size w6 wb := hba.grown (w' := wb) hgb hba.size (fun g e => (hva.lt g e).1)
      have HT8 := Lib.hid (Below.step (Below.step hT6 hbb) hb8)
      clear hva hvb hga hgb hb8 hbb
      refine wpAny_take (i := 15) (v := ?_) rfl (by kernel_rfl) (by kernel_rfl) (by kernel_rfl) (fun _ _ _ h => h) (Or.inl ⟨by rfl, ?_⟩) ?_
      rotate_left
      · (intro w9; go_simp; try with_reducible rfl)
      simp only [List.getElem_toArray, List.getElem_cons_zero, List.getElem_cons_succ]
      simp only [Act.put, List.setIfInBounds_toArray, List.set_cons_succ, List.set_cons_zero]
      refine wpAny_take (i := 16) (v := ?_) rfl (by kernel_rfl) (by kernel_rfl) (by kernel_rfl) (fun _ _ _ h => h) (Or.inl ⟨by rfl, ?_⟩) ?_
      rotate_left
      · (intro w9; go_simp; try with_reducible rfl)
      simp only [List.getElem_toArray, List.getElem_cons_zero, List.getElem_cons_succ]
      simp only [Act.put, List.setIfInBounds_toArray, List.set_cons_succ, List.set_cons_zero]
      refine wpAny_take (i := 17) (v := ?_) rfl (by kernel_rfl) (by kernel_rfl) (by kernel_rfl) (fun _ _ _ h => h) (Or.inl ⟨by rfl, ?_⟩) ?_
      rotate_left
      · (intro w9; go_simp; try with_reducible rfl)
      simp only [List.getElem_toArray, List.getElem_cons_zero, List.getElem_cons_succ]
      simp only [Act.put, List.setIfInBounds_toArray, List.set_cons_succ, List.set_cons_zero]
      refine wpAny_done (by kernel_rfl) ?_ _
      go_wp2
      all_goals
        go_ret
        exact ⟨rfl, HT8.out⟩
end Go.Proofs.Ytnlnelfncejcfaa
