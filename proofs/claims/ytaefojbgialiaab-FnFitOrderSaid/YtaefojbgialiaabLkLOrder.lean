/- The walk of the law FnFitOrder. -/
import Derived.Test.YtaefojbgialiaabLkDraw2
import Derived.Test.YtaefojbgialiaabLkFitX
import Derived.Test.YtaefojbgialiaabLkAny
import Derived.Deep.RegionLaw
set_option linter.unusedVariables false
namespace Go.Proofs.Ytaefojbgialiaab
open Go.RowKit Lk

set_option maxRecDepth 100000 in
set_option maxHeartbeats 4000000 in
theorem fnFitOrder_walk (A : Option Addr) (n c : Nat) (bs : List Int) (A' : Option Addr) (n' c' : Nat) (bs' : List Int) (w : World) (h : BSl w w.heap.size A n c bs) (h' : BSl w w.heap.size A' n' c' bs') :
    Calls Try.prog 6 #[.slice A n c, .slice A' n' c'] w fun e w' => e = .returned (.bool true) ∧ Below w.heap.size w w' := by
  by_cases hbig : 1048576 < n
  · go_enter Try.func6, Try.ntmps6
    go_wp2
    go_ret
    exact ⟨rfl, Below.refl _ _⟩
  by_cases hbig' : 1048576 < n'
  · go_enter Try.func6, Try.ntmps6
    go_wp2
    go_ret
    exact ⟨rfl, Below.refl _ _⟩
  go_enter Try.func6, Try.ntmps6
  go_wp2_with fail
  refine (DrawLinksFit_any _ _ _ _ _ h (by omega)).mono ?_
  rintro e w1 ⟨many, A1, m, c1, ls, rfl, hD, hb1⟩
  have hm9 := hD.few
  have hp := hD.pos
  have hp6 := hD.six
  have i1 := LSl.of_own hD.own hD.inL
  have HLI := Lib.hid hD.inL
  clear hD
  rcases ho : fitR (many : Int) ls with _ | es
  · have HX : Hid ((fitR (many : Int) ls).getD [] = []) := by rw [ho]; rfl
    have HB : Hid ((fitR (many : Int) ls).isSome = false) := by rw [ho]; rfl
    clear ho
    go_wp2_with fail
    refine (iLinksFit_x _ _ _ _ _ [] false _ i1 (by omega) HX.out HB.out).mono ?_
    rintro e w2 ⟨B2, m2, d2, rfl, r2, hb2⟩
    have hT2 := Below.step hb1 hb2
    have i2 := (i1.below hb2).more hb2.size
    obtain rfl : m2 = 0 := (own_len r2).symm
    clear i1
    go_wp2_with fail
    refine (sLinksFit_x _ _ _ _ _ [] false _ i2 (by omega) HX.out HB.out).mono ?_
    rintro e w3 ⟨B3, m3, d3, rfl, r3, hb3⟩
    have hT3 := Below.step hT2 hb3
    have r4 := own_below r2 hb3
    have j2 := ISl.of_own r4 (by intro z hz; cases hz)
    have j3 := ISl.of_own r3 (by intro z hz; cases hz)
    clear r2 r3 r4 i2
    go_wp2_with fail
    refine (sameInts_same _ _ _ _ _ _ _ _ j2 j3 (by omega)).mono ?_
    rintro e w4 ⟨rfl, hb4⟩
    have hT4 := Below.step hT3 hb4
    have j4 := (j2.below hb4).more hb4.size
    have j5 := (j3.below hb4).more hb4.size
    clear j2 j3
    go_wp2_with fail
    refine (sameInts_same _ _ _ _ _ _ _ _ j4 j5 (by omega)).mono ?_
    rintro e w5 ⟨rfl, hb5⟩
    have hT5 := Below.step hT4 hb5
    go_wp2
    go_ret
    exact ⟨rfl, hT5⟩
  have HO := Lib.hid ho
  have HX : Hid ((fitR (many : Int) ls).getD [] = es) := by rw [ho]; rfl
  have HB : Hid ((fitR (many : Int) ls).isSome = true) := by rw [ho]; rfl
  have HOK := Lib.hid (fitR_some ho).1
  have HFE := Lib.hid (fitR_some ho).2
  have HBD := Lib.hid (fitE_bd (fitR_some ho).1 (fitR_some ho).2)
  have HEI : Hid (∀ z ∈ es, InI z) := fun z hz => by have := (fitR_bd ho).2.2 z hz; unfold InI; omega
  clear ho
  go_wp2_with fail
  refine (iLinksFit_x _ _ _ _ _ es true _ i1 (by omega) HX.out HB.out).mono ?_
  rintro e w2 ⟨B2, m2, d2, rfl, r2, hb2⟩
  have hT2 := Below.step hb1 hb2
  have i2 := (i1.below hb2).more hb2.size
  have hm2 : m2 = many := by rw [← own_len r2, HFE.out.len]
  subst hm2
  clear i1
  go_wp2_with fail
  refine (sLinksFit_x _ _ _ _ _ es true _ i2 (by omega) HX.out HB.out).mono ?_
  rintro e w3 ⟨B3, m3, d3, rfl, r3, hb3⟩
  have hT3 := Below.step hT2 hb3
  have i3 := (i2.below hb3).more hb3.size
  have r4 := own_below r2 hb3
  have j2 := ISl.of_own r4 HEI.out
  have j3 := ISl.of_own r3 HEI.out
  clear r2 r3 i2
  go_wp2_with fail
  refine (sameInts_same _ _ _ _ _ _ _ _ j2 j3 (by omega)).mono ?_
  rintro e w4 ⟨rfl, hb4⟩
  have hT4 := Below.step hT3 hb4
  have i4 := (i3.below hb4).more hb4.size
  have j4 := (j2.below hb4).more hb4.size
  clear j2 j3 i3 r4
  obtain ⟨i7, hi7, hy0, hy1, hy2⟩ := info_parts link_info
  obtain ⟨K, hKe⟩ : ∃ K, n' % (m + 1) = K := ⟨_, rfl⟩
  have hK : K ≤ m := by have := Nat.mod_lt n' (show 0 < m + 1 by omega); omega
  have t2 : (n' : Int) % ((m : Int) + 1) = (K : Int) := by rw [← hKe]; simp
  have t1 : (n' : Int).tmod ((m : Int) + 1) = (K : Int) := by rw [Int.tmod_eq_emod_of_nonneg (by omega)]; exact t2
  have tz : ((m : Int) + 1 == 0) = false := by simp; omega
  have tn : ¬ ((m : Int) + 1 = 0) := by omega
  have hmc := i4.cap
  have hKc : K ≤ c1 := by omega
  have HLEN := Lib.hid i4.len
  have HRI : Hid (∀ l ∈ ls.drop K ++ ls.take K, InL l) := fun l hl => HLI.out l ((rot_mem ls K l).1 hl)
  have HRK : Hid (lsOk (m2 : Int) (ls.drop K ++ ls.take K) = true) := lsOk_sub HOK.out (by simp [HLEN.out]; omega) (fun l hl => (rot_mem ls K l).1 hl)
  have HRF := Lib.hid (fitR_yes HRK.out (fitE_mix HFE.out (rot_mem ls K)))
  have HXT : Hid ((fitR (m2 : Int) (ls.drop K ++ ls.take K)).getD [] = es) := by rw [HRF.out]; rfl
  have HBT : Hid ((fitR (m2 : Int) (ls.drop K ++ ls.take K)).isSome = true) := by rw [HRF.out]; rfl
  have hbA : Below w4.heap.size w4 (w4.alloc (.cells #[] 28)) := (Below.refl _ _).alloc (Nat.le_refl _) _
  have HT1 := Lib.hid (i4.tail hK)
  have HT2 := Lib.hid (i4.cut hK)
  have HLT := Lib.hid (own_lit3 w4 28)
  clear hKe i4
  go_wp2
  go_region_law (first
    | ((refine step_links (by rfl) _ _ _ _ (by rfl) w4.heap.size 28 i7 _ Try.underlying23 hi7 hy0 hy1 hy2 rfl va (m - K) (ls.drop K) (by rfl) hva w4.heap.size A1 K c1 (ls.take K) (by rfl) (HT2.out.below hba) m (ls.drop K ++ ls.take K) (by omega) rfl (by omega) hba.size ?_); intro vb wb hvb hgb; obtain ⟨Ab, cb, rfl⟩ := own_form hvb)
    | ((refine step_links (by rfl) _ _ _ _ (by rfl) w4.heap.size 28 i7 _ Try.underlying23 hi7 hy0 hy1 hy2 rfl (.slice (some ⟨w4.heap.size, 0, none⟩) 0 0) 0 [] (by rfl) HLT.out w4.heap.size _ (m - K) _ (ls.drop K) (by rfl) ?_ (m - K) (ls.drop K) (by omega) (by rfl) (by omega) hbA.size ?_); (first | exact HT1.out.below hbA | exact (HT1.out.below hbA).drewN 1); intro va wa hva hga; have hba := (below_drew hbA).grown (w' := wa) hga (by simp) (by intro g e; simp [Value.ownBlock] at e; omega))
    | (go_simp; go_at_call 17; ((with_reducible refine (iLinksFit_x _ _ _ _ _ es true _ (LSl.of_own (LOwn.of_cells hvb) HRI.out) (by omega) HXT.out HBT.out).mono ?_); rintro e w6 ⟨B6, m6, d6, rfl, r6, hb6⟩)))
  all_goals
    have hbb : Below w4.heap.size w4 wb := hba.grown (w' := wb) hgb hba.size (fun g e => (hva.lt g e).1)
    have hT5 := Below.step hT4 hbb
    have j5 := (j4.below hbb).more hbb.size
    have hT6 := Below.step hT5 hb6
    have j6 := (j5.below hb6).more hb6.size
    have jr := ISl.of_own r6 HEI.out
    have hm6 : m6 = m2 := by rw [← own_len r6, HFE.out.len]
    subst hm6
    clear r6 hva hvb hga hgb
    go_wp2_with fail
    all_goals
      refine (sameInts_same _ _ _ _ _ _ _ _ jr j6 (by omega)).mono ?_
      rintro e w7 ⟨rfl, hb7⟩
      have hT7 := Below.step hT6 hb7
      go_wp2
      all_goals
        go_ret
        exact ⟨rfl, hT7⟩
end Go.Proofs.Ytaefojbgialiaab
