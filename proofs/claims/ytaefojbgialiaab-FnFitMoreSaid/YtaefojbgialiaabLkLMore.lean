/- The walk of the law FnFitMore. -/
import Derived.Test.YtaefojbgialiaabLkDraw2
import Derived.Test.YtaefojbgialiaabLkFitX
import Derived.Test.YtaefojbgialiaabLkAny
set_option linter.unusedVariables false
namespace Go.Proofs.Ytaefojbgialiaab
open Go.RowKit Lk

theorem lown_lit1 (w : World) (E : TypeId) (a : Link) : LOwn (w.alloc (.cells #[.int .i64 a.f, .int .i64 a.t, .int .i64 a.d] E)) w.heap.size E (.slice (some ⟨w.heap.size, 0, none⟩) 1 1) 1 [a] := by
  refine ⟨rfl, _, World.ownsRow_lit w _ 1 (Nat.le_refl _) (by unfold maxLen; omega) rfl, fun i j hi hj => ?_⟩
  match i, j, hi, hj with
  | 0, 0, _, _ => rfl
  | 0, 1, _, _ => rfl
  | 0, 2, _, _ => rfl
theorem one_inL {a : Link} (h : InL a) : ∀ l ∈ [a], InL l := fun l hl => by
  have : l = a := by simpa using hl
  rw [this]; exact h
theorem more_inL {ls : List Link} {a : Link} (h : ∀ l ∈ ls, InL l) (ha : InL a) : ∀ l ∈ ls ++ [a], InL l := fun l hl => by
  rcases List.mem_append.1 hl with hl | hl
  · exact h l hl
  · exact one_inL ha l hl

set_option maxRecDepth 100000 in
set_option maxHeartbeats 3000000 in
theorem fnFitMore_walk (A : Option Addr) (n c : Nat) (bs : List Int) (A' : Option Addr) (n' c' : Nat) (bs' : List Int) (w : World) (h : BSl w w.heap.size A n c bs) (h' : BSl w w.heap.size A' n' c' bs') :
    Calls Try.prog 5 #[.slice A n c, .slice A' n' c'] w fun e w' => e = .returned (.bool true) ∧ Below w.heap.size w w' := by
  by_cases hbig : 1048576 < n
  · go_enter Try.func5, Try.ntmps5
    go_wp2
    go_ret
    exact ⟨rfl, Below.refl _ _⟩
  by_cases hbig' : 1048576 < n'
  · go_enter Try.func5, Try.ntmps5
    go_wp2
    go_ret
    exact ⟨rfl, Below.refl _ _⟩
  go_enter Try.func5, Try.ntmps5
  go_wp2_with fail
  refine (DrawLinksFit_any _ _ _ _ _ h (by omega)).mono ?_
  rintro e w1 ⟨many, A1, m, c1, ls, rfl, hD, hb1⟩
  have hm9 := hD.few
  have hp := hD.pos
  have hp6 := hD.six
  have i1 := LSl.of_own hD.own hD.inL
  have HLI := Lib.hid hD.inL
  clear hD
  rcases ho : fitR (many : Int) ls with _ | es
  · have HX : Hid ((fitR (many : Int) ls).getD [] = []) := by rw [ho]; rfl
    have HB : Hid ((fitR (many : Int) ls).isSome = false) := by rw [ho]; rfl
    clear ho
    go_wp2_with fail
    refine (iLinksFit_x _ _ _ _ _ [] false _ i1 (by omega) HX.out HB.out).mono ?_
    rintro e w2 ⟨B2, m2, d2, rfl, r2, hb2⟩
    have hT2 := Below.step hb1 hb2
    have i2 := (i1.below hb2).more hb2.size
    obtain rfl : m2 = 0 := (own_len r2).symm
    clear i1
    go_wp2_with fail
    refine (sLinksFit_x _ _ _ _ _ [] false _ i2 (by omega) HX.out HB.out).mono ?_
    rintro e w3 ⟨B3, m3, d3, rfl, r3, hb3⟩
    have hT3 := Below.step hT2 hb3
    have r4 := own_below r2 hb3
    have j2 := ISl.of_own r4 (by intro z hz; cases hz)
    have j3 := ISl.of_own r3 (by intro z hz; cases hz)
    clear r2 r3 r4 i2
    go_wp2_with fail
    refine (sameInts_same _ _ _ _ _ _ _ _ j2 j3 (by omega)).mono ?_
    rintro e w4 ⟨rfl, hb4⟩
    have hT4 := Below.step hT3 hb4
    have j4 := (j2.below hb4).more hb4.size
    have j5 := (j3.below hb4).more hb4.size
    clear j2 j3
    go_wp2_with fail
    refine (sameInts_same _ _ _ _ _ _ _ _ j4 j5 (by omega)).mono ?_
    rintro e w5 ⟨rfl, hb5⟩
    have hT5 := Below.step hT4 hb5
    go_wp2
    go_ret
    exact ⟨rfl, hT5⟩
  have HO := Lib.hid ho
  have HX : Hid ((fitR (many : Int) ls).getD [] = es) := by rw [ho]; rfl
  have HB : Hid ((fitR (many : Int) ls).isSome = true) := by rw [ho]; rfl
  have HOK := Lib.hid (fitR_some ho).1
  have HFE := Lib.hid (fitR_some ho).2
  have HBD := Lib.hid (fitE_bd (fitR_some ho).1 (fitR_some ho).2)
  have HEI : Hid (∀ z ∈ es, InI z) := fun z hz => by have := (fitR_bd ho).2.2 z hz; unfold InI; omega
  clear ho
  go_wp2_with fail
  refine (iLinksFit_x _ _ _ _ _ es true _ i1 (by omega) HX.out HB.out).mono ?_
  rintro e w2 ⟨B2, m2, d2, rfl, r2, hb2⟩
  have hT2 := Below.step hb1 hb2
  have i2 := (i1.below hb2).more hb2.size
  have hm2 : m2 = many := by rw [← own_len r2, HFE.out.len]
  subst hm2
  clear i1
  go_wp2_with fail
  refine (sLinksFit_x _ _ _ _ _ es true _ i2 (by omega) HX.out HB.out).mono ?_
  rintro e w3 ⟨B3, m3, d3, rfl, r3, hb3⟩
  have hT3 := Below.step hT2 hb3
  have i3 := (i2.below hb3).more hb3.size
  have r4 := own_below r2 hb3
  have j2 := ISl.of_own r4 HEI.out
  have j3 := ISl.of_own r3 HEI.out
  clear r2 r3 i2
  go_wp2_with fail
  refine (sameInts_same _ _ _ _ _ _ _ _ j2 j3 (by omega)).mono ?_
  rintro e w4 ⟨rfl, hb4⟩
  have hT4 := Below.step hT3 hb4
  have i4 := (i3.below hb4).more hb4.size
  have j4 := (j2.below hb4).more hb4.size
  clear j2 j3 i3 r4
  by_cases hm0 : m = 0
  · subst hm0
    go_wp2
    go_ret
    first
      | exact ⟨rfl, hT4⟩
      | exact ⟨ret_bool (by simp), hT4⟩
  obtain ⟨i7, hi7, hy0, hy1, hy2⟩ := info_parts link_info
  obtain ⟨K1, hK1e⟩ : ∃ K, n' % m = K := ⟨_, rfl⟩
  have hK1 : K1 < m := by have := Nat.mod_lt n' (show 0 < m by omega); omega
  have t2 : (n' : Int) % (m : Int) = (K1 : Int) := by rw [← hK1e]; simp
  have t1 : (n' : Int).tmod (m : Int) = (K1 : Int) := by rw [Int.tmod_eq_emod_of_nonneg (by omega)]; exact t2
  obtain ⟨Q, hQ⟩ : ∃ Q, n' / 7 = Q := ⟨_, rfl⟩
  have dv2 : (n' : Int) / 7 = (Q : Int) := by rw [← hQ]; simp
  have dv1 : (n' : Int).tdiv 7 = (Q : Int) := by rw [Int.tdiv_eq_ediv_of_nonneg (by omega)]; exact dv2
  obtain ⟨K2, hK2e⟩ : ∃ K, Q % m = K := ⟨_, rfl⟩
  have hK2 : K2 < m := by have := Nat.mod_lt Q (show 0 < m by omega); omega
  have t4 : (Q : Int) % (m : Int) = (K2 : Int) := by rw [← hK2e]; simp
  have t3 : (Q : Int).tmod (m : Int) = (K2 : Int) := by rw [Int.tmod_eq_emod_of_nonneg (by omega)]; exact t4
  have tz : ((m : Int) == 0) = false := by simp; omega
  have tn : ¬ ((m : Int) = 0) := by omega
  have HLEN := Lib.hid i4.len
  have HF : Hid (∀ l ∈ ls, 0 ≤ l.f ∧ 0 ≤ l.t ∧ l.f < (m2 : Int) ∧ l.t < (m2 : Int)) := fun l h => by have := lsOk_mem HOK.out h; unfold lOk at this; omega
  obtain ⟨b, off, rfl, hbB, _, hc⟩ := i4.at_ hK1
  have p1 := (hc K1 hK1).1
  have p2 := (hc K2 hK2).2.1
  obtain ⟨F, hF⟩ := Int.eq_ofNat_of_zero_le (HF.out _ (gL_mem (show K1 < ls.length by rw [HLEN.out]; exact hK1))).1
  obtain ⟨T, hT⟩ := Int.eq_ofNat_of_zero_le (HF.out _ (gL_mem (show K2 < ls.length by rw [HLEN.out]; exact hK2))).2.1
  have hFN : F < m2 := by have := (HF.out _ (gL_mem (show K1 < ls.length by rw [HLEN.out]; exact hK1))).2.2.1; omega
  have hTN : T < m2 := by have := (HF.out _ (gL_mem (show K2 < ls.length by rw [HLEN.out]; exact hK2))).2.2.2; omega
  rw [hF] at p1
  rw [hT] at p2
  have hK1I : (K1 : Int) < (m : Int) := by omega
  have hK2I : (K2 : Int) < (m : Int) := by omega
  clear hc hF hT hK1e hK2e hQ
  go_wp2_with fail
  refine (iLinksJoined_any _ _ _ _ _ _ i4 (by omega)).mono ?_
  rintro e w5 ⟨A5, m5, c5, rfl, hJ, hb5⟩
  rw [joinedR_yes HOK.out] at hJ
  have hm5 : m5 = m2 := by rw [← own_len hJ, joinL_len]
  subst hm5
  have hT5 := Below.step hT4 hb5
  have i5 := (i4.below hb5).more hb5.size
  have j5 := (j4.below hb5).more hb5.size
  have hJI := ISl.of_own hJ (fun z hz => by
    unfold joinL at hz
    obtain ⟨i, hi, rfl⟩ := List.mem_map.1 hz
    have a := List.mem_range.1 hi
    have b := (joinF_is ls).le i
    unfold InI; omega)
  obtain ⟨g1, o1, rfl, _, _, he1⟩ := j5.at_ (show 0 < m5 by omega)
  obtain ⟨gj, oj, rfl, _, _, hj1⟩ := hJI.at_ (show 0 < m5 by omega)
  have r1 := he1 F hFN
  have r2 := he1 T hTN
  have s1 := hj1 F hFN
  have s2 := hj1 T hTN
  have HA : ∀ i, i < m5 → gI (joinL ls m5) i = (joinF ls i : Int) := fun i hi => by simp [gI, joinL, hi]
  rw [HA F hFN] at s1
  rw [HA T hTN] at s2
  have hv1 := HBD.out F hFN
  have hv2 := HBD.out T hTN
  obtain ⟨D, hD⟩ : ∃ D, gI es T - gI es F = D := ⟨_, rfl⟩
  have HD := Lib.hid hD
  have hD1 : -5000000 ≤ D := by omega
  have hD2 : D ≤ 5000000 := by omega
  have u1 : IntKind.i64.wrap (gI es T - gI es F) = D := by rw [IntWalk.i64_in _ (by omega)]; exact hD
  have hFI : (F : Int) < (m5 : Int) := by omega
  have hTI : (T : Int) < (m5 : Int) := by omega
  clear i4 j4 hJ hJI he1 hj1 p1 p2 hD HA
  go_wp2
  go_quiet (fail)
  have i6 : LSl (w5.drewN nq) (w5.drewN nq).heap.size (some ⟨b, off, none⟩) m c1 ls := i5.drewN nq
  have j6 : ISl (w5.drewN nq) (w5.drewN nq).heap.size (some ⟨g1, o1, none⟩) m5 d2 es := j5.drewN nq
  have hT6 := below_drewN hT5 nq
  have s3 : (w5.drewN nq).cell? ⟨gj, oj + F, none⟩ = some (.int .i64 (joinF ls F : Int)) := s1
  have s4 : (w5.drewN nq).cell? ⟨gj, oj + T, none⟩ = some (.int .i64 (joinF ls T : Int)) := s2
  generalize w5.drewN nq = w6 at i6 j6 hT6 s3 s4 ⊢
  clear i5 j5 hT5 s1 s2 r1 r2 u1 hb5
  have HJF : Hid (joinF ls F = joinF ls T ∨ joinF ls F ≠ joinF ls T) := by
    by_cases e : joinF ls F = joinF ls T
    · exact .inl e
    · exact .inr e
  obtain ⟨X, hX⟩ : ∃ X, joinF ls F = X := ⟨_, rfl⟩
  obtain ⟨Y, hY⟩ : ∃ Y, joinF ls T = Y := ⟨_, rfl⟩
  have HXE := Lib.hid hX
  have HYE := Lib.hid hY
  rw [hX] at s3
  rw [hY] at s4
  clear hX hY HJF
  by_cases hXY : X = Y
  · subst hXY
    have x1 : ((X : Int) != (X : Int)) = false := by simp
    by_cases hd1 : 200000 ≤ D
    · have x2 : decide (200000 ≤ D) = true := by simpa using hd1
      go_wp2
      go_quiet (fail)
      go_wp2
      go_ret
      first
        | exact ⟨rfl, below_drewN hT6 _⟩
        | exact ⟨ret_bool (by simp), below_drewN hT6 _⟩
    · have x2 : decide (200000 ≤ D) = false := by simpa using hd1
      by_cases hd2 : D < -200000
      · have x3 : decide (D < -200000) = true := by simpa using hd2
        go_wp2
        go_quiet (fail)
        go_wp2
        go_ret
        first
          | exact ⟨rfl, below_drewN hT6 _⟩
          | exact ⟨ret_bool (by simp), below_drewN hT6 _⟩
      · have x3 : decide (D < -200000) = false := by simpa using hd2
        have hJJ : Hid (joinF ls F = joinF ls T) := by rw [HXE.out, HYE.out]; exact rfl
        have HIA : Hid (∀ x : Int, -300000 ≤ x → x ≤ 300000 → InL ⟨(F : Int), (T : Int), x⟩) := fun x h1 h2 => by unfold InL InI; dsimp only; omega
        have HOA : Hid (∀ x : Int, -200000 ≤ x → x ≤ 200000 → lsOk (m5 : Int) (ls ++ [⟨(F : Int), (T : Int), x⟩]) = true) := fun x h1 h2 => lsOk_snoc HOK.out (by rw [HLEN.out]; omega) (by unfold lOk; dsimp only; omega)
        have HR1 : Hid (fitR (m5 : Int) (ls ++ [⟨(F : Int), (T : Int), D⟩]) = some es) := fitR_yes (HOA.out D (by omega) (by omega)) (fitE_more HFE.out (by simpa using hJJ.out) (by simpa using HD.out))
        have HR2 : Hid (fitR (m5 : Int) (ls ++ [⟨(F : Int), (T : Int), D + 1⟩]) = none) := fitR_no (fit_not HFE.out ⟨by simpa using hFN, by simpa using hTN⟩ (by simpa using hJJ.out) (by have := HD.out; simp; omega))
        have HX1 : Hid ((fitR (m5 : Int) (ls ++ [⟨(F : Int), (T : Int), D⟩])).getD [] = es) := by rw [HR1.out]; rfl
        have HB1 : Hid ((fitR (m5 : Int) (ls ++ [⟨(F : Int), (T : Int), D⟩])).isSome = true) := by rw [HR1.out]; rfl
        have HX2 : Hid ((fitR (m5 : Int) (ls ++ [⟨(F : Int), (T : Int), D + 1⟩])).getD [] = []) := by rw [HR2.out]; rfl
        have HB2 : Hid ((fitR (m5 : Int) (ls ++ [⟨(F : Int), (T : Int), D + 1⟩])).isSome = false) := by rw [HR2.out]; rfl
        go_wp2
        go_quiet (fail)
        have i7' : LSl (w6.drewN nq) (w6.drewN nq).heap.size (some ⟨b, off, none⟩) m c1 ls := i6.drewN nq
        have j7' : ISl (w6.drewN nq) (w6.drewN nq).heap.size (some ⟨g1, o1, none⟩) m5 d2 es := j6.drewN nq
        have hT7 := below_drewN hT6 nq
        generalize w6.drewN nq = w8 at i7' j7' hT7 ⊢
        clear i6 j6 hT6 s3 s4 x1 x2 x3
        have hbA : Below w8.heap.size w8 (w8.alloc (.cells #[] 28)) := (Below.refl _ _).alloc (Nat.le_refl _) _
        have HLT := Lib.hid (own_lit3 w8 28)
        have HSA := Lib.hid (i7'.below hbA)
        have hD3 : -200000 ≤ D := by omega
        have hD4 : D < 200000 := by omega
        go_wp2_with (first
          | (at_builtin; refine list_links rfl _ _ _ _ rfl w8.heap.size 28 i7 _ Try.underlying23 hi7 hy0 hy1 hy2 rfl (.slice (some ⟨w8.heap.size, 0, none⟩) 0 0) 0 [] rfl HLT.out w8.heap.size _ m _ ls rfl HSA.out m ls (by omega) rfl (by omega) hbA.size ?_; intro va wa hva hga; have hba := hbA.grown (w' := wa) hga hbA.size (by intro g e; simp [Value.ownBlock] at e; omega))
          | (at_builtin; refine list_links rfl _ _ _ _ rfl w8.heap.size 28 i7 _ Try.underlying23 hi7 hy0 hy1 hy2 rfl va m ls rfl (hva.alloc _) _ _ 1 1 [⟨(F : Int), (T : Int), D⟩] rfl (LSl.of_own (lown_lit1 wa 28 ⟨(F : Int), (T : Int), D⟩) (one_inL (HIA.out D (by omega) (by omega)))) (m + 1) (ls ++ [⟨(F : Int), (T : Int), D⟩]) rfl rfl (by omega) (by have := hba.size; simp; omega) ?_; intro vb wb hvb hgb; obtain ⟨Ab, cb, rfl⟩ := own_form hvb))
        refine (iLinksFit_x _ _ _ _ _ es true _ (LSl.of_own (LOwn.of_cells hvb) (more_inL HLI.out (HIA.out D (by omega) (by omega)))) (by omega) HX1.out HB1.out).mono ?_
        rintro e w9 ⟨B9, m9, d9, rfl, r9, hb9⟩
        have hbb : Below w8.heap.size w8 wb := (hba.alloc hba.size _).grown (w' := wb) hgb (by have := hba.size; simp; omega) (fun g e => (hva.lt g e).1)
        have hT9 := Below.step (Below.step hT7 hbb) hb9
        have i9 := (((i7'.below hbb).more hbb.size).below hb9).more hb9.size
        have j9 := (((j7'.below hbb).more hbb.size).below hb9).more hb9.size
        have hm9' : m9 = m5 := by rw [← own_len r9, HFE.out.len]
        subst hm9'
        have jr := ISl.of_own r9 HEI.out
        clear hvb hgb hva hga hba r9 hbb hb9 i7' j7' hbA HLT HSA
        have hbA : Below w9.heap.size w9 (w9.alloc (.cells #[] 28)) := (Below.refl _ _).alloc (Nat.le_refl _) _
        have HLT := Lib.hid (own_lit3 w9 28)
        have HSA := Lib.hid (i9.below hbA)
        go_wp2_with (first
          | (at_builtin; refine list_links rfl _ _ _ _ rfl w9.heap.size 28 i7 _ Try.underlying23 hi7 hy0 hy1 hy2 rfl (.slice (some ⟨w9.heap.size, 0, none⟩) 0 0) 0 [] rfl HLT.out w9.heap.size _ m _ ls rfl HSA.out m ls (by omega) rfl (by omega) hbA.size ?_; intro vc wc hvc hgc; have hbc := hbA.grown (w' := wc) hgc hbA.size (by intro g e; simp [Value.ownBlock] at e; omega))
          | (at_builtin; refine list_links rfl _ _ _ _ rfl w9.heap.size 28 i7 _ Try.underlying23 hi7 hy0 hy1 hy2 rfl vc m ls rfl (hvc.alloc _) _ _ 1 1 [⟨(F : Int), (T : Int), D + 1⟩] rfl (LSl.of_own (lown_lit1 wc 28 ⟨(F : Int), (T : Int), D + 1⟩) (one_inL (HIA.out (D + 1) (by omega) (by omega)))) (m + 1) (ls ++ [⟨(F : Int), (T : Int), D + 1⟩]) rfl rfl (by omega) (by have := hbc.size; simp; omega) ?_; intro vd wd hvd hgd; obtain ⟨Ad, cd, rfl⟩ := own_form hvd))
        refine (iLinksFit_x _ _ _ _ _ [] false _ (LSl.of_own (LOwn.of_cells hvd) (more_inL HLI.out (HIA.out (D + 1) (by omega) (by omega)))) (by omega) HX2.out HB2.out).mono ?_
        rintro e w10 ⟨B10, m10, d10, rfl, r10, hb10⟩
        have hbd : Below w9.heap.size w9 wd := (hbc.alloc hbc.size _).grown (w' := wd) hgd (by have := hbc.size; simp; omega) (fun g e => (hvc.lt g e).1)
        have hT10 := Below.step (Below.step hT9 hbd) hb10
        have jr10 := (((jr.below hbd).more hbd.size).below hb10).more hb10.size
        have j10 := (((j9.below hbd).more hbd.size).below hb10).more hb10.size
        clear hvd hgd hvc hgc hbc r10 hbd hb10 i9 j9 jr hbA HLT HSA
        go_wp2_with fail
        refine (sameInts_same _ _ _ _ _ _ _ _ jr10 j10 (by omega)).mono ?_
        rintro e w11 ⟨rfl, hb11⟩
        have hT11 := Below.step hT10 hb11
        go_wp2
        go_ret
        exact ⟨rfl, hT11⟩
  · have x1 : ((X : Int) != (Y : Int)) = true := by simp; omega
    go_wp2
    go_quiet (fail)
    go_wp2
    go_ret
    first
      | exact ⟨rfl, below_drewN hT6 _⟩
      | exact ⟨ret_bool (by simp), below_drewN hT6 _⟩
end Go.Proofs.Ytaefojbgialiaab
