/- The walk of the law FnMatchAllMore: further measurements change nothing. -/
import Derived.Test.YtpkfpegilhadfabMtLAll
import Derived.Test.YtpkfpegilhadfabAppI
set_option linter.unusedVariables false
namespace Go.Proofs.Ytpkfpegilhadfab
open Go.RowKit Lk Mt

set_option maxRecDepth 100000 in
set_option maxHeartbeats 4000000 in
theorem fnMatchAllMore_walk (A : Option Addr) (n c : Nat) (bs : List Int) (A' : Option Addr) (n' c' : Nat) (bs' : List Int) (w : World) (h : BSl w w.heap.size A n c bs) (h' : BSl w w.heap.size A' n' c' bs') :
    Calls Try.prog 6 #[.slice A n c, .slice A' n' c'] w fun e w' => e = .returned (.bool true) ∧ Below w.heap.size w w' := by
  obtain ⟨i0, hi, hz0, hz1, hz2⟩ := info_parts int_info
  by_cases hbig : 1048576 < n
  · go_enter Try.func6, Try.ntmps6
    go_wp2
    go_ret
    exact ⟨rfl, Below.refl _ _⟩
  by_cases hbig' : 1048576 < n'
  · go_enter Try.func6, Try.ntmps6
    go_wp2
    go_ret
    exact ⟨rfl, Below.refl _ _⟩
  go_enter Try.func6, Try.ntmps6
  go_wp2_with fail
  refine (DrawMatchAll_any _ _ _ _ _ h (by omega)).mono ?_
  rintro e w1 ⟨A1, m, c1, s, A2, n2, c2, zs, tol, rfl, hm, hn2, hO1, hin, hZ1, hzin, htb, hb1⟩
  have i1 := NSl.of_own hO1 hin
  have j1 := ISl.of_own hZ1 hzin
  clear hin hzin htb hO1 hZ1
  go_wp2_with fail
  refine (iMatchAll_any _ _ _ s _ _ _ zs tol _ i1 j1 (by omega)).mono ?_
  rintro e w2 ⟨A3, m3, c3, rfl, hr2, hb2⟩
  have i2 := (i1.below hb2).more hb2.size
  have j2 := (j1.below hb2).more hb2.size
  have r2 := ISl.of_own hr2 (matchAll_in s zs tol)
  have hT2 := Below.step hb1 hb2
  have hm3 : m3 ≤ 40 := by have := r2.len; have := matchAll_len s zs tol; omega
  clear hr2 hb1 hb2 i1 j1
  go_wp2_with fail
  refine (sMatchAll_any _ _ _ s _ _ _ zs tol _ i2 j2 (by omega)).mono ?_
  rintro e w3 ⟨A4, m4, c4, rfl, hq3, hb3⟩
  have i3 := (i2.below hb3).more hb3.size
  have j3 := (j2.below hb3).more hb3.size
  have r3 := (r2.below hb3).more hb3.size
  have q3 := ISl.of_own hq3 (matchAll_in s zs tol)
  have hT3 := Below.step hT2 hb3
  clear hq3 hT2 hb3 i2 j2 r2
  have hs : ∀ W, Below w3.heap.size w3 W → Calls Try.prog 31 #[.slice A3 m3 c3, .slice A4 m4 c4] W fun e w' => e = .returned (.bool true) ∧ Below W.heap.size W w' := fun W hW =>
    sameInts_same _ _ _ _ _ _ (matchAll s zs tol) W ((r3.below hW).more hW.size) ((q3.below hW).more hW.size) (by omega)
  obtain ⟨K, hK⟩ : ∃ K, allOk s zs tol = K := ⟨_, rfl⟩
  rw [hK]
  cases K
  · have HO := Lib.hid hT3
    clear i3 j3 r3 q3 hT3 hK
    go_wp2_with (go_at_call 31; first | (refine (hs _ (Below.refl _ _)).mono ?_; rintro e w4 ⟨rfl, hb4⟩) | (refine (hs _ hb4).mono ?_; rintro e w5 ⟨rfl, hb5⟩))
    go_ret
    exact ⟨rfl, HO.out.trans ((hb4.trans (hb5.mono hb4.size)).mono HO.out.size)⟩
  have HK := Lib.hid hK
  rw [matchAll_yes hK] at r3
  have hcap2 := j3.cap
  clear q3 hK
  go_upto_region 8 with (go_at_call 31; (refine (hs _ (Below.refl _ _)).mono ?_; rintro e w4 ⟨rfl, hb4⟩))
  have i4 := (i3.below hb4).more hb4.size
  have j4 := (j3.below hb4).more hb4.size
  have r4 := (r3.below hb4).more hb4.size
  have hT4 := Below.step hT3 hb4
  clear hs i3 j3 r3 hT3 hb4
  obtain ⟨K, hKe⟩ : ∃ K, n' % (n2 + 1) = K := ⟨_, rfl⟩
  have hKn : K ≤ n2 := by have := Nat.mod_lt n' (show 0 < n2 + 1 by omega); omega
  have t2 : (n' : Int) % ((n2 : Int) + 1) = (K : Int) := by rw [← hKe]; simp
  have t1 : (n' : Int).tmod ((n2 : Int) + 1) = (K : Int) := by rw [Int.tmod_eq_emod_of_nonneg (by omega)]; exact t2
  have hnz : ((n2 : Int) + 1 == 0) = false := by simp; omega
  have HK4 := HK
  clear hKe
  have hKI : (K : Int) ≤ (n2 : Int) := by omega
  have hKc : (K : Int) ≤ (c2 : Int) := by omega
  have ja := j4.cutI hKn
  have HJL := Lib.hid j4.len
  have hpa : allOk s (zs.take K) tol = true := allOk_part HK.out (by have := (allOk_parts HK.out).2.1; simp; omega) (fun z hz => List.mem_of_mem_take hz)
  have hpb : allOk s (zs.drop K) tol = true := allOk_part HK.out (by have := (allOk_parts HK.out).2.1; simp; omega) (fun z hz => List.mem_of_mem_drop hz)
  have HPA := Lib.hid hpa
  have HPB := Lib.hid hpb
  clear hpa hpb
  go_wp2_with fail
  refine (iMatchAll_any _ _ _ s _ _ _ (zs.take K) tol _ i4 ja (by omega)).mono ?_
  rintro e w5 ⟨A5, m5, c5, rfl, hx, hb5⟩
  rw [HPA.out]
  rw [matchAll_yes HPA.out] at hx
  have hlen144 := lines_len s
  have x5 := ISl.of_own hx (allL_inI _ _ _ hlen144)
  have i5 := (i4.below hb5).more hb5.size
  have j5 := (j4.below hb5).more hb5.size
  have r5 := (r4.below hb5).more hb5.size
  have hT5 := Below.step hT4 hb5
  clear hx i4 j4 r4 ja hb5 hT4
  have jb := j5.tail hKn
  have HXL := Lib.hid x5.len
  have hm5 : m5 = K := by have := x5.len; rw [allL_len, List.length_take, HJL.out] at this; omega
  subst hm5
  have hm3n : m3 ≤ 41 := by have := r5.len; rw [allL_len, HJL.out] at this; omega
  have hm3e : m3 = n2 := by have := r5.len; rw [allL_len, HJL.out] at this; omega
  subst hm3e
  clear HXL
  go_wp2_with fail
  all_goals
    refine (iMatchAll_any _ _ _ s _ _ _ (zs.drop m5) tol _ i5 (by first | exact jb | (rw [if_neg (by assumption)] at jb; exact jb) | (rw [if_pos (show c2 = m5 by omega), show c2 - m5 = 0 by omega] at jb; exact jb)) (by omega)).mono ?_
    rintro e w6 ⟨A6, m6, c6, rfl, hy, hb6⟩
    rw [HPB.out]
    rw [matchAll_yes HPB.out] at hy
    have y6 := ISl.of_own hy (allL_inI _ _ _ hlen144)
    have x6 := (x5.below hb6).more hb6.size
    have r6 := (r5.below hb6).more hb6.size
    have hT6 := Below.step hT5 hb6
    have hm6 : m5 + m6 = m3 := by have := y6.len; rw [allL_len, List.length_drop, HJL.out] at this; omega
    have hba : Below w6.heap.size w6 (w6.alloc (.cells #[] 3)) := (Below.refl _ _).alloc (Nat.le_refl _) _
    have xz := x6.below hba
    have yz := y6.below hba
    have hlit := own_lit0 w6 3
    have HE : Hid (allL (lines s) (zs.take m5) tol ++ allL (lines s) (zs.drop m5) tol = allL (lines s) zs tol) := by show _ = _; rw [← allL_append, List.take_append_drop]
    clear hy hb6 x5 r5 hT5 x6 i5 j5 jb y6
    go_wp2_with (first
      | (at_builtin; refine guard_ints (by rfl) _ _ _ _ rfl w6.heap.size 3 i0 _ Try.underlying30 hi hz0 hz1 hz2 rfl (.slice (some ⟨w6.heap.size, 0, none⟩) 0 0) 0 [] rfl hlit w6.heap.size A5 m5 c5 _ rfl xz m5 _ (by omega) rfl (by omega) (by simp) ?_; intro va wa hva hga; obtain ⟨Aa, ca, rfl⟩ := own_form hva; have hbA : Below w6.heap.size w6 wa := hba.grown hga (by simp) (by intro g e; simp [Value.ownBlock] at e; omega); have yA := yz.below ((Below.refl _ _).grown hga (by simp) (by intro g e; simp [Value.ownBlock] at e; omega)))
      | (at_builtin; refine guard_ints (by rfl) _ _ _ _ rfl w6.heap.size 3 i0 _ Try.underlying30 hi hz0 hz1 hz2 rfl (.slice Aa m5 ca) m5 _ rfl hva w6.heap.size A6 m6 c6 _ rfl yA m3 (allL (lines s) zs tol) hm6 HE.out (by omega) hbA.size ?_; intro vb wb hvb hgb; obtain ⟨Ab, cb, rfl⟩ := own_form hvb; have hbB : Below w6.heap.size w6 wb := hbA.grown hgb hbA.size (fun q hq => (hva.lt q hq).1); have rB := (r6.below hbB).more hbB.size; have sB := ISl.of_own hvb (allL_inI _ _ _ hlen144); clear hvb hgb hva hga hlit xz yz yA)
      | (go_at_call 31; refine (sameInts_same _ _ _ _ _ _ _ _ rB sB (by omega)).mono ?_; rintro e w9 ⟨rfl, hb9⟩))
    go_ret
    exact ⟨rfl, (Below.step hT6 hbB).trans (hb9.mono (Below.step hT6 hbB).size)⟩
end Go.Proofs.Ytpkfpegilhadfab
