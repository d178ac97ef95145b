/- The walk of the law FnMissingMore: further measurements miss no more. -/
import Derived.Test.YtpkfpegilhadfaaMtLMiss
import Derived.Test.YtpkfpegilhadfaaAppI
set_option linter.unusedVariables false
namespace Go.Proofs.Ytpkfpegilhadfaa
open Go.RowKit Lk Mt

set_option maxRecDepth 100000 in
set_option maxHeartbeats 4000000 in
theorem fnMissingMore_walk (A : Option Addr) (n c : Nat) (bs : List Int) (A' : Option Addr) (n' c' : Nat) (bs' : List Int) (w : World) (h : BSl w w.heap.size A n c bs) (h' : BSl w w.heap.size A' n' c' bs') :
    Calls Try.prog 4 #[.slice A n c, .slice A' n' c'] w fun e w' => e = .returned (.bool true) ∧ Below w.heap.size w w' := by
  obtain ⟨i0, hi, hz0, hz1, hz2⟩ := info_parts int_info
  by_cases hbig : 1048576 < n
  · go_enter Try.func4, Try.ntmps4
    go_wp2
    go_ret
    exact ⟨rfl, Below.refl _ _⟩
  by_cases hbig' : 1048576 < n'
  · go_enter Try.func4, Try.ntmps4
    go_wp2
    go_ret
    exact ⟨rfl, Below.refl _ _⟩
  go_enter Try.func4, Try.ntmps4
  go_wp2_with fail
  refine (DrawMatchMissing_any _ _ _ _ _ h (by omega)).mono ?_
  rintro e w1 ⟨A1, m, c1, s, A2, n2, c2, zs, tol, rfl, hm, hn2, hO1, hin, hZ1, hzin, htb, hb1⟩
  have i1 := NSl.of_own hO1 hin
  have j1 := ISl.of_own hZ1 hzin
  clear hin hzin htb hO1 hZ1
  go_wp2_with fail
  refine (iMatchMissing_any _ _ _ s _ _ _ zs tol _ i1 j1 (by omega)).mono ?_
  rintro e w2 ⟨A3, m3, c3, rfl, hr2, hb2⟩
  have i2 := (i1.below hb2).more hb2.size
  have j2 := (j1.below hb2).more hb2.size
  have r2 := ISl.of_own hr2 (matchMissing_in s zs tol)
  have hT2 := Below.step hb1 hb2
  have hm3 : m3 ≤ 144 := by have := r2.len; have := matchMissing_len s zs tol; omega
  clear hr2 hb1 hb2 i1 j1
  go_wp2_with fail
  refine (sMatchMissing_any _ _ _ s _ _ _ zs tol _ i2 j2 (by omega)).mono ?_
  rintro e w3 ⟨A4, m4, c4, rfl, hq3, hb3⟩
  have i3 := (i2.below hb3).more hb3.size
  have j3 := (j2.below hb3).more hb3.size
  have r3 := (r2.below hb3).more hb3.size
  have q3 := ISl.of_own hq3 (matchMissing_in s zs tol)
  have hT3 := Below.step hT2 hb3
  clear hq3 hT2 hb3 i2 j2 r2
  have hs : ∀ W, Below w3.heap.size w3 W → Calls Try.prog 12 #[.slice A3 m3 c3, .slice A4 m4 c4] W fun e w' => e = .returned (.bool true) ∧ Below W.heap.size W w' := fun W hW =>
    sameInts_same _ _ _ _ _ _ (matchMissing s zs tol) W ((r3.below hW).more hW.size) ((q3.below hW).more hW.size) (by omega)
  obtain ⟨K, hK⟩ : ∃ K, allOk s zs tol = K := ⟨_, rfl⟩
  rw [hK]
  cases K
  · have HO := Lib.hid hT3
    clear i3 j3 r3 q3 hT3 hK
    go_wp2_with (go_at_call 12; first | (refine (hs _ (Below.refl _ _)).mono ?_; rintro e w4 ⟨rfl, hb4⟩) | (refine (hs _ hb4).mono ?_; rintro e w5 ⟨rfl, hb5⟩))
    go_ret
    exact ⟨rfl, HO.out.trans ((hb4.trans (hb5.mono hb4.size)).mono HO.out.size)⟩
  have HK := Lib.hid hK
  have hm3l := r3.len
  clear q3 hK
  go_upto_region 8 with (go_at_call 12; (refine (hs _ (Below.refl _ _)).mono ?_; rintro e w4 ⟨rfl, hb4⟩))
  have i4 := (i3.below hb4).more hb4.size
  have j4 := (j3.below hb4).more hb4.size
  have hT4 := Below.step hT3 hb4
  clear hs i3 j3 r3 hT3 hb4
  obtain ⟨D, hD⟩ : ∃ D, n' % 2000 = D := ⟨_, rfl⟩
  have hD2 : D < 2000 := by omega
  have t1 : (n' : Int).tmod 2000 = (D : Int) := by rw [Int.tmod_eq_emod_of_nonneg (by omega)]; omega
  have t2 : (n' : Int) % 2000 = (D : Int) := by omega
  have jz : ISl (w4.alloc (.cells #[] 3)) w4.heap.size A2 n2 c2 zs := j4.below ((Below.refl _ _).alloc (Nat.le_refl _) _)
  have hlit := own_lit0 w4 3
  have HJ := Lib.hid (And.intro j4.len j4.inI)
  clear hD
  go_wp2_with (first
    | (at_builtin; refine list_ints rfl _ _ _ _ rfl w4.heap.size 3 i0 _ Try.underlying24 hi hz0 hz1 hz2 rfl (.slice (some ⟨w4.heap.size, 0, none⟩) 0 0) 0 [] rfl hlit w4.heap.size A2 n2 c2 zs rfl jz n2 zs (by omega) rfl (by omega) (by simp) ?_; intro va wa hva hga; obtain ⟨Aa, ca, rfl⟩ := own_form hva)
    | (at_builtin; refine wpList_append_own _ rfl _ _ 24 rfl w4.heap.size 3 i0 (.int .i64 0) 1 8 Try.underlying24 hi hz0 hz1 hz2 rfl (by decide) _ _ _ rfl (hva.alloc _) ⟨wa.heap.size, 0, none⟩ 1 1 [.int .i64 (D : Int)] rfl rfl ?c1 ?c2 ?c3 ?c4 ?c5 ?_))
  case c1 => exact cell_one_new _ _ _
  case c2 => intro u hu; simp at hu; subst hu; rfl
  case c3 => unfold maxLen; omega
  case c4 => omega
  case c5 => have := hga.size; simp at *; omega
  intro v' w6 hown' hgrow _
  have hb6 : Below w4.heap.size w4 w6 := ((((Below.refl _ _).alloc (Nat.le_refl _) (.cells #[] 3)).grown hga (by simp) (by intro g e; simp [Value.ownBlock] at e; omega)).alloc (by have := hga.size; simp at this; omega) (.cells #[.int .i64 (D : Int)] 3)).grown hgrow (by have := hga.size; simp at *; omega) (fun g hg => (hva.lt g hg).1)
  rw [show zs.map (Value.int .i64) ++ [Value.int .i64 (D : Int)] = (zs ++ [(D : Int)]).map (Value.int .i64) by simp] at hown'
  obtain ⟨A6, c6, rfl⟩ := own_form hown'
  have k6 := ISl.of_own hown' (fun z hz => by
    rcases List.mem_append.1 hz with hz | hz
    · exact HJ.out.2 z hz
    · have : z = (D : Int) := by simpa using hz
      subst this; unfold InI; omega)
  have i6 := (i4.below hb6).more hb6.size
  have hT6 := Below.step hT4 hb6
  have HJ1 := Lib.hid HJ.out.1
  clear hown' hgrow hva hga hlit jz i4 j4 hT4 hb6
  go_wp2_with fail
  refine (iMatchMissing_any _ _ _ s _ _ _ (zs ++ [(D : Int)]) tol _ i6 k6 (by omega)).mono ?_
  rintro e w7 ⟨A7, m7, c7, rfl, hr7, hb7⟩
  have HT := Lib.hid (Below.step hT6 hb7)
  have h7 : (matchMissing s (zs ++ [(D : Int)]) tol).length = m7 := by have := hr7.1; simpa using this
  have hok := allOk_snoc HK.out (x := (D : Int)) (by omega)
  rw [HJ1.out] at hok
  have hmm : n2 < 40 → m7 ≤ m3 ∧ m3 ≤ m7 + 1 := fun hlt => by
    have := missing_more HK.out (x := (D : Int)) (by omega) (by rw [HJ1.out]; exact hlt)
    have h3 : (matchMissing s zs tol).length = m3 := hm3l
    omega
  have h40 := (allOk_parts HK.out).2.1
  rw [HJ1.out] at h40
  clear hr7 hb7 hT6 i6 k6 hm3l h7
  by_cases hlt : n2 < 40
  · have g0 : ((n2 : Int) == 40) = false := by simp; omega
    obtain ⟨s1, s2⟩ := hmm hlt
    rw [decide_eq_true hlt] at hok
    rw [hok]
    have g1 : decide (m7 ≤ m3) = true := by simpa using s1
    have g2 : decide ((m7 : Int) ≤ (m3 : Int)) = true := by simp; omega
    have g3 : decide ((m3 : Int) - 1 ≤ (m7 : Int)) = true := by simp; omega
    have u1 : IntKind.i64.wrap ((m3 : Int) - 1) = (m3 : Int) - 1 := IntWalk.i64_in _ (by omega)
    clear hmm hok
    go_wp2
    go_ret
    exact ⟨rfl, HT.out⟩
  · have g0 : ((n2 : Int) == 40) = true := by simp; omega
    rw [decide_eq_false hlt] at hok
    rw [hok]
    clear hmm hok
    go_wp2
    go_ret
    exact ⟨rfl, HT.out⟩
end Go.Proofs.Ytpkfpegilhadfaa
