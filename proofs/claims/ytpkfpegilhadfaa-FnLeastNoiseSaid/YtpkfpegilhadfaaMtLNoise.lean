/- The walk of the law FnLeastNoise: small errors need a small tolerance. -/
import Derived.Test.YtpkfpegilhadfaaMtDraw2
import Derived.Test.YtpkfpegilhadfaaMtLinksOf
import Derived.Test.YtpkfpegilhadfaaLkLeast
set_option linter.unusedVariables false
namespace Go.Proofs.Ytpkfpegilhadfaa
open Go.RowKit Lk Mt

/-- a link, off by at most 3 -/
def Noisy (l l0 : Link) : Prop := l.f = l0.f ∧ l.t = l0.t ∧ l0.d - 3 ≤ l.d ∧ l.d ≤ l0.d + 3 ∧ l.d ≤ 200000
def NzRel (LS : List Link) (T g c : Nat) (B : Nat) (W : World) (i : Value) (wr : World) : Prop :=
  ∃ (k : Nat) (xs : List Link), k ≤ T ∧ i = .int .i64 k ∧ LOwn wr B 51 (.slice (some ⟨g, 0, none⟩) T c) T xs ∧ Hid (∀ i, i < T → Noisy (gL xs i) (gL LS i)) ∧ Hid (∀ i, k ≤ i → i < T → gL xs i = gL LS i) ∧ W.grownBy wr (some g)
set_option maxRecDepth 100000 in
set_option maxHeartbeats 4000000 in
theorem fnLeastNoise_walk (A : Option Addr) (n c : Nat) (bs : List Int) (A' : Option Addr) (n' c' : Nat) (bs' : List Int) (w : World) (h : BSl w w.heap.size A n c bs) (h' : BSl w w.heap.size A' n' c' bs') :
    Calls Try.prog 7 #[.slice A n c, .slice A' n' c'] w fun e w' => e = .returned (.bool true) ∧ Below w.heap.size w w' := by
  by_cases hbig : 1048576 < n
  · go_enter Try.func7, Try.ntmps7
    go_wp2
    go_ret
    exact ⟨rfl, Below.refl _ _⟩
  by_cases hbig' : 1048576 < n'
  · go_enter Try.func7, Try.ntmps7
    go_wp2
    go_ret
    exact ⟨rfl, Below.refl _ _⟩
  go_enter Try.func7, Try.ntmps7
  go_wp2_with fail
  refine (DrawSchemeLines_any _ _ _ _ _ h (by omega)).mono ?_
  rintro e w1 ⟨A1, m, c1, s, rfl, hm, hO1, hin, hb1⟩
  have i1 := NSl.of_own hO1 hin
  have HSL := Lib.hid hO1.len
  clear hO1 hin
  go_wp2_with fail
  refine (iSchemeLines_any _ _ _ s _ i1).mono ?_
  rintro e w2 ⟨A2, n2, c2, rfl, hL2, hb2⟩
  have i2 := (i1.below hb2).more hb2.size
  have l2 := LSl.of_lines hL2
  have hT2 := Below.step hb1 hb2
  clear hL2 hb1 hb2 i1
  go_wp2_with fail
  refine (sSchemeLines_any _ _ _ s _ i2).mono ?_
  rintro e w3 ⟨A3, n3, c3, rfl, hL3, hb3⟩
  have l3 := (l2.below hb3).more hb3.size
  have k3 := LSl.of_lines hL3
  have hT3 := Below.step hT2 hb3
  have hl : (lines s).length = n2 := by have := l3.len; simpa using this
  have hn144 : n2 ≤ 144 := by rw [← hl]; exact lines_len s
  clear hL3 hb3 i2 l2 hT2
  go_wp2_with fail
  refine (sameLines_same _ _ _ _ _ _ _ _ l3 k3 (by omega)).mono ?_
  rintro e w4 ⟨rfl, hb4⟩
  have l4 := (l3.below hb4).more hb4.size
  have k4 := (k3.below hb4).more hb4.size
  have hT4 := Below.step hT3 hb4
  have hT4s := hT4.size
  clear l3 k3 hb4 hT3
  by_cases h0 : n2 = 0
  · subst h0
    go_wp2_with fail
    refine (sameLines_same _ _ _ _ _ _ _ _ l4 k4 (by omega)).mono ?_
    rintro e w5 ⟨rfl, hb5⟩
    have HO := Lib.hid (Below.step hT4 hb5)
    clear hb5 hT4 l4 k4
    go_wp2
    go_ret
    exact ⟨rfl, HO.out⟩
  have g0 : ((n2 : Int) == 0) = false := by simp; omega
  have hok : sOk s = true := by
    rcases hv : sOk s with _ | _
    · unfold lines at hl; rw [hv] at hl; simp at hl; omega
    · rfl
  have HOK := Lib.hid hok
  clear hok k4
  go_wp2_with fail
  refine (linksOf_any _ _ _ (lines s) _ l4 (by omega)).mono ?_
  rintro e w5 ⟨A5, c5, rfl, hX5, hb5⟩
  have hT5 := Below.step hT4 hb5
  obtain ⟨T, hT⟩ : ∃ T, min 30 n2 = T := ⟨_, rfl⟩
  rw [hT] at hX5 ⊢
  have hTp : 0 < T := by omega
  have hT30 : T ≤ 30 := by omega
  obtain ⟨g, rfl, hg1, hg2⟩ := hX5.at_ hTp
  have HXL := Lib.hid hX5.len
  have hw4 : w4.heap.size ≤ w5.heap.size := hb5.size
  have hg4 := hg1
  have HLK := Lib.hid (linksOf_ok HOK.out)
  have HD : Hid (∀ i, i < T → 0 < (gL (Mt.linksOf (lines s)) i).d ∧ (gL (Mt.linksOf (lines s)) i).d ≤ 200000) := fun i hi => by
    have hmm := gL_mem (ls := Mt.linksOf (lines s)) (i := i) (by rw [HXL.out]; exact hi)
    obtain ⟨x, hx, e⟩ := List.mem_map.1 hmm
    have := lines_in HOK.out (List.mem_of_mem_take hx)
    rw [← e]; unfold Mt.lk; dsimp only; omega
  have H0 : Hid (∀ i, i < T → Noisy (gL (Mt.linksOf (lines s)) i) (gL (Mt.linksOf (lines s)) i)) := fun i hi => by
    have := HD.out i hi
    unfold Noisy; omega
  clear l4 hb5 hT4 hT hl
  go_wp2
  go_loopw [9] (fun i wr => NzRel (Mt.linksOf (lines s)) T g c5 w4.heap.size w5 i wr) (fun i _ => T - (intOf i).toNat)
  case atStart => exact ⟨0, _, Nat.zero_le _, rfl, hX5, H0.out, (fun i _ _ => rfl), World.grownBy.refl w5 _⟩
  case round =>
    obtain ⟨k, xs, hk, rfl, hX, hno, hre, hG⟩ := hrel
    clear hX5
    by_cases hlt : k < T
    · obtain ⟨d1, d2, d3⟩ := hX.cells hlt
      have f3 := hX.frozen (k * 3 + 2)
      have hd := HD.out k hlt
      have hxe := hre.out k (Nat.le_refl _) hlt
      rw [hxe] at d3
      obtain ⟨D, hD⟩ : ∃ D, (gL (Mt.linksOf (lines s)) k).d = D := ⟨_, rfl⟩
      have HDD := Lib.hid hD
      rw [hD] at d3 hd
      obtain ⟨R, hR⟩ : ∃ R, (n' + k * 5) % 7 = R := ⟨_, rfl⟩
      have hR7 : R ≤ 6 := by omega
      have t2 : ((n' : Int) + (k : Int) * 5) % 7 = (R : Int) := by omega
      have t1 : ((n' : Int) + (k : Int) * 5).tmod 7 = (R : Int) := by rw [Int.tmod_eq_emod_of_nonneg (by omega)]; exact t2
      obtain ⟨V, hV⟩ : ∃ V, min 200000 (D + (R : Int) - 3) = V := ⟨_, rfl⟩
      have hVb : D - 3 ≤ V ∧ V ≤ D + 3 ∧ V ≤ 200000 := by omega
      have hst := hX.setD hlt V
      have HXE := Lib.hid hxe
      have hxlen := hX.len
      have HS : Hid (∀ i, i < T → Noisy (gL (xs.set k ⟨(gL xs k).f, (gL xs k).t, V⟩) i) (gL (Mt.linksOf (lines s)) i)) := fun i hi => by
        rw [gL_set (by omega)]
        by_cases e : i = k
        · rw [if_pos e, e, HXE.out]
          unfold Noisy; dsimp only; rw [HDD.out]; exact ⟨rfl, rfl, hVb.1, hVb.2.1, hVb.2.2⟩
        · rw [if_neg e]; exact hno.out i hi
      have HR2 : Hid (∀ i, k + 1 ≤ i → i < T → gL (xs.set k ⟨(gL xs k).f, (gL xs k).t, V⟩) i = gL (Mt.linksOf (lines s)) i) := fun i h1 h2 => by
        rw [gL_set (by omega), if_neg (by omega)]; exact hre.out i (by omega) h2
      have HO := Lib.hid (And.intro hst.1 (hG.trans hst.2))
      have hkT : (k : Int) < (T : Int) := by omega
      clear hst hG hX hxe hxlen hR hD hVb d1 d2
      go_wp2
      go_roundw
      case rel => exact ⟨k + 1, _, by omega, by go_num, HO.out.1, HS.out, HR2.out, HO.out.2⟩
      case measure => simp [intOf]; omega
    · obtain rfl : k = T := by omega
      have hnf := noise_fit HOK.out (ls := xs) (by rw [hX.len, HXL.out]) (fun i hi => hno.out i (by rw [hX.len] at hi; exact hi))
      obtain ⟨v, hv⟩ := least_ex hnf.1
      have hv3 : v ≤ 3 := least_le hv (by omega) hnf.2
      have hv0 := hv.pos
      have HV : Hid (LeastRes (m : Int) xs v) := .inl ⟨by have := hnf.1; rw [HSL.out] at this; exact this, hv⟩
      have hxi : ∀ l ∈ xs, InL l := fun l hl => by
        have h1 := lsOk_mem hnf.1 hl
        have h2 := lsOk_bd hnf.1
        unfold lOk at h1
        unfold InL InI
        omega
      have x6 := LSl.of_own hX hxi
      have hT6 : Below w.heap.size w wr := hT5.trans ((Below.refl _ _).grown hG (by have := hT5.size; omega) (fun q e => by injection e; have := hT4s; omega))
      clear hv hnf hxi hX
      go_wp2_with fail
      refine (iLinksLeast_any _ _ _ _ _ v _ x6 (by omega) HV.out).mono ?_
      rintro e w7 ⟨rfl, hb7⟩
      have HO := Lib.hid (Below.step hT6 hb7)
      clear hb7 hT6 x6
      go_wp2
      go_ret
      exact ⟨rfl, HO.out⟩
end Go.Proofs.Ytpkfpegilhadfaa
