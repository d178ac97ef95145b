/- The walk of the law FnFitScheme: lines tell the energies. -/
import Derived.Test.YtpkfpegilhadfabMtDraw2
import Derived.Test.YtpkfpegilhadfabMtLinksOf
import Derived.Test.YtpkfpegilhadfabLkFitX
set_option linter.unusedVariables false
namespace Go.Proofs.Ytpkfpegilhadfab
open Go.RowKit Lk Mt

theorem linksOf_inL {s : List Nd} (h : sOk s = true) : ∀ l ∈ Mt.linksOf (lines s), InL l := fun l hl => by
  have h1 := lsOk_mem (linksOf_ok h) hl
  have h2 := lsOk_bd (linksOf_ok h)
  unfold lOk at h1
  unfold InL InI
  omega
theorem aboveL_in {s : List Nd} (h : sOk s = true) {m : Nat} (hm : s.length = m) (ls : List Link) : ∀ z ∈ aboveL m ls (fun i => (gN s i).e), InI z := fun z hz => by
  obtain ⟨i, hi, rfl⟩ := List.mem_map.1 hz
  have hi := List.mem_range.1 hi
  have h1 := sOk_at h (i := i) (by omega)
  have h2 := sOk_at h (i := joinF ls i) (by have := (joinF_is ls).le i; omega)
  unfold nOk at h1 h2
  unfold above InI; dsimp only; omega
set_option maxRecDepth 100000 in
set_option maxHeartbeats 4000000 in
theorem fnFitScheme_walk (A : Option Addr) (n c : Nat) (bs : List Int) (w : World) (h : BSl w w.heap.size A n c bs) :
    Calls Try.prog 3 #[.slice A n c] w fun e w' => e = .returned (.bool true) ∧ Below w.heap.size w w' := by
  by_cases hbig : 1048576 < n
  · go_enter Try.func3, Try.ntmps3
    go_wp2
    go_ret
    exact ⟨rfl, Below.refl _ _⟩
  go_enter Try.func3, Try.ntmps3
  go_wp2_with fail
  refine (DrawSchemeLines_any _ _ _ _ _ h (by omega)).mono ?_
  rintro e w1 ⟨A1, m, c1, s, rfl, hm, hO1, hin, hb1⟩
  have i1 := NSl.of_own hO1 hin
  have HSL := Lib.hid hO1.len
  clear hO1 hin
  go_wp2_with fail
  refine (iSchemeLines_any _ _ _ s _ i1).mono ?_
  rintro e w2 ⟨A2, n2, c2, rfl, hL2, hb2⟩
  have i2 := (i1.below hb2).more hb2.size
  have l2 := LSl.of_lines hL2
  have hT2 := Below.step hb1 hb2
  clear hL2 hb1 hb2 i1
  go_wp2_with fail
  refine (sSchemeLines_any _ _ _ s _ i2).mono ?_
  rintro e w3 ⟨A3, n3, c3, rfl, hL3, hb3⟩
  have l3 := (l2.below hb3).more hb3.size
  have k3 := LSl.of_lines hL3
  have hT3 := Below.step hT2 hb3
  have i3 := (i2.below hb3).more hb3.size
  have hl : (lines s).length = n2 := by have := l3.len; simpa using this
  have hn144 : n2 ≤ 144 := by rw [← hl]; exact lines_len s
  clear hL3 hb3 i2 l2 hT2
  go_wp2_with fail
  refine (sameLines_same _ _ _ _ _ _ _ _ l3 k3 (by omega)).mono ?_
  rintro e w4 ⟨rfl, hb4⟩
  have l4 := (l3.below hb4).more hb4.size
  have k4 := (k3.below hb4).more hb4.size
  have hT4 := Below.step hT3 hb4
  have hT4s := hT4.size
  have i4 := (i3.below hb4).more hb4.size
  clear l3 k3 i3 hb4 hT3
  by_cases h0 : n2 = 0
  · subst h0
    go_wp2_with fail
    refine (sameLines_same _ _ _ _ _ _ _ _ l4 k4 (by omega)).mono ?_
    rintro e w5 ⟨rfl, hb5⟩
    have HO := Lib.hid (Below.step hT4 hb5)
    clear hb5 hT4 l4 k4
    go_wp2
    go_ret
    exact ⟨rfl, HO.out⟩
  have g0 : ((n2 : Int) == 0) = false := by simp; omega
  have hok : sOk s = true := by
    rcases hv : sOk s with _ | _
    · unfold lines at hl; rw [hv] at hl; simp at hl; omega
    · rfl
  have HOK := Lib.hid hok
  clear hok k4
  by_cases hbig30 : 30 < n2
  · go_wp2_with fail
    refine (linksOf_any _ _ _ (lines s) _ l4 (by omega)).mono ?_
    rintro e w5 ⟨A5, c5, rfl, hX5, hb5⟩
    rw [show min 30 n2 = 30 by omega]
    have HO := Lib.hid (Below.step hT4 hb5)
    clear hX5 hb5 hT4 l4 i4
    go_wp2
    go_ret
    exact ⟨rfl, HO.out⟩
  have hTe : min 30 n2 = n2 := by omega
  have HIN := Lib.hid (linksOf_inL HOK.out)
  have hlk := linksOf_ok HOK.out
  rw [HSL.out] at hlk
  have hfr := fitR_yes hlk (aboveL_is (in_of_ok hlk rfl) (linksOf_fit HOK.out))
  have HX1 : Hid ((fitR (m : Int) (Mt.linksOf (lines s))).getD [] = aboveL m (Mt.linksOf (lines s)) (fun i => (gN s i).e)) := by show _ = _; rw [hfr]; rfl
  have HX2 : Hid ((fitR (m : Int) (Mt.linksOf (lines s))).isSome = true) := by show _ = _; rw [hfr]; rfl
  have HJR := Lib.hid (joinedR_yes hlk)
  have HAI := Lib.hid (aboveL_in HOK.out HSL.out (Mt.linksOf (lines s)))
  clear hlk hfr
  go_wp2_with fail
  refine (linksOf_any _ _ _ (lines s) _ l4 (by omega)).mono ?_
  rintro e w5 ⟨A5, c5, rfl, hX5, hb5⟩
  rw [hTe] at hX5 ⊢
  have x5 := LSl.of_own hX5 HIN.out
  have i5 := (i4.below hb5).more hb5.size
  have l5 := (l4.below hb5).more hb5.size
  have hT5 := Below.step hT4 hb5
  clear hX5 hb5 hT4 l4 i4
  go_wp2_with fail
  refine (iLinksFit_x (m : Int) _ _ _ _ _ true _ x5 (by omega) HX1.out HX2.out).mono ?_
  rintro e w6 ⟨A6, m6, c6, rfl, hF6, hb6⟩
  have f6 := ISl.of_own hF6 HAI.out
  have i6 := (i5.below hb6).more hb6.size
  have l6 := (l5.below hb6).more hb6.size
  have hT6 := Below.step hT5 hb6
  obtain rfl : m6 = m := by have := f6.len; simp [aboveL] at this; omega
  clear hF6 hb6 hT5 l5 i5 x5
  go_wp2_with fail
  refine (linksOf_any _ _ _ (lines s) _ l6 (by omega)).mono ?_
  rintro e w7 ⟨A7, c7, rfl, hX7, hb7⟩
  rw [hTe] at hX7 ⊢
  have x7 := LSl.of_own hX7 HIN.out
  have i7 := (i6.below hb7).more hb7.size
  have f7 := (f6.below hb7).more hb7.size
  have hT7 := Below.step hT6 hb7
  clear hX7 hb7 hT6 l6 i6 f6
  go_wp2_with fail
  refine (iLinksJoined_any _ _ _ _ _ _ x7 (by omega)).mono ?_
  rintro e w8 ⟨A8, m8, c8, rfl, hJ8, hb8⟩
  rw [HJR.out] at hJ8
  have j8 := ISl.of_own hJ8 (fun z hz => joinedR_in (m6 : Int) (Mt.linksOf (lines s)) z (by rw [HJR.out]; exact hz))
  have i8 := (i7.below hb8).more hb8.size
  have f8 := (f7.below hb8).more hb8.size
  have hT8 := Below.step hT7 hb8
  obtain rfl : m8 = m6 := by have := j8.len; rw [joinL_len] at this; exact this.symm
  clear hJ8 hb8 hT7 i7 f7 x7
  generalize Mt.linksOf (lines s) = ls at *
  go_wp2
  go_loopw [9] (fun i wr => ∃ k : Nat, k ≤ m8 ∧ i = .int .i64 k ∧ Below w8.heap.size w8 wr) (fun i _ => m8 - (intOf i).toNat)
  case atStart => exact ⟨0, Nat.zero_le _, rfl, Below.refl _ _⟩
  case round =>
    obtain ⟨k, hk, rfl, hb⟩ := hrel
    by_cases hlt : k < m8
    · obtain ⟨b, off, rfl, hbB, _, hc⟩ := f8.at_ hlt
      obtain ⟨b2, off2, rfl, hbB2, _, hc2⟩ := i8.at_ hlt
      obtain ⟨b3, off3, rfl, hbB3, _, hc3⟩ := j8.at_ hlt
      have p1 := (bcell hb _ _ hbB).trans (hc k hlt)
      rw [aboveL_at hlt] at p1
      unfold above at p1
      dsimp only at p1
      have p3 := (bcell hb _ _ hbB3).trans (hc3 k hlt)
      rw [joinL_at _ hlt] at p3
      have hle := (joinF_is ls).le k
      obtain ⟨J, hJ⟩ : ∃ J, joinF ls k = J := ⟨_, rfl⟩
      rw [hJ] at p1 p3 hle
      have p2 := (bcell hb _ _ hbB2).trans (hc2 k hlt).1
      have p4 := (bcell hb _ _ hbB2).trans (hc2 J (by omega)).1
      have h1 := sOk_at HOK.out (i := k) (by rw [HSL.out]; exact hlt)
      have h2 := sOk_at HOK.out (i := J) (by rw [HSL.out]; omega)
      unfold nOk at h1 h2
      obtain ⟨X, hX⟩ : ∃ X, (gN s k).e = X := ⟨_, rfl⟩
      obtain ⟨Y, hY⟩ : ∃ X, (gN s J).e = X := ⟨_, rfl⟩
      rw [hX] at p1 p2 h1
      rw [hY] at p1 p4 h2
      have hxb : 0 ≤ X ∧ X ≤ 200000 ∧ 0 ≤ Y ∧ Y ≤ 200000 := by omega
      obtain ⟨x1, x2, x3, x4⟩ := hxb
      have u1 : IntKind.i64.wrap (X - Y) = X - Y := IntWalk.i64_in _ (by omega)
      have hkI : (k : Int) < (m8 : Int) := by omega
      have hJI : (J : Int) < (m8 : Int) := by omega
      have hJm : J < m8 := by omega
      clear hc hc2 hc3 hX hY hJ h1 h2
      go_wp2
      go_quiet (fail)
      go_wp2
      go_roundw
      case rel => exact ⟨k + 1, by omega, by go_num, below_drewN hb _⟩
      case measure => simp [intOf]; omega
    · have HO := Lib.hid (Below.step hT8 hb)
      clear hb hT8
      go_wp2
      go_ret
      exact ⟨rfl, HO.out⟩
end Go.Proofs.Ytpkfpegilhadfab
