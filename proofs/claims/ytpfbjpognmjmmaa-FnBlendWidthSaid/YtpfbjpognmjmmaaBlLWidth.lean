/- The walk of the law FnBlendWidth. -/
import Derived.Test.YtpfbjpognmjmmaaBlDraw
set_option linter.unusedVariables false
namespace Go.Proofs.Ytpfbjpognmjmmaa
open Go.RowKit Bl

set_option maxHeartbeats 2000000 in
theorem fnBlendWidth_walk (A : Option Addr) (n c : Nat) (bs : List Int) (w : World) (h : BSl w w.heap.size A n c bs) :
    Calls Try.prog 5 #[.slice A n c] w fun e w' => e = .returned (.bool true) ∧ Below w.heap.size w w' := by
  by_cases hbig : 1048576 < n
  · go_enter Try.func5, Try.ntmps5
    go_wp2
    go_ret
    exact ⟨rfl, Below.refl _ _⟩
  go_enter Try.func5, Try.ntmps5
  go_wp2_with fail
  refine (DrawBlendWidth_any _ _ _ _ _ h (by omega)).mono ?_
  rintro e w1 ⟨A1, m, c1, zs, rfl, hD, hb1⟩
  have hm := hD.few
  have i1 := ISl.of_own hD.own hD.ini
  clear hD
  go_wp2_with fail
  refine (iBlendWidth_any _ _ _ _ _ i1 (by omega)).mono ?_
  rintro e w2 ⟨rfl, hb2⟩
  have hT2 := Below.step hb1 hb2
  have i2 := (i1.below hb2).more hb2.size
  clear i1 hb2 hb1
  go_wp2_with fail
  refine (sBlendWidth_any _ _ _ _ _ i2 (by omega)).mono ?_
  rintro e w3 ⟨rfl, hb3⟩
  have hT3 := Below.step hT2 hb3
  have i3 := (i2.below hb3).more hb3.size
  clear i2 hb3 hT2
  have hlen := i3.len
  obtain ⟨V, hV⟩ : ∃ V, blendWidth zs = V := ⟨_, rfl⟩
  rw [hV]
  by_cases hV0 : V ≤ 0
  · clear hV
    go_wp2
    go_ret
    exact ⟨rfl, hT3⟩
  have hok : blOk zs = true := by
    rcases hb : blOk zs with _ | _
    · unfold blendWidth at hV; rw [hb] at hV; simp at hV; omega
    · rfl
  have hVb : bw zs zs.length = V := by unfold blendWidth at hV; rw [if_pos hok] at hV; exact hV
  have hVle : V ≤ 200000 := by rw [← hVb]; exact bw_le hok _ (Nat.le_refl _)
  have hlp : 0 < zs.length := by
    rcases Nat.eq_zero_or_pos zs.length with h0 | h0
    · rw [h0] at hVb; simp [bw] at hVb; omega
    · exact h0
  have H1 : Hid ((if blB zs V = true then ((blR zs V).length : Int) else -1) = 1) := by
    show _ = _
    have hy := blB_yes (zs := zs) (w := V) ⟨hok, by omega, hVle⟩
    rw [hy.1, hy.2, gr_one hlp (Nat.le_refl _) (fun j h1 h2 => by rw [← hVb]; exact bw_ge h1 h2)]; rfl
  obtain ⟨Q, hQ⟩ : ∃ Q, (if blB zs (V - 1) = true then ((blR zs (V - 1)).length : Int) else -1) = Q := ⟨_, rfl⟩
  have hQ1 : 1 < Q := by
    have hy := blB_yes (zs := zs) (w := V - 1) ⟨hok, by omega, by omega⟩
    obtain ⟨j, j1, j2, j3⟩ := bw_met (zs := zs) (k := zs.length) (by omega)
    have := gr_two (zs := zs) (w := V - 1) j1 j2 (by omega)
    rw [hy.1, hy.2] at hQ; simp at hQ; omega
  have HQ := Lib.hid hQ
  clear hQ hVb hV hok hlp hlen
  go_wp2_with fail
  refine (iBlendsMany_any _ _ _ _ V _ i3 (by omega)).mono ?_
  rintro e w4 ⟨rfl, hb4⟩
  rw [H1.out]
  have hT4 := Below.step hT3 hb4
  have i4 := (i3.below hb4).more hb4.size
  clear i3 hb4
  go_wp2_with fail
  refine (iBlendsMany_any _ _ _ _ (V - 1) _ i4 (by omega)).mono ?_
  rintro e w5 ⟨rfl, hb5⟩
  rw [HQ.out]
  have hT5 := Below.step hT4 hb5
  go_wp2
  go_ret
  exact ⟨rfl, hT5⟩
end Go.Proofs.Ytpfbjpognmjmmaa
