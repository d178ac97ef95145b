/- The contract of the reference's draw for least tolerances. -/
import Derived.Test.YtnlnelfncejcfaaLkDraw2
import Derived.Deep.RegionLaw
set_option linter.unusedVariables false
namespace Go.Proofs.Ytnlnelfncejcfaa
open Go.RowKit Lk

theorem cells0 {w : World} {base g n c : Nat} {E : TypeId} {ls : List Link} (h : LOwn w base E (.slice (some ⟨g, 0, none⟩) n c) n ls) (hn : 0 < n) :
    w.cell? ⟨g, 0, none⟩ = some (.int .i64 (gL ls 0).f) ∧ w.cell? ⟨g, 1, none⟩ = some (.int .i64 (gL ls 0).t) ∧ w.cell? ⟨g, 2, none⟩ = some (.int .i64 (gL ls 0).d) := by
  obtain ⟨d1, d2, d3⟩ := h.cells hn
  rw [Nat.zero_mul] at d1 d2 d3
  rw [Nat.zero_add] at d2 d3
  exact ⟨d1, d2, d3⟩
set_option maxHeartbeats 8000000 in
theorem DrawLinksLeast_any (A : Option Addr) (n c : Nat) (bs : List Int) (w : World) (h : BSl w w.heap.size A n c bs) (hn : n ≤ 16777216) :
    Calls Try.prog 4 #[.slice A n c] w (DrawnL w) := by
  obtain ⟨i1, hi1, hy0, hy1, hy2⟩ := info_parts link_info
  go_enter Try.func4, Try.ntmps4
  go_wp2_with fail
  refine (l6Open_any _ _ _ _ _ h hn).mono ?_
  rintro e w1 ⟨rfl, hR1, hs1, hb1⟩
  go_wp2_with fail
  refine (l93Links_any _ _ _ hR1 (by omega)).mono ?_
  rintro e w2 ⟨many, A2, m, c2, ls, p2, rfl, h1, h2, h3, hL, hsz, hp2, hR2, hG2⟩
  have hgl : w.heap.size < w1.heap.size := by omega
  have HSZ := Lib.hid hsz
  clear hsz hs1
  by_cases hm1 : 1 < many
  · have hm1I : (1 : Int) < (many : Int) := by omega
    by_cases hm0 : 0 < m
    · have hm0I : (0 : Int) < (m : Int) := by omega
      obtain ⟨gb, rfl, hgb1, hgb2⟩ := hL.at_ hm0
      go_wp2_with fail
      refine (pick_any _ _ _ _ hR2 (by omega)).mono ?_
      rintro e w3 ⟨y, rfl, hy, hR3, hG3⟩
      have hL3 := hL.keep hG3 hgl
      have hG3' := hG2.trans hG3
      have hs3 := hG3'.size
      clear hL hG2 hG3 hR2 hy
      by_cases y0 : y = 0
      · subst y0
        obtain ⟨d1, d2, d3⟩ := cells0 hL3 hm0
        have hsb := HSZ.out _ (gL_mem (ls := ls) (i := 0) (by rw [hL3.len]; exact hm0))
        unfold Sz at hsb
        have HC : Hid (∀ {W' : World}, LOwn W' w1.heap.size 28 (.slice (some ⟨gb, 0, none⟩) m c2) m ls → W'.cell? ⟨gb, 0, none⟩ = some (.int .i64 (gL ls 0).f) ∧ W'.cell? ⟨gb, 1, none⟩ = some (.int .i64 (gL ls 0).t) ∧ W'.cell? ⟨gb, 2, none⟩ = some (.int .i64 (gL ls 0).d)) := fun h => cells0 h hm0
        generalize gL ls 0 = l0 at d1 d2 d3 hsb HC
        obtain ⟨F, hF⟩ : ∃ F, l0.f = F := ⟨_, rfl⟩
        obtain ⟨T, hT⟩ : ∃ F, l0.t = F := ⟨_, rfl⟩
        obtain ⟨D, hD⟩ : ∃ F, l0.d = F := ⟨_, rfl⟩
        rw [hF] at d1 hsb HC
        rw [hT] at d2 hsb HC
        rw [hD] at d3 hsb HC
        clear hF hT hD
        have HK : Hid (∀ W', w3.drew.grownBy W' (some w.heap.size) → LOwn W' w1.heap.size 28 (.slice (some ⟨gb, 0, none⟩) m c2) m ls ∧ w1.grownBy W' (some w.heap.size) ∧ gb < W'.heap.size) := fun W' hg' =>
          have q := LOwn.keep (w := w3.drew) (hL3.drewN 1) hg' hgl
          ⟨q, (grown_drew hG3').trans hg', (q.at_ hm0).elim fun g hg => by injection hg.1 with e; injection e with e; omega⟩
        have hgbne : gb ≠ w.heap.size := by omega
        have hgb3 : gb < w3.heap.size := by obtain ⟨g', e, _, q⟩ := hL3.at_ hm0; injection e with e; injection e with e; omega
        have u1 : IntKind.i64.wrap (D + 1) = D + 1 := IntWalk.i64_in _ (by omega)
        clear hL3
        go_wp2
        go_region_law (first
          | ((refine step_append_lies _ (by rfl) _ _ _ (by rfl) w1.heap.size 28 i1 _ 3 24 Try.underlying23 hi1 hy0 hy1 hy2 rfl (by omega) (.slice (some ⟨gb, 0, none⟩) m c2) m xs (by rfl) (hxo.alloc _)
                ⟨w4.heap.size, 0, none⟩ 1 1 [.int .i64 F, .int .i64 T, .int .i64 X] (by rfl) (by rfl) (cell_three_new w4 _ _ _ _) (by simp [Value.oneCell'])
                (by omega) (by unfold maxLen; omega) (by omega) (by simp; omega) (w4.heap.size + 1) (by simp) ?_); intro gg cap w5 hown5 hgrow hat hlt5)
          | (go_simp; go_at_call 9; ((with_reducible refine (pick_any _ _ _ _ (rd_drew hR3) (by omega)).mono ?_); rintro e w4 ⟨z, rfl, hz, hR4, hG4⟩; obtain ⟨hL4, hG4', hgb4⟩ := HK.out _ hG4; obtain ⟨xs, hxo, hxx⟩ := hL4.row; obtain ⟨x1, x2, x3⟩ := HC.out hL4; have hzb := hz.1 (by omega); have u2 : IntKind.i64.wrap (D + 1 + z) = D + 1 + z := IntWalk.i64_in _ (by omega); obtain ⟨X, hif, hX1, hX2⟩ : ∃ X, (if D + 1 + z < 200000 then D + 1 + z else 200000) = X ∧ -300000 ≤ X ∧ X ≤ 200000 := ⟨_, rfl, by split <;> omega, by split <;> omega⟩)))
        all_goals
          go_wp2
          go_ret2
          have hb5 : Below w1.heap.size w4 w5 := ((Below.refl _ _).alloc hG4'.size _).grown (w' := w5) hgrow (by have := hG4'.size; simp; omega) (fun q hq => (hxo.lt q hq).1)
          exact ⟨many, _, m + 1, cap, _, rfl, ⟨h1, h2, by omega, (LOwn.snoc (l := ⟨F, T, X⟩) hxx hL4.len hxo.1 hown5).base_ (by omega), sz_snoc HSZ.out (by unfold Sz; dsimp only; omega)⟩, hb1.trans (below_of_grown (grown_below hG4' hb5) (Nat.le_refl _) (by omega))⟩
      · have y0' : (y == 0) = false := by simpa using y0
        clear y0
        go_wp2
        go_ret2
        exact ⟨many, _, m, c2, ls, rfl, ⟨h1, h2, by omega, hL3.base_ (by omega), HSZ.out⟩, hb1.trans (below_of_grown hG3' (Nat.le_refl _) (by omega))⟩
    · obtain rfl : m = 0 := by omega
      go_wp2
      go_ret2
      exact ⟨many, A2, 0, c2, ls, rfl, ⟨h1, h2, by omega, hL.base_ (by omega), HSZ.out⟩, hb1.trans (below_of_grown hG2 (Nat.le_refl _) (by omega))⟩
  · have hm1I : decide ((1 : Int) < (many : Int)) = false := by simp; omega
    go_wp2
    go_ret2
    exact ⟨many, A2, m, c2, ls, rfl, ⟨h1, h2, by omega, hL.base_ (by omega), HSZ.out⟩, hb1.trans (below_of_grown hG2 (Nat.le_refl _) (by omega))⟩
end Go.Proofs.Ytnlnelfncejcfaa
