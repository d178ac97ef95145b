/- The walk of the law FnBlendsAgain. -/
import Derived.Test.YtpfbjpognmjmmaaBlDraw
set_option linter.unusedVariables false
namespace Go.Proofs.Ytpfbjpognmjmmaa
open Go.RowKit Bl

/-- a slice of one slice, made anew -/
theorem GSl.one {w : World} {B m ci : Nat} {Ai : Option Addr} {g : List Int} (h : ISl w B Ai m ci g) (hB : B ≤ w.heap.size) (T : TypeId) : GSl (w.alloc (.cells #[.slice Ai m ci] T)) (w.alloc (.cells #[.slice Ai m ci] T)).heap.size (some ⟨w.heap.size, 0, none⟩) 1 1 [g] := by
  have hl := h.len
  refine ⟨rfl, Nat.le_refl _, fun _ => ⟨w.heap.size, 0, rfl, by simp, fun i hi => ?_⟩⟩
  obtain rfl : i = 0 := by omega
  have e : gG [g] 0 = g := rfl
  rw [e, hl]
  exact ⟨Ai, ci, (cell_of_row _ _ _ _ _ _ (heap_alloc_new w _)).trans rfl, (h.alloc hB _).more (by simp; omega)⟩
theorem blR_again {zs : List Int} {wd : Int} (h : blB zs wd = true) {g : List Int} (hg : g ∈ blR zs wd) : blB g wd = true ∧ blR g wd = [g] := by
  obtain ⟨⟨h1, h2, h3⟩, h4⟩ := blB_parts h
  rw [h4] at hg
  have hG := (gr_grp zs wd zs.length).1
  obtain ⟨a, ha, hp⟩ := hG.part g hg
  obtain ⟨hn, hnear⟩ := hG.near g hg
  have hok := blOk_part h1 ha hp
  have hy := blB_yes (zs := g) (w := wd) ⟨hok, h2, h3⟩
  refine ⟨hy.1, ?_⟩
  rw [hy.2, gr_one hn (Nat.le_refl _) hnear, List.take_length]

set_option maxRecDepth 100000 in
set_option maxHeartbeats 4000000 in
theorem fnBlendsAgain_walk (A : Option Addr) (n c : Nat) (bs : List Int) (w : World) (h : BSl w w.heap.size A n c bs) :
    Calls Try.prog 9 #[.slice A n c] w fun e w' => e = .returned (.bool true) ∧ Below w.heap.size w w' := by
  by_cases hbig : 1048576 < n
  · go_enter Try.func9, Try.ntmps9
    go_wp2
    go_ret
    exact ⟨rfl, Below.refl _ _⟩
  go_enter Try.func9, Try.ntmps9
  go_wp2_with fail
  refine (DrawBlendsOf_any _ _ _ _ _ h (by omega)).mono ?_
  rintro e w1 ⟨A1, m, c1, zs, wd, rfl, hD, hwd, hb1⟩
  have hm := hD.few
  have i1 := ISl.of_own hD.own hD.ini
  clear hD
  go_wp2_with fail
  refine (iBlendsOf_any _ _ _ _ wd _ i1 (by omega)).mono ?_
  rintro e w2 ⟨A2, m2, c2, rfl, hO2, hb2⟩
  have hT2 := Below.step hb1 hb2
  have i2 := (i1.below hb2).more hb2.size
  have hl2 : (blR zs wd).length = m2 := by obtain ⟨S, hS⟩ := hO2; exact hS.len
  have hl40 := blR_len zs wd
  have hm40 : m2 ≤ 40 := by omega
  clear i1 hb2 hb1
  go_wp2_with fail
  refine (sBlendsOf_any _ _ _ _ wd _ i2 (by omega)).mono ?_
  rintro e w3 ⟨A3, m3, c3, rfl, hO3, hb3⟩
  have hT3 := Below.step hT2 hb3
  have g3 := GSl.of_own (hO2.below hb3) (blR_in zs wd)
  have r3 := GSl.of_own hO3 (blR_in zs wd)
  clear i2 hb3 hT2 hO2 hO3
  rcases hok : blB zs wd with _ | _
  · go_wp2_with fail
    refine (sameGroups_same _ _ _ _ _ _ _ _ g3 r3 (by omega) (blR_small zs wd)).mono ?_
    rintro e w4 ⟨rfl, hb4⟩
    have hT4 := Below.step hT3 hb4
    have g4 := (g3.below hb4).more hb4.size
    have r4 := (r3.below hb4).more hb4.size
    clear g3 r3 hb4
    go_wp2_with fail
    refine (sameGroups_same _ _ _ _ _ _ _ _ g4 r4 (by omega) (blR_small zs wd)).mono ?_
    rintro e w5 ⟨rfl, hb5⟩
    have hT5 := Below.step hT4 hb5
    go_wp2
    go_ret
    exact ⟨rfl, hT5⟩
  have HAG : Hid (∀ i, i < m2 → blB (gG (blR zs wd) i) wd = true ∧ blR (gG (blR zs wd) i) wd = [gG (blR zs wd) i]) := fun i hi => blR_again hok (gG_mem (by rw [hl2]; exact hi))
  have HIN : Hid (∀ i, i < m2 → (gG (blR zs wd) i).length ≤ 100 ∧ ∀ z ∈ gG (blR zs wd) i, InI z) := fun i hi => ⟨blR_small zs wd _ (gG_mem (by rw [hl2]; exact hi)), blR_in zs wd _ (gG_mem (by rw [hl2]; exact hi))⟩
  have HSM := Lib.hid (blR_small zs wd)
  obtain ⟨G, hGe⟩ : ∃ G, blR zs wd = G := ⟨_, rfl⟩
  rw [hGe] at g3 r3 hl2 HAG HIN HSM
  clear hGe hok
  go_wp2_with fail
  refine (sameGroups_same _ _ _ _ _ _ _ _ g3 r3 (by omega) HSM.out).mono ?_
  rintro e w4 ⟨rfl, hb4⟩
  have hT4 := Below.step hT3 hb4
  have g4 := (g3.below hb4).more hb4.size
  clear g3 r3 hb4 hT3
  go_wp2
  go_loopw [9] (fun i wr => ∃ k : Nat, k ≤ m2 ∧ i = .int .i64 k ∧ Below w4.heap.size w4 wr) (fun i _ => m2 - (intOf i).toNat)
  case atStart => exact ⟨0, Nat.zero_le _, rfl, Below.refl _ _⟩
  case round =>
    obtain ⟨k, hk, rfl, hb⟩ := hrel
    by_cases hlt : k < m2
    · obtain ⟨b, off, rfl, hbB, hc⟩ := g4.at_ hlt
      obtain ⟨Ai, ci, q1, q2⟩ := hc k hlt
      have p1 := (bcell hb _ _ hbB).trans q1
      have p2 := (q2.below hb).more hb.size
      have hag := HAG.out k hlt
      have hgl := (HIN.out k hlt).1
      obtain ⟨g, hg⟩ : ∃ g, gG G k = g := ⟨_, rfl⟩
      rw [hg] at p1 p2 hag hgl
      obtain ⟨gl, hgle⟩ : ∃ gl, g.length = gl := ⟨_, rfl⟩
      rw [hgle] at p1 p2 hgl
      have H1 := Lib.hid hag.1
      have H2 := Lib.hid hag.2
      have HGL := Lib.hid hgle
      have HGI : Hid (∀ z ∈ g, InI z) := by rw [← hg]; exact (HIN.out k hlt).2
      clear q1 q2 hc hag hg hgle
      go_wp2_with fail
      refine (iBlendsOf_any _ _ _ _ wd _ p2 (by omega)).mono ?_
      rintro e w6 ⟨A6, m6, c6, rfl, hG6, hb6⟩
      rw [H1.out]
      rw [H2.out] at hG6
      have hm6 : m6 = 1 := by obtain ⟨S, hS⟩ := hG6; exact hS.len.symm
      subst hm6
      have HXI : Hid (∀ g' ∈ [g], ∀ z ∈ g', InI z) := fun g' hg' z hz => by
        have : g' = g := by simpa using hg'
        rw [this] at hz; exact HGI.out z hz
      have x6 := GSl.of_own hG6 HXI.out
      have hb6' := hb.trans (hb6.mono hb.size)
      have p6 := (bcell (hb6.mono hb.size) _ _ hbB).trans p1
      have p26 := p2.below hb6
      have y6 := GSl.one p26 hb6.size 22
      have hba : Below w6.heap.size w6 (w6.alloc (.cells #[.slice Ai gl ci] 22)) := (Below.refl _ _).alloc (Nat.le_refl _) _
      have x7 := (x6.below hba).more hba.size
      have hb7 := hb6'.trans (hba.mono hb6'.size)
      have HL1 : Hid (∀ g' ∈ [g], g'.length ≤ 100) := fun g' hg' => by
        have : g' = g := by simpa using hg'
        rw [this, HGL.out]; exact hgl
      clear hG6 x6 p2 p26 hba
      go_wp2_with fail
      refine (sameGroups_same _ _ _ _ _ _ _ _ x7 y6 (by omega) HL1.out).mono ?_
      rintro e w8 ⟨rfl, hb8⟩
      have hb9 := hb7.trans (hb8.mono hb7.size)
      clear x7 y6 hb8
      go_wp2
      go_roundw
      case rel => exact ⟨k + 1, by omega, by go_num, hb9⟩
      case measure => simp [intOf]; omega
    · go_wp2
      go_ret
      exact ⟨rfl, hT4.trans (hb.mono hT4.size)⟩

end Go.Proofs.Ytpfbjpognmjmmaa
