/- The contract of the reference's BlendsOf and BlendsMany. -/
import Derived.Test.YtpfbjpognmjmmaaBlBase
import Derived.Test.YtpfbjpognmjmmaaBlWalks
import Derived.Test.YtpfbjpognmjmmaaDraw
import Derived.Deep.AppendLies
import Derived.Deep.RegionLaw
set_option linter.unusedVariables false
namespace Go.Proofs.Ytpfbjpognmjmmaa
open Go.RowKit Bl

theorem ints_info : (Try.prog.info? 22).map (fun i => (i.zero, i.size, i.bytes)) = some (some (.slice none 0 0), 1, 24) := by kernel_rfl

/-- the groups that BlendsOf returns -/
def blR (zs : List Int) (w : Int) : List (List Int) := (blends zs w).getD []
def blB (zs : List Int) (w : Int) : Bool := (blends zs w).isSome
theorem blB_no {zs : List Int} {w : Int} (h : ¬ (blOk zs = true ∧ 0 ≤ w ∧ w ≤ 200000)) : blB zs w = false ∧ blR zs w = [] := by
  unfold blB blR blends; rw [if_neg h]; exact ⟨rfl, rfl⟩
theorem blB_yes {zs : List Int} {w : Int} (h : blOk zs = true ∧ 0 ≤ w ∧ w ≤ 200000) : blB zs w = true ∧ blR zs w = gr zs w zs.length := by
  unfold blB blR blends; rw [if_pos h]; exact ⟨rfl, rfl⟩
theorem blB_parts {zs : List Int} {w : Int} (h : blB zs w = true) : (blOk zs = true ∧ 0 ≤ w ∧ w ≤ 200000) ∧ blR zs w = gr zs w zs.length := by
  by_cases c : blOk zs = true ∧ 0 ≤ w ∧ w ≤ 200000
  · exact ⟨c, (blB_yes c).2⟩
  · rw [(blB_no c).1] at h; cases h
theorem grp_len {zs : List Int} {w : Int} {k : Nat} : ∀ g ∈ gr zs w k, g.length ≤ k := fun g hg => by
  obtain ⟨a, h1, _⟩ := (gr_grp zs w k).1.part g hg
  omega
theorem blR_len (zs : List Int) (w : Int) : (blR zs w).length ≤ 40 := by
  by_cases c : blOk zs = true ∧ 0 ≤ w ∧ w ≤ 200000
  · rw [(blB_yes c).2]; exact Nat.le_trans (gr_len_le _ _ _) (blOk_len c.1)
  · rw [(blB_no c).2]; simp
theorem blR_small (zs : List Int) (w : Int) : ∀ g ∈ blR zs w, g.length ≤ 100 := by
  by_cases c : blOk zs = true ∧ 0 ≤ w ∧ w ≤ 200000
  · rw [(blB_yes c).2]; intro g hg; have := grp_len g hg; have := blOk_len c.1; omega
  · rw [(blB_no c).2]; intro g hg; cases hg
theorem blR_in (zs : List Int) (w : Int) : ∀ g ∈ blR zs w, ∀ z ∈ g, InI z := by
  by_cases c : blOk zs = true ∧ 0 ≤ w ∧ w ≤ 200000
  · rw [(blB_yes c).2]
    intro g hg z hz
    obtain ⟨a, h1, h2⟩ := (gr_grp zs w zs.length).1.part g hg
    obtain ⟨j, hj, rfl⟩ := List.mem_iff_getElem.1 hz
    have e := h2 j hj
    rw [gI_lt hj] at e
    have := blOk_at c.1 (i := a + j) (by omega)
    unfold okAt at this
    rw [← e] at this
    unfold InI; omega
  · rw [(blB_no c).2]; intro g hg; cases hg

def GroupsRes (zs : List Int) (wd : Int) (w : World) (e : Ending) (w' : World) : Prop :=
  ∃ A n c, e = .returned (.tuple #[.slice A n c, .bool (blB zs wd)]) ∧ GOwn w' w.heap.size (.slice A n c) n (blR zs wd) ∧ Below w.heap.size w w'
theorem groupsRes_no {zs : List Int} {wd : Int} {w w' : World} {e : Ending} {A : Option Addr} {c : Nat} (h : ¬ (blOk zs = true ∧ 0 ≤ wd ∧ wd ≤ 200000)) (he : e = .returned (.tuple #[.slice A 0 c, .bool false])) (ho : GOwn w' w.heap.size (.slice A 0 c) 0 []) (hb : Below w.heap.size w w') : GroupsRes zs wd w e w' :=
  ⟨A, 0, c, by rw [(blB_no h).1]; exact he, by rw [(blB_no h).2]; exact ho, hb⟩
theorem groupsRes_yes {zs : List Int} {wd : Int} {w w' : World} {e : Ending} {A : Option Addr} {n c : Nat} (h : blOk zs = true ∧ 0 ≤ wd ∧ wd ≤ 200000) (he : e = .returned (.tuple #[.slice A n c, .bool true])) (ho : GOwn w' w.heap.size (.slice A n c) n (gr zs wd zs.length)) (hb : Below w.heap.size w w') : GroupsRes zs wd w e w' :=
  ⟨A, n, c, by rw [(blB_yes h).1]; exact he, by rw [(blB_yes h).2]; exact ho, hb⟩

section
variable {W W2 w5 : World} {base m : Nat} {v v' u : Value} {S : Nat → Value} {G : List (List Int)} {g : List Int} {xs : List Value}
/-- a group more -/
theorem GRow.push (h : GRow W base S v m G) (hxl : xs.length = m * 1) (hxx : ∀ i j, i < m → j < 1 → xs[i * 1 + j]? = some (S i)) (hb : Below W.heap.size W W2) (hbase : base ≤ W.heap.size)
    (hu : W2.ownsRow W.heap.size 3 1 u g.length (g.map (Value.int .i64))) (hg : W2.grownBy w5 v.ownBlock) (ho : w5.ownsRow base 22 1 v' (m + 1) (xs ++ [u])) :
    GRow w5 base (fun i => if i = m then u else S i) v' (m + 1) (G ++ [g]) := by
  obtain ⟨ys, hy, _⟩ := h.row
  have hy2 := own_below hy hb
  have hn1 : ∀ j, j < 1 → [u][j]? = some ((fun _ => u) j) := fun j hj => by
    obtain rfl : j = 0 := by omega
    rfl
  refine ⟨by simp [h.len], (OwnR.snoc (R := fun i _ => S i) hxx (T := fun _ => u) hxl hn1 ho).congr (fun i j hi hj => by unfold snocR; rfl), fun i hi => ?_, fun i j k hi hj hne hk => ?_⟩
  · by_cases e : i = m
    · subst e
      rw [if_pos rfl, show gG (G ++ [g]) i = g by rw [← h.len]; exact gG_snoc]
      exact (own_base hu hbase).kept hg (own_ne' hu hy2 (by decide))
    · have hi' : i < m := by omega
      rw [if_neg e, gG_snoc_lt (by rw [h.len]; exact hi')]
      have h2 := own_below (h.inn i hi') hb
      exact h2.kept hg (own_ne' h2 hy2 (by decide))
  · have lt1 : ∀ i k, i < m → (S i).ownBlock = some k → k < W.heap.size := fun i k hi hk => ((h.inn i hi).lt k hk).2
    have lt2 : ∀ k, u.ownBlock = some k → W.heap.size ≤ k := fun k hk => (hu.lt k hk).1
    by_cases e1 : i = m
    · have hj' : ¬ j = m := by omega
      rw [if_pos e1] at hk
      rw [if_neg hj']
      intro hk2
      have := lt1 j k (by omega) hk2
      have := lt2 k hk
      omega
    · rw [if_neg e1] at hk
      by_cases e2 : j = m
      · rw [if_pos e2]
        intro hk2
        have := lt1 i k (by omega) hk
        have := lt2 k hk2
        omega
      · rw [if_neg e2]; exact h.apart i j k (by omega) (by omega) hne hk
/-- one of the groups in other memory -/
theorem GRow.swap {go c gg cap : Nat} (h : GRow W base S (.slice (some ⟨go, 0, none⟩) m c) m G) {i : Nat} (hi : i < m) (hb : Below W.heap.size W W2) (hg : W2.grownBy w5 (S i).ownBlock)
    (ho : w5.ownsRow base 3 1 (.slice (some ⟨gg, 0, none⟩) g.length cap) g.length (g.map (Value.int .i64))) (hat : (S i).ownBlock = some gg ∨ W.heap.size ≤ gg) :
    GRow (w5.setCell ⟨go, i, none⟩ (.slice (some ⟨gg, 0, none⟩) g.length cap)) base (fun j => if j = i then .slice (some ⟨gg, 0, none⟩) g.length cap else S j) (.slice (some ⟨go, 0, none⟩) m c) m (G.set i g) := by
  have hr5 : OwnR w5 base 22 1 (.slice (some ⟨go, 0, none⟩) m c) m (fun i _ => S i) := h.row.map fun xs hx => (own_below hx hb).kept hg (own_ne' hx (h.inn i hi) (by decide))
  have hst := hr5.set_ hi (show 0 < 1 by omega) (.slice (some ⟨gg, 0, none⟩) g.length cap)
  rw [Nat.mul_one, Nat.add_zero] at hst
  obtain ⟨ys, hy5, _⟩ := hr5
  refine ⟨by simp [h.len], hst.1.congr (fun a b ha hb => ?_), fun j hj => ?_, fun a b k ha hb hne hk => ?_⟩
  · unfold setR
    obtain rfl : b = 0 := by omega
    by_cases e : a = i
    · subst e; simp
    · simp [e]
  · rw [gG_set (by rw [h.len]; exact hi)]
    by_cases e : j = i
    · subst e
      rw [if_pos rfl, if_pos rfl]
      exact ho.kept hst.2 (own_ne' ho hy5 (by decide))
    · rw [if_neg e, if_neg e]
      have h2 := own_below (h.inn j hj) hb
      have h5 := h2.kept hg (by
        cases ev : (S j).ownBlock with
        | none => exact .inl rfl
        | some k => exact .inr fun he => h.apart j i k hj hi e ev he.symm)
      exact h5.kept hst.2 (own_ne' h5 hy5 (by decide))
  · have key : ∀ j k, j < m → j ≠ i → (S j).ownBlock = some k → k ≠ gg := fun j q hj hne hq he => by
      rw [he] at hq
      rcases hat with hat | hat
      · exact h.apart j i gg hj hi hne hq hat
      · have := ((h.inn j hj).lt gg hq).2; omega
    by_cases e1 : a = i
    · have e2 : ¬ b = i := by omega
      rw [if_pos e1] at hk
      rw [if_neg e2]
      have hk' : gg = k := by simpa [Value.ownBlock] using hk
      intro hk2
      exact key b k hb e2 hk2 hk'.symm
    · rw [if_neg e1] at hk
      by_cases e2 : b = i
      · rw [if_pos e2]
        intro hk2
        have hk' : gg = k := by simpa [Value.ownBlock] using hk2
        exact key a k ha e1 hk hk'.symm
      · rw [if_neg e2]; exact h.apart a b k ha hb hne hk
theorem GRow.swap_below {go c : Nat} {w : World} (h : GRow W base S (.slice (some ⟨go, 0, none⟩) m c) m G) {i : Nat} (hi : i < m) (hb : Below W.heap.size W W2) (hg : W2.grownBy w5 (S i).ownBlock) (hw : Below base w W) (hbase : base ≤ W.heap.size) (x : Value) :
    Below base w (w5.setCell ⟨go, i, none⟩ x) := by
  have h1 : Below base W w5 := (hb.mono hbase).grown hg (Nat.le_trans hbase hb.size) (fun k hk => ((h.inn i hi).lt k hk).1)
  have h2 : base ≤ go := (h.row.lt go rfl).1
  exact (hw.trans h1).setCell (p := ⟨go, i, none⟩) h2 _
end
theorem own_one (w : World) (x : Int) (T : TypeId) : (w.alloc (.cells #[.int .i64 x] T)).ownsRow w.heap.size T 1 (.slice (some ⟨w.heap.size, 0, none⟩) 1 1) [x].length ([x].map (Value.int .i64)) :=
  World.ownsRow_lit w #[.int .i64 x] 1 (Nat.le_refl _) (by unfold maxLen; omega) (by simp)

set_option maxRecDepth 100000 in
set_option maxHeartbeats 4000000 in
theorem sBlendsOf_any (A : Option Addr) (n c : Nat) (zs : List Int) (wd : Int) (w : World) (h : ISl w w.heap.size A n c zs) (hn : n ≤ 16777216) :
    Calls Try.prog 22 #[.slice A n c, .int .i64 wd] w (GroupsRes zs wd w) := by
  have HL := Lib.hid h.len
  obtain ⟨i0, hi, hz0, hz1, hz2⟩ := info_parts int_info
  obtain ⟨i1, hi1, hy0, hy1, hy2⟩ := info_parts ints_info
  have hba : Below w.heap.size w (w.alloc (.cells #[] 22)) := (Below.refl _ _).alloc (Nat.le_refl _) _
  have hO0 := GOwn.lit0 w
  have hA := (h.below hba).more hba.size
  rcases hv : blOk zs with _ | _
  · have HN : Hid (¬ (blOk zs = true ∧ 0 ≤ wd ∧ wd ≤ 200000)) := by show ¬ _; rw [hv]; simp
    go_enter Try.func22, Try.ntmps22
    go_wp2_with fail
    refine (l37Valid_any _ _ _ _ _ hA (by omega)).mono ?_
    rintro e w1 ⟨rfl, hb1⟩
    rw [hv]
    have HO := Lib.hid (hO0.below hb1)
    have HB := Lib.hid (hba.trans (hb1.mono hba.size))
    clear hO0 hb1
    go_wp2
    go_ret2
    exact groupsRes_no HN.out rfl HO.out HB.out
  rcases hin : inB wd 0 200000 with _ | _
  · have HN : Hid (¬ (blOk zs = true ∧ 0 ≤ wd ∧ wd ≤ 200000)) := by have := inB_no hin; show ¬ _; omega
    go_enter Try.func22, Try.ntmps22
    go_wp2_with fail
    refine (l37Valid_any _ _ _ _ _ hA (by omega)).mono ?_
    rintro e w1 ⟨rfl, hb1⟩
    rw [hv]
    have HO := Lib.hid (hO0.below hb1)
    have HB := Lib.hid (hba.trans (hb1.mono hba.size))
    clear hO0 hb1
    go_wp2_with (go_at_call 34; refine (l6In_any _ _ _ _).mono ?_; rintro e w' ⟨rfl, rfl⟩)
    go_ret2
    exact groupsRes_no HN.out rfl HO.out HB.out
  have hwd := inB_yes hin
  have hl2 := blOk_len hv
  rw [HL.out] at hl2
  have HY : Hid (blOk zs = true ∧ 0 ≤ wd ∧ wd ≤ 200000) := ⟨hv, hwd⟩
  have HR : Hid (∀ i, i < zs.length → 0 ≤ gI zs i ∧ gI zs i ≤ 200000) := fun i hi => by have := blOk_at HY.out.1 hi; unfold okAt at this; omega
  go_enter Try.func22, Try.ntmps22
  go_wp2_with fail
  refine (l37Valid_any _ _ _ _ _ hA (by omega)).mono ?_
  rintro e w1 ⟨rfl, hb1⟩
  rw [hv]
  have hO1 := hO0.below hb1
  have hB1 := hba.trans (hb1.mono hba.size)
  clear hO0 hb1 hA hba hv
  go_wp2_with (go_at_call 34; refine (l6In_any _ _ _ _).mono ?_; rintro e w' ⟨rfl, rfl⟩)
  go_loopw [6, 7] (fun v i wr => ∃ (k m : Nat) (S : Nat → Value), k ≤ n ∧ i = .int .i64 k ∧ m ≤ k ∧ (0 < k → 0 < m) ∧ GRow wr w.heap.size S v m (gr zs wd k) ∧ Below w.heap.size w wr) (fun _ i _ => n - (intOf i).toNat)
  case atStart =>
    obtain ⟨S, hS⟩ := hO1
    exact ⟨0, 0, S, Nat.zero_le _, rfl, Nat.le_refl _, fun h => h, by rw [gr_zero]; exact hS, hB1⟩
  case round =>
    obtain ⟨k, m, S, hk, rfl, hmk, hm0, hG, hb⟩ := hrel
    clear hO1 hB1 hin
    obtain ⟨A7, c7, rfl⟩ := hG.form
    by_cases hlt : k < n
    · obtain ⟨b, off, rfl, hbB, hkz, hc⟩ := h.at_ hlt
      have q1 := hc k hlt
      have q2 := hc (k - 1) (by omega)
      have p1 := (bcell hb _ _ hbB).trans q1
      have p2 := (bcell hb _ _ hbB).trans q2
      have r1 := HR.out k hkz
      have r2 := HR.out (k - 1) (by omega)
      have hkI : (k : Int) < (n : Int) := by omega
      clear hc
      rcases hcut : cutB zs wd k with _ | _
      · -- the last blend grows
        obtain ⟨hk0, hd⟩ := cutB_no hcut
        obtain ⟨gs, g, e1, e2⟩ := gr_old hcut
        have hm1 := hm0 hk0
        have hgl : g.length ≤ k := by
          have := grp_len (zs := zs) (w := wd) (k := k) g (by rw [e1]; simp); exact this
        have hml : gs.length + 1 = m := by have := hG.len; rw [e1] at this; simpa using this
        have hgg : gG (gr zs wd k) (m - 1) = g := by rw [e1, ← hml, Nat.add_sub_cancel]; exact gG_snoc
        have hset : Hid ((gr zs wd k).set (m - 1) (g ++ [gI zs k]) = gr zs wd (k + 1)) := by
          show _ = _
          rw [e1, e2, ← hml, Nat.add_sub_cancel, List.set_append_right _ _ (Nat.le_refl _), Nat.sub_self]; rfl
        have hin' := hG.inn (m - 1) (by omega)
        rw [hgg] at hin'
        obtain ⟨Ai, ci, hS⟩ := own_form hin'
        obtain ⟨go, rfl, hgo1, hgo2⟩ := hG.row.at_ (by omega)
        have g0 : ((k : Int) == 0) = false := by simp; omega
        have v1 : IntKind.i64.wrap ((k : Int) - 1) = (k : Int) - 1 := IntWalk.i64_in _ (by omega)
        have v2 : ((k : Int) - 1).toNat = k - 1 := by omega
        have v3 : (0 : Int) ≤ (k : Int) - 1 := by omega
        have v4 : (k : Int) - 1 < (n : Int) := by omega
        have v5 : IntKind.i64.wrap (gI zs k - gI zs (k - 1)) = gI zs k - gI zs (k - 1) := IntWalk.i64_in _ (by omega)
        have v6 : decide (wd < gI zs k - gI zs (k - 1)) = false := by simp; omega
        have v6' : ¬ (wd < gI zs k - gI zs (k - 1)) := by omega
        have HS := Lib.hid hS
        have HGG := Lib.hid hgg
        clear e1 e2 hml hS hgg hcut hm0 hd
        go_wp2
        go_quiet (fail)
        clear v1 v2 v3 v4 v5 v6 v6' g0
        generalize hwq : wr.drewN _ = wq
        have hGq : GRow wq w.heap.size S (.slice (some ⟨go, 0, none⟩) m c7) m (gr zs wd k) := by rw [← hwq]; exact hG.drewN _
        have hbq : Below w.heap.size w wq := by rw [← hwq]; exact below_drewN hb _
        clear hwq hG hb p1 p2 hgo2
        have p1 := (bcell hbq _ _ hbB).trans q1
        have hinq := hGq.inn (m - 1) (by omega)
        rw [HGG.out, HS.out] at hinq
        have hcell : wq.cell? ⟨go, (m - 1) * 1 + 0, none⟩ = some (S (m - 1)) := hGq.row.cell (i := m - 1) (j := 0) (by omega) (by omega)
        rw [Nat.mul_one, Nat.add_zero, HS.out] at hcell
        have hfr := hGq.row.frozen (m - 1)
        have hmI1 : IntKind.i64.wrap ((m : Int) - 1) = (m : Int) - 1 := IntWalk.i64_in _ (by omega)
        have hmI2 : ((m : Int) - 1).toNat = m - 1 := by omega
        have hmI3 : (0 : Int) ≤ (m : Int) - 1 := by omega
        have hmI4 : (m : Int) - 1 < (m : Int) := by omega
        have hmI5 : (1 : Int) ≤ (m : Int) := by omega
        have hgo2 : go < wq.heap.size := (hGq.row.lt go rfl).2
        have hsq := hbq.size
        obtain ⟨ys, hyo, hyx⟩ := hGq.row
        have hne : (Value.slice Ai g.length ci).ownBlock ≠ some go := by
          rcases own_ne' hinq hyo (by decide) with h1 | h1
          · rw [h1]; simp
          · exact h1
        have hyl : ys[(m - 1) * 1 + 0]? = some (S (m - 1)) := hyx (m - 1) 0 (by omega) (by omega)
        rw [Nat.mul_one, Nat.add_zero, HS.out] at hyl
        obtain ⟨gl, hgle⟩ : ∃ gl, g.length = gl := ⟨_, rfl⟩
        have HGL := Lib.hid hgle
        rw [hgle] at hinq hcell hgl hne hyl
        have HIQ := Lib.hid hinq
        have HYL := Lib.hid hyl
        have HYX := Lib.hid hyx
        have hba : Below wq.heap.size wq (wq.alloc (.cells #[.int .i64 (gI zs k)] 3)).drew := below_drew1 ((Below.refl _ _).alloc (Nat.le_refl _) _)
        clear hgle q1 q2 hin' hyl hyx hinq
        go_wp2
        go_region_law
          ((refine step_append_lies _ (by rfl) _ _ _ (by rfl) w.heap.size 3 i0 _ 1 8 Try.underlying22 hi hz0 hz1 hz2 rfl (by omega) (.slice Ai gl ci) gl (g.map (Value.int .i64)) (by rfl) ((HIQ.out.alloc _).drew)
              ⟨wq.heap.size, 0, none⟩ 1 1 [.int .i64 (gI zs k)] (by rfl) (by rfl) (cell_one_new _ _ _) (by simp [Value.oneCell']) (by omega) (by unfold maxLen; omega) (by omega) (by simp; omega) (wq.heap.size + 1) (by simp) ?_)
           intro gg cap w5 hown5 hgrow hat hlt5
           have hy5 := ((hyo.alloc _).drew).kept hgrow (.inr (Ne.symm hne))
           have hc5 := (hy5.cellAt (m - 1) (by omega)).trans HYL.out
           have hf5 := hy5.frozenAt (m - 1))
        all_goals
          have hgrow' : (wq.alloc (.cells #[.int .i64 (gI zs k)] 3)).drew.grownBy w5 (S (m - 1)).ownBlock := by rw [HS.out, HGL.out]; exact hgrow
          have hlen : (g ++ [gI zs k]).length = gl + 1 := by simp [HGL.out]
          rw [ints_snoc] at hown5
          have ho' : w5.ownsRow w.heap.size 3 1 (.slice (some ⟨gg, 0, none⟩) (g ++ [gI zs k]).length cap) (g ++ [gI zs k]).length ((g ++ [gI zs k]).map (Value.int .i64)) := by rw [hlen]; exact hown5
          have hat' : (S (m - 1)).ownBlock = some gg ∨ wq.heap.size ≤ gg := by
            rw [HS.out, HGL.out]
            rcases hat with h1 | h1
            · exact .inl h1
            · exact .inr (by omega)
          have hGn := GRow.swap hGq (i := m - 1) (by omega) hba hgrow' ho' hat'
          rw [hlen, hset.out] at hGn
          have hBn := GRow.swap_below hGq (i := m - 1) (by omega) hba hgrow' hbq hsq (.slice (some ⟨gg, 0, none⟩) (gl + 1) cap)
          have HN := Lib.hid (And.intro hGn hBn)
          clear hGn hBn hown5 ho' hgrow hgrow' hat hat' hy5 hc5 hf5 hGq hbq hlen
          go_wp2
          go_roundw
          case rel => exact ⟨k + 1, m, _, by omega, by go_num, by omega, fun _ => by omega, HN.out.1, HN.out.2⟩
          case measure => simp [intOf]; omega
      · -- a new blend
        have hnew : Hid (gr zs wd (k + 1) = gr zs wd k ++ [[gI zs k]]) := gr_new hcut
        have v1 : IntKind.i64.wrap ((k : Int) - 1) = (k : Int) - 1 := IntWalk.i64_in _ (by omega)
        have v5 : IntKind.i64.wrap (gI zs k - gI zs (k - 1)) = gI zs k - gI zs (k - 1) := IntWalk.i64_in _ (by omega)
        have hor : k = 0 ∨ (0 < k ∧ wd < gI zs k - gI zs (k - 1)) := by
          unfold cutB at hcut; simp at hcut; omega
        clear hcut hm0
        rcases hor with hk0 | ⟨hk0, hd⟩
        · have g0 : ((k : Int) == 0) = true := by simp; omega
          have HK := Lib.hid hk0
          clear hk0 v1 v5
          go_wp2
          go_quiet (fail)
          clear g0
          generalize hwq : wr.drewN _ = wq
          have hGq : GRow wq w.heap.size S (.slice A7 m c7) m (gr zs wd k) := by rw [← hwq]; exact hG.drewN _
          have hbq : Below w.heap.size w wq := by rw [← hwq]; exact below_drewN hb _
          clear hwq hG hb p1 p2
          have p1 := (bcell hbq _ _ hbB).trans q1
          have hsq := hbq.size
          obtain ⟨ys, hyo, hyx⟩ := hGq.row
          have HYX := Lib.hid hyx
          have HYL := Lib.hid hyo.1
          have HYO := Lib.hid hyo
          clear hyx hyo q1 q2
          go_wp2_with (at_builtin; refine wpList_append_own _ rfl _ _ 37 rfl w.heap.size 22 i1 (.slice none 0 0) 1 24 Try.underlying37 hi1 hy0 hy1 hy2 rfl (by decide) _ _ _ rfl ((HYO.out.alloc _).alloc _) ⟨wq.heap.size + 1, 0, none⟩ 1 1 [.slice (some ⟨wq.heap.size, 0, none⟩) 1 1] rfl rfl ?c1 ?c2 ?c3 ?c4 ?c5 ?_)
          case c2 => rfl
          case c3 => unfold maxLen; omega
          case c4 => omega
          case c5 => omega
          intro v' w5 hown' hgrow _
          have hb2 : Below wq.heap.size wq ((wq.alloc (.cells #[.int .i64 (gI zs k)] 3)).alloc (.cells #[.slice (some ⟨wq.heap.size, 0, none⟩) 1 1] 22)) := ((Below.refl _ _).alloc (Nat.le_refl _) _).alloc (by simp) _
          have hGn := GRow.push hGq HYL.out HYX.out hb2 hsq ((own_one wq (gI zs k) 3).alloc _) hgrow hown'
          rw [← hnew.out] at hGn
          have hBn : Below w.heap.size w w5 := hbq.trans ((hb2.mono hsq).grown hgrow (by simp; omega) (fun q hq => (HYO.out.lt q hq).1))
          have HN := Lib.hid (And.intro hGn hBn)
          clear hGn hBn hown' hgrow hGq hbq hb2
          go_wp2
          go_roundw
          case rel => exact ⟨k + 1, m + 1, _, by omega, by go_num, by omega, fun _ => by omega, HN.out.1, HN.out.2⟩
          case measure => simp [intOf]; omega
        · have g0 : ((k : Int) == 0) = false := by simp; omega
          have v2 : ((k : Int) - 1).toNat = k - 1 := by omega
          have v3 : (0 : Int) ≤ (k : Int) - 1 := by omega
          have v4 : (k : Int) - 1 < (n : Int) := by omega
          have v6 : decide (wd < gI zs k - gI zs (k - 1)) = true := by simp; omega
          go_wp2
          go_quiet (fail)
          clear v1 v2 v3 v4 v5 v6 g0 hd
          generalize hwq : wr.drewN _ = wq
          have hGq : GRow wq w.heap.size S (.slice A7 m c7) m (gr zs wd k) := by rw [← hwq]; exact hG.drewN _
          have hbq : Below w.heap.size w wq := by rw [← hwq]; exact below_drewN hb _
          clear hwq hG hb p1 p2
          have p1 := (bcell hbq _ _ hbB).trans q1
          have hsq := hbq.size
          obtain ⟨ys, hyo, hyx⟩ := hGq.row
          have HYX := Lib.hid hyx
          have HYL := Lib.hid hyo.1
          have HYO := Lib.hid hyo
          clear hyx hyo q1 q2
          go_wp2_with (at_builtin; refine wpList_append_own _ rfl _ _ 37 rfl w.heap.size 22 i1 (.slice none 0 0) 1 24 Try.underlying37 hi1 hy0 hy1 hy2 rfl (by decide) _ _ _ rfl ((HYO.out.alloc _).alloc _) ⟨wq.heap.size + 1, 0, none⟩ 1 1 [.slice (some ⟨wq.heap.size, 0, none⟩) 1 1] rfl rfl ?d1 ?d2 ?d3 ?d4 ?d5 ?_)
          case d2 => rfl
          case d3 => unfold maxLen; omega
          case d4 => omega
          case d5 => omega
          intro v' w5 hown' hgrow _
          have hb2 : Below wq.heap.size wq ((wq.alloc (.cells #[.int .i64 (gI zs k)] 3)).alloc (.cells #[.slice (some ⟨wq.heap.size, 0, none⟩) 1 1] 22)) := ((Below.refl _ _).alloc (Nat.le_refl _) _).alloc (by simp) _
          have hGn := GRow.push hGq HYL.out HYX.out hb2 hsq ((own_one wq (gI zs k) 3).alloc _) hgrow hown'
          rw [← hnew.out] at hGn
          have hBn : Below w.heap.size w w5 := hbq.trans ((hb2.mono hsq).grown hgrow (by simp; omega) (fun q hq => (HYO.out.lt q hq).1))
          have HN := Lib.hid (And.intro hGn hBn)
          clear hGn hBn hown' hgrow hGq hbq hb2
          go_wp2
          go_roundw
          case rel => exact ⟨k + 1, m + 1, _, by omega, by go_num, by omega, fun _ => by omega, HN.out.1, HN.out.2⟩
          case measure => simp [intOf]; omega
    · obtain rfl : k = n := by omega
      rw [← HL.out] at hG
      go_wp2
      go_ret2
      exact groupsRes_yes HY.out rfl ⟨S, hG⟩ hb
set_option maxHeartbeats 1000000 in
theorem sBlendsMany_any (A : Option Addr) (n c : Nat) (zs : List Int) (wd : Int) (w : World) (h : ISl w w.heap.size A n c zs) (hn : n ≤ 16777216) :
    Calls Try.prog 15 #[.slice A n c, .int .i64 wd] w fun e w' => e = .returned (.int .i64 (if blB zs wd = true then ((blR zs wd).length : Int) else -1)) ∧ Below w.heap.size w w' := by
  rcases hok : blB zs wd with _ | _
  · go_enter Try.func15, Try.ntmps15
    go_wp2_with fail
    refine (sBlendsOf_any _ _ _ _ wd _ h hn).mono ?_
    rintro e w1 ⟨A1, m, c1, rfl, hG, hb⟩
    rw [hok]
    clear hG
    go_wp2
    go_ret
    exact ⟨rfl, hb⟩
  · go_enter Try.func15, Try.ntmps15
    go_wp2_with fail
    refine (sBlendsOf_any _ _ _ _ wd _ h hn).mono ?_
    rintro e w1 ⟨A1, m, c1, rfl, hG, hb⟩
    rw [hok]
    obtain ⟨S, hG⟩ := hG
    have HL := Lib.hid hG.len
    clear hG
    go_wp2
    go_ret
    exact ⟨ret_int (by rw [HL.out]), hb⟩
end Go.Proofs.Ytpfbjpognmjmmaa
