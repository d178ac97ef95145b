/- The contract of the reference's PeaksOf. -/
import Derived.Test.YtddchlfhjiimcaaPkPeaksI
namespace Go.Proofs.Ytddchlfhjiimcaa
open Go.RowKit Pk

set_option maxHeartbeats 1000000 in
theorem l36Falls_any (A : Option Addr) (n c : Nat) (zs : List Int) (k : Nat) (w : World) (h : ISl w w.heap.size A n c zs) (hk : k < n) (hn : n ≤ 16777216) :
    Calls Try.prog 22 #[.slice A n c, .int .i64 k] w fun e w' => e = .returned (.bool (falls zs k)) ∧ Below w.heap.size w w' := by
  have HL := Lib.hid h.len
  obtain ⟨b, off, rfl, hbB, hkz, hc⟩ := h.at_ hk
  have HC := Lib.hid hc
  clear hc hkz
  have hkI : (k : Int) < (n : Int) := by omega
  go_enter Try.func22, Try.ntmps22
  go_wp2
  go_loopw [5] (fun i wr => ∃ j : Nat, k < j ∧ j ≤ n ∧ i = .int .i64 j ∧ Hid (∀ m, k < m → m < j → gI zs m = gI zs k) ∧ Below w.heap.size w wr) (fun i _ => n - (intOf i).toNat)
  case atStart => exact ⟨k + 1, by omega, by omega, by go_num, fun m a b => by omega, Below.refl _ _⟩
  case round =>
    obtain ⟨j, hkj, hj, rfl, hrun, hb⟩ := hrel
    by_cases hlt : j < n
    · have h1 := (bcell hb _ _ hbB).trans (HC.out k hk)
      have h2 := (bcell hb _ _ hbB).trans (HC.out j hlt)
      have hltI : (j : Int) < (n : Int) := by omega
      by_cases heq : gI zs j = gI zs k
      · have heq' : (gI zs j != gI zs k) = false := by simpa using heq
        have HQ := Lib.hid heq
        clear heq
        go_wp2
        go_quiet (fail)
        go_wp2
        go_roundw
        case rel =>
          refine ⟨j + 1, by omega, by omega, by go_num, fun m a b => ?_, below_drewN hb _⟩
          by_cases e : m = j
          · subst e; exact HQ.out
          · exact hrun.out m a (by omega)
        case measure => simp [intOf]; omega
      · have heq' : (gI zs j != gI zs k) = true := by simpa using heq
        have HF : Hid (falls zs k = decide (gI zs j < gI zs k)) := by
          show falls zs k = _
          by_cases hd : gI zs j < gI zs k
          · rw [falls_yes hkj hrun.out (.inr hd)]; simp [hd]
          · rw [falls_no hkj (by rw [HL.out]; exact hlt) hrun.out (by omega)]; simp [hd]
        have HQ := Lib.hid heq
        clear heq
        go_wp2
        go_quiet (fail)
        go_wp2
        go_quiet (fail)
        go_wp2
        go_ret
        exact ⟨ret_bool HF.out.symm, below_drewN (below_drewN hb _) _⟩
    · go_wp2
      go_ret
      exact ⟨ret_bool (falls_yes hkj hrun.out (.inl (by rw [HL.out]; omega))).symm, hb⟩

theorem isPk_split (zs : List Int) (least : Int) (k : Nat) : isPk zs least k = (decide (least ≤ gI zs k) && rises zs k && falls zs k) := rfl
theorem peaks_snoc {zs : List Int} {l : Int} {k : Nat} (h : pks zs l (k + 1) = pks zs l k ++ [k]) :
    (asInts (pks zs l k)).map (Value.int .i64) ++ [Value.int .i64 (k : Int)] = (asInts (pks zs l (k + 1))).map (Value.int .i64) ∧ (pks zs l k).length + 1 = (pks zs l (k + 1)).length := by
  rw [h, asInts_append, List.map_append]; simp [asInts]
set_option maxHeartbeats 2000000 in
theorem sPeaksOf_ok (A : Option Addr) (n c : Nat) (zs : List Int) (least : Int) (w : World) (h : ISl w w.heap.size A n c zs) (hok : cOk zs = true) :
    Calls Try.prog 8 #[.slice A n c, .int .i64 least] w fun e w' => ∃ v, e = .returned v ∧ w'.ownsRow w.heap.size 3 1 v (pks zs least n).length ((asInts (pks zs least n)).map (Value.int .i64)) ∧ Below w.heap.size w w' := by
  have HL := Lib.hid h.len
  have hs := cOk_len hok
  rw [HL.out] at hs
  obtain ⟨i0, hi, hz0, hz1, hz2⟩ := info_parts int_info
  go_enter Try.func8, Try.ntmps8
  go_wp2_with (go_at_call 21; refine (l36Valid_any _ _ _ _ _ _ ((h.below ((Below.refl _ _).alloc (Nat.le_refl _) _))) (by omega)).mono ?_; rintro e w' ⟨rfl, rfl⟩)
  go_loopw [5, 6] (fun v i wr => ∃ k : Nat, k ≤ n ∧ i = .int .i64 k ∧ wr.ownsRow w.heap.size 3 1 v (pks zs least k).length ((asInts (pks zs least k)).map (Value.int .i64)) ∧ Below w.heap.size w wr) (fun _ i _ => n - (intOf i).toNat)
  case atStart =>
    refine ⟨0, Nat.zero_le _, rfl, ?_, (Below.refl _ _).alloc (Nat.le_refl _) _⟩
    exact own_lit0 w 3
  case round =>
    obtain ⟨k, hk, rfl, hown, hb⟩ := hrel
    have hpl := pks_len zs least k
    by_cases hlt : k < n
    · obtain ⟨b, off, rfl, hbB, hkz, hc⟩ := h.at_ hlt
      have h1 := (bcell hb _ _ hbB).trans (hc k hlt)
      have hltI : (k : Int) < (n : Int) := by omega
      by_cases hk0 : k = 0
      · have hk0' : ((k : Int) == 0) = true := by simp; omega
        have HR : Hid (rises zs k = true) := by show rises zs k = true; simp [rises, hk0]
        clear hk0 hc
        go_wp2
        go_quiet (fail)
        by_cases hle : least ≤ gI zs k
        · go_wp2_with fail
          refine (l36Falls_any _ _ _ _ _ _ (by exact (h.below (below_drewN hb _)).more (below_drewN hb _).size) hlt (by omega)).mono ?_
          rintro e w2 ⟨rfl, hb2⟩
          have hb3 := (below_drewN hb _).trans (hb2.mono (below_drewN hb _).size)
          have hown3 := own_below (own_below hown (below_drewN (Below.refl _ _) _)) hb2
          have hs3 := hb3.size
          clear hb2
          rcases hf : falls zs k with _ | _
          · have HP : Hid (pks zs least (k + 1) = pks zs least k) := by
              show pks zs least (k + 1) = _
              rw [pks_succ, isPk_split, HR.out]; simp [hf]
            go_wp2
            go_roundw
            case rel => exact ⟨k + 1, by omega, by go_num, by rw [HP.out]; exact hown3, hb3⟩
            case measure => simp [intOf]; omega
          · have HP : Hid (pks zs least (k + 1) = pks zs least k ++ [k]) := by
              show pks zs least (k + 1) = _
              rw [pks_succ, isPk_split, HR.out]; simp [hf, hle]
            go_wp2_with (at_builtin; refine wpList_append_own _ rfl _ _ 23 rfl w.heap.size 3 i0 (.int .i64 0) 1 8 Try.underlying23 hi hz0 hz1 hz2 rfl (by decide) _ _ _ rfl (hown3.alloc _) ⟨w2.heap.size, 0, none⟩ 1 1 [.int .i64 k] rfl rfl ?c1 ?c2 ?c3 ?c4 ?c5 ?_)
            case c1 => exact cell_one_new _ _ _
            case c2 => intro u hu; simp at hu; subst hu; rfl
            case c3 => unfold maxLen; omega
            case c4 => omega
            case c5 => simp; omega
            intro v' w1 hown' hgrow _
            rw [(peaks_snoc HP.out).1, (peaks_snoc HP.out).2] at hown'
            have hb' : Below w.heap.size w w1 := ((hb3.alloc hb3.size _).grown hgrow (by simp; omega) (fun g hg => (hown3.lt g hg).1))
            clear hown3 hgrow
            go_wp2
            go_roundw
            case rel => exact ⟨k + 1, by omega, by go_num, hown', hb'⟩
            case measure => simp [intOf]; omega
        · have HP : Hid (pks zs least (k + 1) = pks zs least k) := by
            show pks zs least (k + 1) = _
            rw [pks_succ, isPk_split, HR.out]; simp [hle]
          go_wp2
          go_roundw
          case rel => exact ⟨k + 1, by omega, by go_num, by rw [HP.out]; exact own_below hown (below_drewN (Below.refl _ _) _), below_drewN hb _⟩
          case measure => simp [intOf]; omega
      · have hk0' : ((k : Int) == 0) = false := by simp; omega
        have hk1 : 0 < k := by omega
        have h2 := (bcell hb _ _ hbB).trans (hc (k - 1) (by omega))
        have w1 : IntKind.i64.wrap ((k : Int) - 1) = (k : Int) - 1 := IntWalk.i64_in _ (by omega)
        have w2 : ((k : Int) - 1).toNat = k - 1 := by omega
        have w3 : (0 : Int) ≤ (k : Int) - 1 := by omega
        have w5 : (k : Int) - 1 < (n : Int) := by omega
        have HR : Hid (rises zs k = decide (gI zs (k - 1) < gI zs k)) := by show rises zs k = _; simp [rises, hk0]
        clear hk0 hc
        by_cases hup : gI zs (k - 1) < gI zs k
        · go_wp2
          go_quiet (fail)
          clear w1 w2
          by_cases hle : least ≤ gI zs k
          · go_wp2_with fail
            refine (l36Falls_any _ _ _ _ _ _ (by exact (h.below (below_drewN hb _)).more (below_drewN hb _).size) hlt (by omega)).mono ?_
            rintro e w2 ⟨rfl, hb2⟩
            have hb3 := (below_drewN hb _).trans (hb2.mono (below_drewN hb _).size)
            have hown3 := own_below (own_below hown (below_drewN (Below.refl _ _) _)) hb2
            have hs3 := hb3.size
            clear hb2
            rcases hf : falls zs k with _ | _
            · have HP : Hid (pks zs least (k + 1) = pks zs least k) := by
                show pks zs least (k + 1) = _
                rw [pks_succ, isPk_split, HR.out]; simp [hf]
              go_wp2
              go_roundw
              case rel => exact ⟨k + 1, by omega, by go_num, by rw [HP.out]; exact hown3, hb3⟩
              case measure => simp [intOf]; omega
            · have HP : Hid (pks zs least (k + 1) = pks zs least k ++ [k]) := by
                show pks zs least (k + 1) = _
                rw [pks_succ, isPk_split, HR.out]; simp [hf, hle, hup]
              go_wp2_with (at_builtin; refine wpList_append_own _ rfl _ _ 23 rfl w.heap.size 3 i0 (.int .i64 0) 1 8 Try.underlying23 hi hz0 hz1 hz2 rfl (by decide) _ _ _ rfl (hown3.alloc _) ⟨w2.heap.size, 0, none⟩ 1 1 [.int .i64 k] rfl rfl ?d1 ?d2 ?d3 ?d4 ?d5 ?_)
              case d1 => exact cell_one_new _ _ _
              case d2 => intro u hu; simp at hu; subst hu; rfl
              case d3 => unfold maxLen; omega
              case d4 => omega
              case d5 => simp; omega
              intro v' w1 hown' hgrow _
              rw [(peaks_snoc HP.out).1, (peaks_snoc HP.out).2] at hown'
              have hb' : Below w.heap.size w w1 := ((hb3.alloc hb3.size _).grown hgrow (by simp; omega) (fun g hg => (hown3.lt g hg).1))
              clear hown3 hgrow
              go_wp2
              go_roundw
              case rel => exact ⟨k + 1, by omega, by go_num, hown', hb'⟩
              case measure => simp [intOf]; omega
          · have HP : Hid (pks zs least (k + 1) = pks zs least k) := by
              show pks zs least (k + 1) = _
              rw [pks_succ, isPk_split, HR.out]; simp [hle]
            go_wp2
            go_roundw
            case rel => exact ⟨k + 1, by omega, by go_num, by rw [HP.out]; exact own_below hown (below_drewN (Below.refl _ _) _), below_drewN hb _⟩
            case measure => simp [intOf]; omega
        · have hup' : decide (gI zs (k - 1) < gI zs k) = false := by simpa using hup
          have HR2 : Hid (rises zs k = false) := by show rises zs k = false; rw [HR.out]; exact hup'
          go_wp2
          go_quiet (fail)
          clear w1 w2
          by_cases hle : least ≤ gI zs k
          · have HP : Hid (pks zs least (k + 1) = pks zs least k) := by
              show pks zs least (k + 1) = _
              rw [pks_succ, isPk_split, HR2.out]; simp
            go_wp2
            go_roundw
            case rel => exact ⟨k + 1, by omega, by go_num, by rw [HP.out]; exact own_below hown (below_drewN (Below.refl _ _) _), below_drewN hb _⟩
            case measure => simp [intOf]; omega
          · have HP : Hid (pks zs least (k + 1) = pks zs least k) := by
              show pks zs least (k + 1) = _
              rw [pks_succ, isPk_split, HR2.out]; simp
            go_wp2
            go_roundw
            case rel => exact ⟨k + 1, by omega, by go_num, by rw [HP.out]; exact own_below hown (below_drewN (Below.refl _ _) _), below_drewN hb _⟩
            case measure => simp [intOf]; omega
    · go_wp2
      go_ret
      obtain rfl : k = n := by omega
      exact ⟨_, rfl, hown, hb⟩

set_option maxHeartbeats 1000000 in
theorem sPeaksOf_any (A : Option Addr) (n c : Nat) (zs : List Int) (least : Int) (w : World) (h : ISl w w.heap.size A n c zs) (hn : n ≤ 16777216) :
    Calls Try.prog 8 #[.slice A n c, .int .i64 least] w fun e w' => ∃ A' c', e = .returned (.slice A' (peaksOf zs least).length c') ∧ w'.ownsRow w.heap.size 3 1 (.slice A' (peaksOf zs least).length c') (peaksOf zs least).length ((peaksOf zs least).map (Value.int .i64)) ∧ Below w.heap.size w w' := by
  rcases hok : cOk zs with _ | _
  · have hp : peaksOf zs least = [] := by simp [peaksOf, hok]
    rw [hp]
    clear hp
    go_enter Try.func8, Try.ntmps8
    go_wp2_with (go_at_call 21; refine (l36Valid_any _ _ _ _ _ _ ((h.below ((Below.refl _ _).alloc (Nat.le_refl _) _))) hn).mono ?_; rintro e w' ⟨rfl, rfl⟩)
    go_ret
    exact ⟨_, _, rfl, own_lit0 w _, (Below.refl _ _).alloc (Nat.le_refl _) _⟩
  · have hp : peaksOf zs least = asInts (pks zs least n) := by simp [peaksOf, hok, h.len]
    rw [hp]
    refine (sPeaksOf_ok A n c zs least w h hok).mono ?_
    rintro e w' ⟨v, rfl, ho, hb⟩
    obtain ⟨A', c', rfl⟩ := own_form ho
    rw [asInts_len]
    exact ⟨_, _, rfl, ho, hb⟩
end Go.Proofs.Ytddchlfhjiimcaa
