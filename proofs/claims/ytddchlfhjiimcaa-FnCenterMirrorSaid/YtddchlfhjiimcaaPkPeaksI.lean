/- The contract of the program's PeaksOf. -/
import Derived.Test.YtddchlfhjiimcaaPkWalks
namespace Go.Proofs.Ytddchlfhjiimcaa
open Go.RowKit Pk

theorem asInts_in {l : List Nat} {m : Nat} (hm : m ≤ 16777216) (h : ∀ x ∈ l, x < m) : ∀ z ∈ asInts l, InI z := by
  intro z hz
  simp only [asInts, List.mem_map] at hz
  obtain ⟨x, hx, rfl⟩ := hz
  have := h x hx
  unfold InI; simp only [Int.ofNat_eq_natCast]; omega
theorem peaksOf_in {zs : List Int} {l : Int} : ∀ z ∈ peaksOf zs l, InI z := by
  unfold peaksOf
  split
  · next h => exact asInts_in (m := 200) (by omega) fun x hx => by have := cOk_len h; have := (mem_pks.1 hx).1; omega
  · simp
theorem peaksOf_len {zs : List Int} {l : Int} : (peaksOf zs l).length ≤ 200 := by
  unfold peaksOf
  split
  · next h => rw [asInts_len]; have := pks_len zs l zs.length; have := cOk_len h; omega
  · simp
theorem peaks_push {zs : List Int} {l : Int} {s k : Nat} (h : pks zs l k = pks zs l s ++ [s]) :
    (asInts (pks zs l s)).map (Value.int .i64) ++ [Value.int .i64 (s : Int)] = (asInts (pks zs l k)).map (Value.int .i64) ∧ (pks zs l s).length + 1 = (pks zs l k).length := by
  rw [h, asInts_append, List.map_append]; simp [asInts]

set_option maxHeartbeats 2000000 in
theorem iPeaksOf_ok (A : Option Addr) (n c : Nat) (zs : List Int) (least : Int) (w : World) (h : ISl w w.heap.size A n c zs) (hok : cOk zs = true) :
    Calls Try.prog 7 #[.slice A n c, .int .i64 least] w fun e w' => ∃ v, e = .returned v ∧ w'.ownsRow w.heap.size 3 1 v (pks zs least n).length ((asInts (pks zs least n)).map (Value.int .i64)) ∧ Below w.heap.size w w' := by
  have HL := Lib.hid h.len
  have hs := cOk_len hok
  rw [HL.out] at hs
  obtain ⟨i0, hi, hz0, hz1, hz2⟩ := info_parts int_info
  go_enter Try.func7, Try.ntmps7
  go_wp2_with (go_at_call 20; refine (countsValid_any _ _ _ _ _ _ h (by omega)).mono ?_; rintro e w' ⟨rfl, rfl⟩)
  go_loopw [5, 6, 7, 15] (fun v r x i wr => ∃ k s : Nat, k ≤ n ∧ s ≤ k ∧ (0 < k → s < k) ∧ i = .int .i64 k ∧ x = .int .i64 s ∧ r = .bool (rises zs s) ∧ Hid (∀ j, s ≤ j → j < k → gI zs j = gI zs s) ∧
      wr.ownsRow w.heap.size 3 1 v (pks zs least s).length ((asInts (pks zs least s)).map (Value.int .i64)) ∧ Below w.heap.size w wr) (fun _ _ _ i _ => n - (intOf i).toNat)
  case atStart => exact ⟨0, 0, Nat.zero_le _, Nat.le_refl _, fun h => h, rfl, rfl, rfl, fun j a b => by omega, World.ownsRow_nil _ _ _ _, Below.refl _ _⟩
  case round =>
    obtain ⟨k, s, hk, hsk, hsk0, rfl, rfl, rfl, hrun, hown, hb⟩ := hrel
    have hpl := pks_len zs least s
    by_cases hlt : k < n
    · obtain ⟨b, off, rfl, hbB, hkz, hc⟩ := h.at_ hlt
      have h1 := (bcell hb _ _ hbB).trans (hc k hlt)
      have h2 := (bcell hb _ _ hbB).trans (hc (k - 1) (by omega))
      have h3 := (bcell hb _ _ hbB).trans (hc s (by omega))
      clear hc
      by_cases hk0 : k = 0
      · have hk0' : (k : Int) ≤ 0 := by omega
        have HS : Hid (s = 0) := by show s = 0; omega
        have HK := Lib.hid hk0
        clear hk0
        go_wp2
        go_roundw
        case rel => exact ⟨k + 1, s, by omega, by omega, by have := HS.out; omega, by go_num, rfl, rfl, fun j a b => by rw [show j = s by have := HS.out; have := HK.out; omega], hown, hb⟩
        case measure => simp [intOf]; omega
      · have hk0' : (0 : Int) < (k : Int) := by omega
        have hk0n : 0 < k := by omega
        have hsk1 := hsk0 hk0n
        have HE : Hid (gI zs (k - 1) = gI zs s) := hrun.out (k - 1) (by omega) (by omega)
        by_cases heq : gI zs k = gI zs (k - 1)
        · have heq' : (gI zs k != gI zs (k - 1)) = false := by simpa using heq
          have HQ := Lib.hid heq
          clear heq
          go_wp2
          go_roundw
          case rel =>
            refine ⟨k + 1, s, by omega, by omega, by omega, by go_num, rfl, rfl, fun j a b => ?_, hown, hb⟩
            by_cases e : j = k
            · subst e; rw [HQ.out, HE.out]
            · exact hrun.out j a (by omega)
          case measure => simp [intOf]; omega
        · have heq' : (gI zs k != gI zs (k - 1)) = true := by simpa using heq
          have HR : Hid (rises zs k = decide (gI zs (k - 1) < gI zs k)) := by
            show rises zs k = _
            unfold rises; simp [hk0]
          by_cases hpush : rises zs s = true ∧ gI zs k < gI zs (k - 1) ∧ least ≤ gI zs s
          · obtain ⟨p1, p2, p3⟩ := hpush
            have HP : Hid (pks zs least k = pks zs least s ++ [s]) := by
              show pks zs least k = _
              rw [pks_run hsk1 hrun.out, isPk_end hsk1 hrun.out (.inr (by rw [← HE.out]; exact p2))]
              simp [p1, p3]
            go_wp2_with (at_builtin; refine wpList_append_own _ rfl _ _ 23 rfl w.heap.size 3 i0 (.int .i64 0) 1 8 Try.underlying23 hi hz0 hz1 hz2 rfl (by decide) _ _ _ rfl (hown.alloc _) ⟨wr.heap.size, 0, none⟩ 1 1 [.int .i64 s] rfl rfl ?c1 ?c2 ?c3 ?c4 ?c5 ?_)
            case c1 => exact cell_one_new _ _ _
            case c2 => intro u hu; simp at hu; subst hu; rfl
            case c3 => unfold maxLen; omega
            case c4 => omega
            case c5 => have := hb.size; simp; omega
            intro v' w1 hown' hgrow _
            have hq := peaks_push HP.out
            rw [hq.1, hq.2] at hown'
            have hb' : Below w.heap.size w w1 := ((hb.alloc hb.size _).grown hgrow (by have := hb.size; simp; omega) (fun g hg => (hown.lt g hg).1))
            have h2' := (bcell hb' _ _ hbB).trans ((bcell hb _ _ hbB).symm.trans h2)
            clear hown hq hgrow
            go_wp2
            go_roundw
            case rel => exact ⟨k + 1, k, by omega, by omega, by omega, by go_num, rfl, by rw [HR.out], fun j a b => by rw [show j = k by omega], hown', hb'⟩
            case measure => simp [intOf]; omega
          · have HP : Hid (pks zs least k = pks zs least s) := by
              show pks zs least k = _
              rw [pks_run hsk1 hrun.out]
              by_cases hd : gI zs k < gI zs s
              · rw [isPk_end hsk1 hrun.out (.inr hd)]
                rw [← HE.out] at hd
                have : (rises zs s && decide (least ≤ gI zs s)) = false := by
                  rw [Bool.eq_false_iff]; intro hc
                  simp only [Bool.and_eq_true, decide_eq_true_eq] at hc
                  exact hpush ⟨hc.1, hd, hc.2⟩
                rw [this]; simp
              · rw [isPk_up hsk1 (by rw [HL.out]; exact hlt) hrun.out (by have := HE.out; omega)]; simp
            by_cases p1 : rises zs s = true
            · by_cases p2 : gI zs k < gI zs (k - 1)
              · have p3 : ¬ least ≤ gI zs s := fun h => hpush ⟨p1, p2, h⟩
                clear hpush
                go_wp2
                go_roundw
                case rel => exact ⟨k + 1, k, by omega, by omega, by omega, by go_num, rfl, by rw [HR.out], fun j a b => by rw [show j = k by omega], by rw [HP.out]; exact hown, hb⟩
                case measure => simp [intOf]; omega
              · clear hpush
                go_wp2
                go_roundw
                case rel => exact ⟨k + 1, k, by omega, by omega, by omega, by go_num, rfl, by rw [HR.out], fun j a b => by rw [show j = k by omega], by rw [HP.out]; exact hown, hb⟩
                case measure => simp [intOf]; omega
            · have p1' : rises zs s = false := by simpa using p1
              clear hpush p1
              go_wp2
              go_roundw
              case rel => exact ⟨k + 1, k, by omega, by omega, by omega, by go_num, rfl, by rw [HR.out], fun j a b => by rw [show j = k by omega], by rw [HP.out]; exact hown, hb⟩
              case measure => simp [intOf]; omega
    · by_cases hn0 : n = 0
      · have hn0' : (n : Int) ≤ 0 := by omega
        have HP : Hid (pks zs least n = pks zs least s) := by
          show pks zs least n = _
          rw [show n = s by omega]
        clear hn0
        go_wp2
        go_ret
        exact ⟨_, rfl, by rw [HP.out]; exact hown, hb⟩
      · obtain rfl : k = n := by omega
        have hk0n : 0 < k := by omega
        have hn0' : (0 : Int) < (k : Int) := by omega
        have hsk1 := hsk0 hk0n
        obtain ⟨b, off, rfl, hbB, hkz, hc⟩ := h.at_ hk0n
        have h3 := (bcell hb _ _ hbB).trans (hc s hsk1)
        clear hc hkz
        by_cases hpush : rises zs s = true ∧ least ≤ gI zs s
        · obtain ⟨p1, p3⟩ := hpush
          have HP : Hid (pks zs least k = pks zs least s ++ [s]) := by
            show pks zs least k = _
            rw [pks_run hsk1 hrun.out, isPk_end hsk1 hrun.out (.inl (by rw [HL.out]; exact Nat.le_refl _))]
            simp [p1, p3]
          go_wp2_with (at_builtin; refine wpList_append_own _ rfl _ _ 23 rfl w.heap.size 3 i0 (.int .i64 0) 1 8 Try.underlying23 hi hz0 hz1 hz2 rfl (by decide) _ _ _ rfl (hown.alloc _) ⟨wr.heap.size, 0, none⟩ 1 1 [.int .i64 s] rfl rfl ?d1 ?d2 ?d3 ?d4 ?d5 ?_)
          case d1 => exact cell_one_new _ _ _
          case d2 => intro u hu; simp at hu; subst hu; rfl
          case d3 => unfold maxLen; omega
          case d4 => omega
          case d5 => have := hb.size; simp; omega
          intro v' w1 hown' hgrow _
          have hq := peaks_push HP.out
          rw [hq.1, hq.2] at hown'
          have hb' : Below w.heap.size w w1 := ((hb.alloc hb.size _).grown hgrow (by have := hb.size; simp; omega) (fun g hg => (hown.lt g hg).1))
          clear hown hq hgrow
          go_wp2
          go_ret
          exact ⟨_, rfl, hown', hb'⟩
        · have HP : Hid (pks zs least k = pks zs least s) := by
            show pks zs least k = _
            rw [pks_run hsk1 hrun.out, isPk_end hsk1 hrun.out (.inl (by rw [HL.out]; exact Nat.le_refl _))]
            have : (rises zs s && decide (least ≤ gI zs s)) = false := by
              rw [Bool.eq_false_iff]; intro hc
              simp only [Bool.and_eq_true, decide_eq_true_eq] at hc
              exact hpush hc
            rw [this]; simp
          by_cases p1 : rises zs s = true
          · have p3 : ¬ least ≤ gI zs s := fun h => hpush ⟨p1, h⟩
            clear hpush
            go_wp2
            go_ret
            exact ⟨_, rfl, by rw [HP.out]; exact hown, hb⟩
          · have p1' : rises zs s = false := by simpa using p1
            clear hpush p1
            go_wp2
            go_ret
            exact ⟨_, rfl, by rw [HP.out]; exact hown, hb⟩

set_option maxHeartbeats 1000000 in
theorem iPeaksOf_any (A : Option Addr) (n c : Nat) (zs : List Int) (least : Int) (w : World) (h : ISl w w.heap.size A n c zs) (hn : n ≤ 16777216) :
    Calls Try.prog 7 #[.slice A n c, .int .i64 least] w fun e w' => ∃ A' c', e = .returned (.slice A' (peaksOf zs least).length c') ∧ w'.ownsRow w.heap.size 3 1 (.slice A' (peaksOf zs least).length c') (peaksOf zs least).length ((peaksOf zs least).map (Value.int .i64)) ∧ Below w.heap.size w w' := by
  rcases hok : cOk zs with _ | _
  · have hp : peaksOf zs least = [] := by simp [peaksOf, hok]
    rw [hp]
    clear hp
    go_enter Try.func7, Try.ntmps7
    go_wp2_with (go_at_call 20; refine (countsValid_any _ _ _ _ _ _ h hn).mono ?_; rintro e w' ⟨rfl, rfl⟩)
    go_ret
    exact ⟨_, _, rfl, World.ownsRow_nil _ _ _ _, Below.refl _ _⟩
  · have hp : peaksOf zs least = asInts (pks zs least n) := by simp [peaksOf, hok, h.len]
    rw [hp]
    refine (iPeaksOf_ok A n c zs least w h hok).mono ?_
    rintro e w' ⟨v, rfl, ho, hb⟩
    obtain ⟨A', c', rfl⟩ := own_form ho
    rw [asInts_len]
    exact ⟨_, _, rfl, ho, hb⟩
end Go.Proofs.Ytddchlfhjiimcaa
