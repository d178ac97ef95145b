/- The walks of the laws FnJoined, FnJoinedLess, FnJoinedMany. -/
import Derived.Test.YtaefojbgialiaaaLkDraw2
import Derived.Test.YtaefojbgialiaaaLkJoined
set_option linter.unusedVariables false
namespace Go.Proofs.Ytaefojbgialiaaa
open Go.RowKit Lk

theorem joinedR_ok {many : Nat} {ls : List Link} (h : 0 < (joinedR many ls).length) : lsOk (many : Int) ls = true := by
  rcases hok : lsOk (many : Int) ls with _ | _
  · rw [joinedR_no hok] at h; simp at h
  · rfl

set_option maxHeartbeats 2000000 in
theorem fnJoined_walk (A : Option Addr) (n c : Nat) (bs : List Int) (w : World) (h : BSl w w.heap.size A n c bs) :
    Calls Try.prog 7 #[.slice A n c] w fun e w' => e = .returned (.bool true) ∧ Below w.heap.size w w' := by
  by_cases hbig : 1048576 < n
  · go_enter Try.func7, Try.ntmps7
    go_wp2
    go_ret
    exact ⟨rfl, Below.refl _ _⟩
  go_enter Try.func7, Try.ntmps7
  go_wp2_with fail
  refine (DrawLinksJoined_any _ _ _ _ _ h (by omega)).mono ?_
  rintro e w1 ⟨many, A1, m, c1, ls, rfl, hD, hb1⟩
  have hm9 := hD.few
  have hp := hD.pos
  have hp6 := hD.six
  have i1 := LSl.of_own hD.own hD.inL
  clear hD
  go_wp2_with fail
  refine (iLinksJoined_any _ _ _ _ _ _ i1 (by omega)).mono ?_
  rintro e w2 ⟨A2, k, c2, rfl, g2, hb2⟩
  have hT2 := Below.step hb1 hb2
  have i2 := (i1.below hb2).more hb2.size
  have hkl : (joinedR (many : Int) ls).length = k := by have := g2.1; simpa using this
  have HK := Lib.hid hkl
  have hk12 : k ≤ 12 := by have := joinedR_len (many : Int) ls; omega
  have hlt2 : w1.heap.size ≤ w2.heap.size := hb2.size
  clear i1 hb2 hkl
  go_wp2_with fail
  refine (sLinksJoined_any _ _ _ _ _ _ i2 (by omega)).mono ?_
  rintro e w3 ⟨A3, k3, c3, rfl, r3, hb3⟩
  have hT3 := Below.step hT2 hb3
  have i3 := (i2.below hb3).more hb3.size
  have g3 := own_below g2 hb3
  have hk3 : k3 ≤ 12 := by have h1 := r3.1; have := joinedR_len (many : Int) ls; simp at h1; omega
  have j3 := ISl.of_own g3 (joinedR_in _ _)
  have s3 := ISl.of_own r3 (joinedR_in _ _)
  clear i2 g2 hb3
  by_cases hk0 : k = 0
  · subst hk0
    go_wp2_with fail
    refine (sameInts_same _ _ _ _ _ _ _ _ j3 s3 (by omega)).mono ?_
    rintro e w4 ⟨rfl, hb4⟩
    have hT4 := Below.step hT3 hb4
    have j4 := (j3.below hb4).more hb4.size
    have s4 := (s3.below hb4).more hb4.size
    go_wp2_with fail
    refine (sameInts_same _ _ _ _ _ _ _ _ j4 s4 (by omega)).mono ?_
    rintro e w5 ⟨rfl, hb5⟩
    have hT5 := Below.step hT4 hb5
    go_wp2
    go_ret
    exact ⟨rfl, hT5⟩
  have hk0' : ((k : Int) == 0) = false := by simp; omega
  go_wp2_with fail
  refine (sameInts_same _ _ _ _ _ _ _ _ j3 s3 (by omega)).mono ?_
  rintro e w4 ⟨rfl, hb4⟩
  have hT4 := Below.step hT3 hb4
  have i4 := (i3.below hb4).more hb4.size
  have g4 := own_below g3 hb4
  have hok := joinedR_ok (many := many) (ls := ls) (by rw [HK.out]; omega)
  have hR := joinedR_yes hok
  have hkm : k = many := by rw [← HK.out, hR, joinL_len]
  subst hkm
  rw [hR] at g4
  have HIN : Hid (∀ i, i < ls.length → (0 ≤ (gL ls i).f ∧ (gL ls i).f < (k : Int)) ∧ (0 ≤ (gL ls i).t ∧ (gL ls i).t < (k : Int))) := fun i hi => by have := lsOk_at hok hi; unfold lOk at this; omega
  have HL := Lib.hid i4.len
  have HJ := Lib.hid (joinF_is ls)
  have HAT : Hid (∀ i, i < k → gI (joinL ls k) i = (joinF ls i : Int)) := fun i hi => joinL_at ls hi
  have HLN := Lib.hid (joinL_len ls k)
  obtain ⟨gb, rfl, hgb1, hgb2⟩ := own_at g4 (by omega)
  clear hR hok g3 j3 s3 r3 i3 hb4
  go_wp2
  go_loopw [7] (fun i wr => ∃ j : Nat, j ≤ m ∧ i = .int .i64 j ∧ Below w4.heap.size w4 wr) (fun i _ => m - (intOf i).toNat)
  case atStart => exact ⟨0, Nat.zero_le _, rfl, Below.refl _ _⟩
  case round =>
    obtain ⟨j, hj, rfl, hb⟩ := hrel
    by_cases hlt : j < m
    · obtain ⟨b, off, rfl, hbB, hkz, hc⟩ := i4.at_ hlt
      obtain ⟨q1, q2, q3⟩ := hc j hlt
      have p1 := (bcell hb _ _ hbB).trans q1
      have p2 := (bcell hb _ _ hbB).trans q2
      obtain ⟨⟨a1, a2⟩, ⟨a3, a4⟩⟩ := HIN.out j hkz
      have hsame : joinF ls (gL ls j).f.toNat = joinF ls (gL ls j).t.toNat := HJ.out.same _ (gL_mem hkz)
      have g5 := own_below g4 hb
      have r1 : wr.cell? ⟨gb, (gL ls j).f.toNat, none⟩ = some (.int .i64 (joinF ls (gL ls j).f.toNat : Int)) := by
        rw [g5.cellAt _ (by omega), getElem?_map_some (by rw [HLN.out]; omega), HAT.out _ (by omega)]
      have r2 : wr.cell? ⟨gb, (gL ls j).t.toNat, none⟩ = some (.int .i64 (joinF ls (gL ls j).f.toNat : Int)) := by
        rw [g5.cellAt _ (by omega), getElem?_map_some (by rw [HLN.out]; omega), HAT.out _ (by omega), hsame]
      have hjI : (j : Int) < (m : Int) := by omega
      generalize gL ls j = l at *
      generalize (joinF ls l.f.toNat : Int) = x at *
      have hx : (x != x) = false := by simp
      clear q1 q2 q3 hc hsame g5
      go_wp2
      go_quiet (fail)
      go_wp2
      go_roundw
      case rel => exact ⟨j + 1, by omega, by go_num, below_drewN hb _⟩
      case measure => simp [intOf]; omega
    · go_wp2
      go_loopw [8] (fun i wr => ∃ j : Nat, j ≤ k ∧ i = .int .i64 j ∧ Below w4.heap.size w4 wr) (fun i _ => k - (intOf i).toNat)
      case atStart => exact ⟨0, Nat.zero_le _, rfl, hb⟩
      case round =>
        obtain ⟨q, hq, rfl, hbq⟩ := hrel
        by_cases hltq : q < k
        · have g5 := own_below g4 hbq
          have hle := HJ.out.le q
          have hid := HJ.out.idem q
          have r1 : wr.cell? ⟨gb, q, none⟩ = some (.int .i64 (joinF ls q : Int)) := by
            rw [g5.cellAt _ (by omega), getElem?_map_some (by rw [HLN.out]; omega), HAT.out _ (by omega)]
          have r2 : wr.cell? ⟨gb, joinF ls q, none⟩ = some (.int .i64 (joinF ls q : Int)) := by
            rw [g5.cellAt _ (by omega), getElem?_map_some (by rw [HLN.out]; omega), HAT.out _ (by omega), hid]
          generalize joinF ls q = x at *
          have hx : ((x : Int) != (x : Int)) = false := by simp
          have hxk : (x : Int) < (k : Int) := by omega
          have hqk : (q : Int) < (k : Int) := by omega
          have hxq : decide ((q : Int) < (x : Int)) = false := by simp; omega
          have hx0 : decide ((x : Int) < 0) = false := by simp
          clear hid g5
          go_wp2
          go_quiet (fail)
          go_wp2
          go_roundw
          case rel => exact ⟨q + 1, by omega, by go_num, below_drewN hbq _⟩
          case measure => simp [intOf]; omega
        · go_wp2
          go_ret
          exact ⟨rfl, Below.step hT4 hbq⟩

set_option maxHeartbeats 2000000 in
theorem fnJoinedMany_walk (A : Option Addr) (n c : Nat) (bs : List Int) (w : World) (h : BSl w w.heap.size A n c bs) :
    Calls Try.prog 9 #[.slice A n c] w fun e w' => e = .returned (.bool true) ∧ Below w.heap.size w w' := by
  by_cases hbig : 1048576 < n
  · go_enter Try.func9, Try.ntmps9
    go_wp2
    go_ret
    exact ⟨rfl, Below.refl _ _⟩
  go_enter Try.func9, Try.ntmps9
  go_wp2_with fail
  refine (DrawLinksJoined_any _ _ _ _ _ h (by omega)).mono ?_
  rintro e w1 ⟨many, A1, m, c1, ls, rfl, hD, hb1⟩
  have hm9 := hD.few
  have hp := hD.pos
  have hp6 := hD.six
  have i1 := LSl.of_own hD.own hD.inL
  clear hD
  go_wp2_with fail
  refine (iLinksJoined_any _ _ _ _ _ _ i1 (by omega)).mono ?_
  rintro e w2 ⟨A2, k, c2, rfl, g2, hb2⟩
  have hT2 := Below.step hb1 hb2
  have i2 := (i1.below hb2).more hb2.size
  have hkl : (joinedR (many : Int) ls).length = k := by have := g2.1; simpa using this
  have HK := Lib.hid hkl
  have hk12 : k ≤ 12 := by have := joinedR_len (many : Int) ls; omega
  have hlt2 : w1.heap.size ≤ w2.heap.size := hb2.size
  clear i1 hb2 hkl
  go_wp2_with fail
  refine (sLinksJoined_any _ _ _ _ _ _ i2 (by omega)).mono ?_
  rintro e w3 ⟨A3, k3, c3, rfl, r3, hb3⟩
  have hT3 := Below.step hT2 hb3
  have i3 := (i2.below hb3).more hb3.size
  have g3 := own_below g2 hb3
  have hk3 : k3 ≤ 12 := by have h1 := r3.1; have := joinedR_len (many : Int) ls; simp at h1; omega
  have j3 := ISl.of_own g3 (joinedR_in _ _)
  have s3 := ISl.of_own r3 (joinedR_in _ _)
  clear i2 g2 hb3
  by_cases hk0 : k = 0
  · subst hk0
    go_wp2_with fail
    refine (sameInts_same _ _ _ _ _ _ _ _ j3 s3 (by omega)).mono ?_
    rintro e w4 ⟨rfl, hb4⟩
    have hT4 := Below.step hT3 hb4
    have j4 := (j3.below hb4).more hb4.size
    have s4 := (s3.below hb4).more hb4.size
    go_wp2_with fail
    refine (sameInts_same _ _ _ _ _ _ _ _ j4 s4 (by omega)).mono ?_
    rintro e w5 ⟨rfl, hb5⟩
    have hT5 := Below.step hT4 hb5
    go_wp2
    go_ret
    exact ⟨rfl, hT5⟩
  have hk0' : ((k : Int) == 0) = false := by simp; omega
  go_wp2_with fail
  refine (sameInts_same _ _ _ _ _ _ _ _ j3 s3 (by omega)).mono ?_
  rintro e w4 ⟨rfl, hb4⟩
  have hT4 := Below.step hT3 hb4
  have i4 := (i3.below hb4).more hb4.size
  have g4 := own_below g3 hb4
  have hok := joinedR_ok (many := many) (ls := ls) (by rw [HK.out]; omega)
  have hR := joinedR_yes hok
  have hkm : k = many := by rw [← HK.out, hR, joinL_len]
  subst hkm
  rw [hR] at g4
  have HAT : Hid (∀ i, i < k → gI (joinL ls k) i = (joinF ls i : Int)) := fun i hi => joinL_at ls hi
  have HLN := Lib.hid (joinL_len ls k)
  have HRT : Hid (k ≤ cnt (fun i => decide (joinF ls i = i)) k + m) := by have := joinF_roots ls k; show k ≤ _; rw [i4.len] at this; exact this
  have HR1 : Hid (1 ≤ cnt (fun i => decide (joinF ls i = i)) k) := by
    have j0 : joinF ls 0 = 0 := by have := (joinF_is ls).le 0; omega
    have := cnt_lt (P := fun _ => false) (Q := fun i => decide (joinF ls i = i)) (n := k) (k := 0) (fun _ _ h => by cases h) (by omega) rfl (by simp [j0])
    show 1 ≤ _; omega
  have HLE := Lib.hid (cnt_le (fun i => decide (joinF ls i = i)) k)
  obtain ⟨gb, rfl, hgb1, hgb2⟩ := own_at g4 (by omega)
  clear hR hok g3 j3 s3 r3 i3 hb4
  go_wp2
  go_loopw [7, 8] (fun q i wr => ∃ j : Nat, j ≤ k ∧ i = .int .i64 j ∧ q = .int .i64 (cnt (fun i => decide (joinF ls i = i)) j : Nat) ∧ Below w4.heap.size w4 wr) (fun _ i _ => k - (intOf i).toNat)
  case atStart => exact ⟨0, Nat.zero_le _, rfl, rfl, Below.refl _ _⟩
  case round =>
    obtain ⟨j, hj, rfl, rfl, hb⟩ := hrel
    have hcj := cnt_le (fun i => decide (joinF ls i = i)) j
    by_cases hlt : j < k
    · have g5 := own_below g4 hb
      have r1 : wr.cell? ⟨gb, j, none⟩ = some (.int .i64 (joinF ls j : Int)) := by
        rw [g5.cellAt _ (by omega), getElem?_map_some (by rw [HLN.out]; omega), HAT.out _ (by omega)]
      clear g5
      by_cases he : joinF ls j = j
      · have he' : ((joinF ls j : Int) == (j : Int)) = true := by simp [he]
        have HC : Hid (cnt (fun i => decide (joinF ls i = i)) (j + 1) = cnt (fun i => decide (joinF ls i = i)) j + 1) := by show cnt _ (j + 1) = _; rw [cnt]; simp [he]
        clear he
        generalize (joinF ls j : Int) = x at *
        go_wp2
        go_roundw
        case rel => exact ⟨j + 1, by omega, by go_num, by rw [HC.out]; go_num, hb⟩
        case measure => simp [intOf]; omega
      · have he' : ((joinF ls j : Int) == (j : Int)) = false := by simp; omega
        have HC : Hid (cnt (fun i => decide (joinF ls i = i)) (j + 1) = cnt (fun i => decide (joinF ls i = i)) j) := by show cnt _ (j + 1) = _; rw [cnt]; simp [he]
        clear he
        generalize (joinF ls j : Int) = x at *
        go_wp2
        go_roundw
        case rel => exact ⟨j + 1, by omega, by go_num, by rw [HC.out], hb⟩
        case measure => simp [intOf]; omega
    · obtain rfl : j = k := by omega
      have h1 := HR1.out
      have h2 := HRT.out
      generalize cnt (fun i => decide (joinF ls i = i)) j = z at *
      have h1I : (1 : Int) ≤ (z : Int) := by omega
      have h2I : (j : Int) - (m : Int) ≤ (z : Int) := by omega
      go_wp2
      go_ret
      exact ⟨rfl, Below.step hT4 hb⟩

set_option maxHeartbeats 2000000 in
theorem fnJoinedLess_walk (A : Option Addr) (n c : Nat) (bs : List Int) (w : World) (h : BSl w w.heap.size A n c bs) :
    Calls Try.prog 8 #[.slice A n c] w fun e w' => e = .returned (.bool true) ∧ Below w.heap.size w w' := by
  by_cases hbig : 1048576 < n
  · go_enter Try.func8, Try.ntmps8
    go_wp2
    go_ret
    exact ⟨rfl, Below.refl _ _⟩
  go_enter Try.func8, Try.ntmps8
  go_wp2_with fail
  refine (DrawLinksJoined_any _ _ _ _ _ h (by omega)).mono ?_
  rintro e w1 ⟨many, A1, m, c1, ls, rfl, hD, hb1⟩
  have hm9 := hD.few
  have hp := hD.pos
  have hp6 := hD.six
  have i1 := LSl.of_own hD.own hD.inL
  clear hD
  go_wp2_with fail
  refine (iLinksJoined_any _ _ _ _ _ _ i1 (by omega)).mono ?_
  rintro e w2 ⟨A2, k, c2, rfl, g2, hb2⟩
  have hT2 := Below.step hb1 hb2
  have i2 := (i1.below hb2).more hb2.size
  have hkl : (joinedR (many : Int) ls).length = k := by have := g2.1; simpa using this
  have HK := Lib.hid hkl
  have hk12 : k ≤ 12 := by have := joinedR_len (many : Int) ls; omega
  have hlt2 : w1.heap.size ≤ w2.heap.size := hb2.size
  clear i1 hb2 hkl
  go_wp2_with fail
  refine (sLinksJoined_any _ _ _ _ _ _ i2 (by omega)).mono ?_
  rintro e w3 ⟨A3, k3, c3, rfl, r3, hb3⟩
  have hT3 := Below.step hT2 hb3
  have i3 := (i2.below hb3).more hb3.size
  have g3 := own_below g2 hb3
  have hk3 : k3 ≤ 12 := by have h1 := r3.1; have := joinedR_len (many : Int) ls; simp at h1; omega
  have j3 := ISl.of_own g3 (joinedR_in _ _)
  have s3 := ISl.of_own r3 (joinedR_in _ _)
  clear i2 g2 hb3
  by_cases hk0 : k = 0
  · subst hk0
    go_wp2_with fail
    refine (sameInts_same _ _ _ _ _ _ _ _ j3 s3 (by omega)).mono ?_
    rintro e w4 ⟨rfl, hb4⟩
    have hT4 := Below.step hT3 hb4
    have j4 := (j3.below hb4).more hb4.size
    have s4 := (s3.below hb4).more hb4.size
    go_wp2_with fail
    refine (sameInts_same _ _ _ _ _ _ _ _ j4 s4 (by omega)).mono ?_
    rintro e w5 ⟨rfl, hb5⟩
    have hT5 := Below.step hT4 hb5
    go_wp2
    go_ret
    exact ⟨rfl, hT5⟩
  have hk0' : ((k : Int) == 0) = false := by simp; omega
  go_wp2_with fail
  refine (sameInts_same _ _ _ _ _ _ _ _ j3 s3 (by omega)).mono ?_
  rintro e w4 ⟨rfl, hb4⟩
  have hT4 := Below.step hT3 hb4
  have i4 := (i3.below hb4).more hb4.size
  have g4 := own_below g3 hb4
  have hok := joinedR_ok (many := many) (ls := ls) (by rw [HK.out]; omega)
  have hR := joinedR_yes hok
  have hkm : k = many := by rw [← HK.out, hR, joinL_len]
  subst hkm
  rw [hR] at g4
  have HAT : Hid (∀ i, i < k → gI (joinL ls k) i = (joinF ls i : Int)) := fun i hi => joinL_at ls hi
  have HLN := Lib.hid (joinL_len ls k)
  obtain ⟨gb, rfl, hgb1, hgb2⟩ := own_at g4 (by omega)
  have hcap := i4.cap
  have HOK := Lib.hid hok
  have hs4 := hT4.size
  clear hR hok g3 j3 s3 r3 i3 hb4
  obtain ⟨m', hm', hcase⟩ : ∃ m' : Nat, m' ≤ m ∧ ((m = 0 ∧ m' = 0) ∨ (1 ≤ m ∧ m' + 1 = m)) := by
    rcases Nat.eq_zero_or_pos m with h0 | h0
    · exact ⟨0, by omega, .inl ⟨h0, rfl⟩⟩
    · exact ⟨m - 1, by omega, .inr ⟨h0, by omega⟩⟩
  have i4c := i4.cut hm'
  have HX : Hid (lsOk (k : Int) (ls.take m') = true) := lsOk_sub HOK.out (by have := lsOk_bd HOK.out; simp; omega) (fun l hl => List.mem_of_mem_take hl)
  have HXR : Hid (joinedR (k : Int) (ls.take m') = joinL (ls.take m') k) := joinedR_yes HX.out
  have HYR : Hid (joinedR (k : Int) [] = joinL [] k) := joinedR_yes (by have := lsOk_bd HOK.out; exact lsOk_of this.1 this.2.1 (by simp) (fun l hl => by cases hl))
  have HLESS : Hid (∀ i, joinF ls i ≤ joinF (ls.take m') i) := joinF_less (fun l hl => List.mem_of_mem_take hl)
  obtain ⟨xs, hxs⟩ : ∃ xs, ls.take m' = xs := ⟨_, rfl⟩
  rw [hxs] at i4c HX HXR HLESS
  clear hxs
  rcases hcase with ⟨rfl, rfl⟩ | ⟨hm1, rfl⟩
  all_goals
    go_wp2_with fail
    refine (iLinksJoined_any _ _ _ _ _ _ i4c (by omega)).mono ?_
    rintro e w5 ⟨A5, k5, c5, rfl, x5, hb5⟩
    have hT5 := Below.step hT4 hb5
    have g5 := own_below g4 hb5
    have hk5 : k5 = k := by have h1 := x5.1; rw [HXR.out] at h1; simpa [joinL] using h1.symm
    subst hk5
    rw [HXR.out] at x5
    have hs5 := hb5.size
    go_wp2_with fail
    refine (iLinksJoined_any _ _ _ _ [] _ (LSl.nil _ _ _ _) (by omega)).mono ?_
    rintro e w6 ⟨A6, k6, c6, rfl, y6, hb6⟩
    have hba : Below w5.heap.size w5 w6 := ((Below.refl _ _).alloc (Nat.le_refl _) _).trans (hb6.mono (by simp))
    have hT6 := Below.step hT5 hba
    have g6 := own_below g5 hba
    have x6 := own_below x5 hba
    have hk6 : k6 = k5 := by have h1 := y6.1; rw [HYR.out] at h1; simpa [joinL] using h1.symm
    subst hk6
    rw [HYR.out] at y6
    obtain ⟨xb, rfl, _, _⟩ := own_at x6 (by omega)
    obtain ⟨yb, rfl, _, _⟩ := own_at y6 (by omega)
    clear hb5 hb6 hba g5 x5 g4 i4 i4c
    go_wp2
    go_loopw [9] (fun i wr => ∃ j : Nat, j ≤ k6 ∧ i = .int .i64 j ∧ Below w6.heap.size w6 wr) (fun i _ => k6 - (intOf i).toNat)
    case atStart => exact ⟨0, Nat.zero_le _, rfl, Below.refl _ _⟩
    case round =>
      obtain ⟨j, hj, rfl, hb⟩ := hrel
      by_cases hlt : j < k6
      · have r1 : wr.cell? ⟨gb, j, none⟩ = some (.int .i64 (joinF ls j : Int)) := by
          rw [(own_below g6 hb).cellAt _ (by omega), getElem?_map_some (by rw [HLN.out]; omega), HAT.out _ (by omega)]
        obtain ⟨X, hX⟩ : ∃ X, joinF xs j = X := ⟨_, rfl⟩
        have r2 : wr.cell? ⟨xb, j, none⟩ = some (.int .i64 (X : Int)) := by
          rw [(own_below x6 hb).cellAt _ (by omega), getElem?_map_some (by rw [joinL_len]; omega), joinL_at _ (by omega), hX]
        have r3 : wr.cell? ⟨yb, j, none⟩ = some (.int .i64 (j : Int)) := by
          rw [(own_below y6 hb).cellAt _ (by omega), getElem?_map_some (by rw [joinL_len]; omega), joinL_at _ (by omega)]; rfl
        have hle := HLESS.out j
        rw [hX] at hle
        generalize joinF ls j = Y at *
        have hd : decide ((X : Int) < (Y : Int)) = false := by simp; omega
        have hjj : ((j : Int) != (j : Int)) = false := by simp
        have hjI : (j : Int) < (k6 : Int) := by omega
        clear hX
        go_wp2
        go_quiet (fail)
        go_wp2
        go_roundw
        case rel => exact ⟨j + 1, by omega, by go_num, below_drewN hb _⟩
        case measure => simp [intOf]; omega
      · go_wp2
        go_ret
        exact ⟨rfl, Below.step hT6 hb⟩
end Go.Proofs.Ytaefojbgialiaaa
