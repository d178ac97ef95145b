/- The walk of the program's nearestLine, with its two closures. -/
import Derived.Test.YtpkfpegilhadfabMtBestS
import Derived.Test.YtpkfpegilhadfabSearch
set_option linter.unusedVariables false
namespace Go.Proofs.Ytpkfpegilhadfab
open Go.RowKit Lk Mt

theorem one_new (w : World) (a : Value) (t : TypeId) : (w.alloc (.cells #[a] t)).cell? ⟨w.heap.size, 0, none⟩ = some a := by
  rw [cell_of_row _ _ _ _ _ _ (heap_alloc_new w _)]; rfl
theorem first_ex {L : List Line} (hA : Asc L) (x : Int) : ∀ m, m ≤ L.length → ∃ q, q ≤ m ∧ (∀ i, i < q → (gX L i).n < x) ∧ ∀ i, q ≤ i → i < m → x ≤ (gX L i).n
  | 0, _ => ⟨0, Nat.le_refl _, fun i h => by omega, fun i _ h => by omega⟩
  | m + 1, hm => by
    obtain ⟨q, h1, h2, h3⟩ := first_ex hA x m (by omega)
    by_cases c : q < m
    · refine ⟨q, by omega, h2, fun i h4 h5 => ?_⟩
      by_cases e : i = m
      · subst e
        have a := h3 q (Nat.le_refl _) c
        have b := hA q i (by omega) (by omega)
        omega
      · exact h3 i h4 (by omega)
    · by_cases d : x ≤ (gX L m).n
      · exact ⟨q, by omega, h2, fun i h4 h5 => by have : i = m := by omega
                                                  rw [this]; exact d⟩
      · exact ⟨m + 1, Nat.le_refl _, fun i hi => by
          by_cases e : i = m
          · rw [e]; omega
          · exact h2 i (by omega), fun i h4 h5 => by omega⟩
theorem first_count {L : List Line} (hA : Asc L) (x : Int) {n : Nat} (hn : L.length = n) : First L x ((List.range n).countP (fun i => !decide (x ≤ (gX L i).n))) := by
  obtain ⟨q, h1, h2, h3⟩ := first_ex hA x L.length (Nat.le_refl _)
  subst hn
  rw [count_at h1 (fun t ht => by have := h2 t ht; simpa using this) (fun t ht htn => by have := h3 t ht htn; simpa using this)]
  exact ⟨h1, h2, h3⟩
set_option maxHeartbeats 1000000 in
theorem near11_any (i P1 P2 B : Nat) (A : Option Addr) (n c : Nat) (L : List Line) (x : Int) (w : World) (h1 : w.cell? ⟨P1, 0, none⟩ = some (.slice A n c)) (h2 : w.cell? ⟨P2, 0, none⟩ = some (.int .i64 x)) (i2 : LSl w B A n c (L.map lm)) (hi : i < n) :
    Calls Try.prog 76 #[.int .i64 i, .pointer (some ⟨P1, 0, none⟩), .pointer (some ⟨P2, 0, none⟩)] w fun e w' => e = .returned (.bool (decide (x ≤ (gX L i).n))) ∧ Below w.heap.size w w' := by
  obtain ⟨b, off, rfl, hbB, hc⟩ := i2.num hi
  have p1 := hc i hi
  generalize (gX L i).n = y at p1 ⊢
  have hlt : (i : Int) < (n : Int) := by omega
  clear hc
  go_enter Try.func76, Try.ntmps76
  go_wp2
  go_quiet (fail)
  go_wp2
  go_ret
  exact ⟨rfl, below_drewN (Below.refl _ _) _⟩
set_option maxHeartbeats 1000000 in
theorem near1_any (P1 B : Nat) (A : Option Addr) (n c : Nat) (L : List Line) (x : Int) (w : World) (h1 : w.cell? ⟨P1, 0, none⟩ = some (.slice A n c)) (i2 : LSl w w.heap.size A n c (L.map lm)) (hA : Asc L) (hn : n ≤ 1000) :
    Calls Try.prog 75 #[.int .i64 x, .pointer (some ⟨P1, 0, none⟩)] w fun e w' => ∃ q : Nat, e = .returned (.int .i64 q) ∧ First L x q ∧ Below w.heap.size w w' := by
  have hl : L.length = n := by have := i2.len; simpa using this
  have hP1 : P1 < w.heap.size := cell_lt h1
  have hb1 : Below w.heap.size w (w.alloc (.cells #[.int .i64 x] 3)) := (Below.refl _ _).alloc (Nat.le_refl _) _
  have c1 : ∀ o, (w.alloc o).cell? ⟨P1, 0, none⟩ = some (.slice A n c) := fun o => (bcell ((Below.refl _ _).alloc (Nat.le_refl _) o) _ _ hP1).trans h1
  have c2 := one_new w (.int .i64 x) 3
  have HF := Lib.hid (first_count hA x hl)
  have eg : ∀ args w, (callFunc 76 args).run Try.prog w = .ok (.enter 76 args) w := enters_of Try.func76 (by kernel_rfl) rfl
  have hS := search_any 76 #[.pointer (some ⟨P1, 0, none⟩), .pointer (some ⟨w.heap.size, 0, none⟩)] n (fun i => decide (x ≤ (gX L i).n)) (w.alloc (.cells #[.int .i64 x] 3)) eg (by omega)
    (fun W i hW hi => near11_any i P1 w.heap.size w.heap.size A n c L x W ((bcell hW _ _ (by simp; omega)).trans (c1 _)) ((bcell hW _ _ (by simp)).trans c2) ((i2.below hb1).below (hW.mono (by simp))) hi)
    (fun a b hab hbn h => by have h' : x ≤ (gX L a).n := by simpa using h
                             have := hA a b hab (by omega)
                             simp; omega)
  generalize (List.range n).countP (fun i => !decide (x ≤ (gX L i).n)) = q at HF hS
  have HB := Lib.hid hb1
  clear i2 hA hl c2 eg
  go_enter Try.func75, Try.ntmps75
  go_wp2_with (go_at_call 57; refine hS.mono ?_; rintro e w' ⟨rfl, hb2⟩)
  go_ret
  exact ⟨q, rfl, HF.out, HB.out.trans (hb2.mono (by simp))⟩
set_option maxRecDepth 100000 in
set_option maxHeartbeats 8000000 in
theorem nearest_any (A : Option Addr) (n c : Nat) (L : List Line) (seen tol : Int) (w : World) (h : LSl w w.heap.size A n c (L.map lm)) (hA : Asc L) (hn : n ≤ 1000) (hin : ∀ i, i < n → 0 < (gX L i).n ∧ (gX L i).n ≤ 200000) (m1 : 0 ≤ seen) (m2 : seen ≤ 200000) (m3 : 0 ≤ tol) (m4 : tol ≤ 1000) :
    Calls Try.prog 54 #[.slice A n c, .int .i64 seen, .int .i64 tol] w fun e w' => e = .returned (.int .i64 (bestL L seen tol)) ∧ Below w.heap.size w w' := by
  have HIN := Lib.hid hin
  have HL : Hid (L.length = n) := by show _ = _; have := h.len; simpa using this
  have HA := Lib.hid hA
  have hb1 : Below w.heap.size w (w.alloc (.cells #[.slice A n c] 25)) := (Below.refl _ _).alloc (Nat.le_refl _) _
  have hP1 : w.heap.size < (w.alloc (.cells #[.slice A n c] 25)).heap.size := by simp
  have HE0 := Lib.hid (one_new w (.slice A n c) 25)
  have i1 := (h.below hb1).more hb1.size
  clear hin hA h
  go_enter Try.func54, Try.ntmps54
  go_upto_region 3 with (fail)
  obtain ⟨w1, hw1⟩ : ∃ w1, w.alloc (.cells #[.slice A n c] 25) = w1 := ⟨_, rfl⟩
  rw [hw1] at hb1 hP1 HE0 i1 ⊢
  clear hw1
  go_upto_region 4 with (go_at_call 75; refine (near1_any _ w1.heap.size _ _ _ _ seen _ HE0.out i1 HA.out hn).mono ?_; rintro e w2 ⟨a, rfl, hfa, hb2⟩)
  have HFA := Lib.hid hfa
  have han : a ≤ n := by have := hfa.1; rw [HL.out] at this; exact this
  clear hfa
  by_cases hn0 : n = 0
  · have ha0 : a = 0 := by omega
    subst ha0
    have HBN : Hid (bestL L seen tol = -1) := best_none (by rw [HL.out]; exact hn0)
    have e0 : ∀ g : Gw w1.heap.size w1, g.W.cell? ⟨w.heap.size, 0, none⟩ = some (.slice A n c) := fun g => g.cell hP1 HE0.out
    subst hn0
    go_upto_region 6 with (fail)
    have hnonempty := Gw.ne (Nat.le_refl w1.heap.size) hb2
    refine wp_region_gw (Nat.le_refl w1.heap.size) hb2 (by kernel_rfl) (by kernel_rfl) ?_
    repeat (go_big_quiet_step ((fail)))
    refine wpQuiet_nil ?_
    intro wq hw'
    have hq := Gw.out hw'
    clear hw' hnonempty
    have HB := Lib.hid (hb1.trans (hq.mono (by omega)))
    clear hb2 hq e0 i1
    go_wp2
    go_ret
    exact ⟨ret_int HBN.out.symm, HB.out⟩
  obtain ⟨b, off, rfl, hbB1, hc⟩ := i1.num (k := 0) (by omega)
  have HC := Lib.hid hc
  clear hc
  have e0 : ∀ g : Gw w1.heap.size w1, g.W.cell? ⟨w.heap.size, 0, none⟩ = some (.slice (some ⟨b, off, none⟩) n c) := fun g => g.cell hP1 HE0.out
  by_cases ha0 : a = 0
  · subst ha0
    have HLAW := best_right (tol := tol) HFA.out (by rw [HL.out]; omega) HA.out (fun h => absurd h (Nat.lt_irrefl 0))
    have g1 : decide ((0 : Int) < (n : Int)) = true := by simp; omega
    have g2 : decide (0 < n) = true := by simp; omega
    go_upto_region 6 with (fail)
    have hnonempty := Gw.ne (Nat.le_refl w1.heap.size) hb2
    refine wp_region_gw (Nat.le_refl w1.heap.size) hb2 (by kernel_rfl) (by kernel_rfl) ?_
    repeat (go_big_quiet_step ((fail)))
    refine wpQuiet_nil ?_
    intro wq hw'
    have hq := Gw.out hw'
    clear hw' hnonempty
    have hbw := hq
    clear hb2 hq e0 i1 g1 g2
    go_upto_region 8 with (fail)
    have pz := (bcell hbw _ _ hbB1).trans (HC.out 0 (by omega))
    have e9 := (bcell hbw _ _ hP1).trans HE0.out
    have hz := HIN.out 0 (by omega)
    obtain ⟨G, hG⟩ : ∃ F, Mt.off L seen 0 = F := ⟨_, rfl⟩
    have hG2 := hG
    rw [hG] at HLAW
    unfold Mt.off at hG2
    obtain ⟨Y, hY⟩ : ∃ X, (gX L 0).n = X := ⟨_, rfl⟩
    rw [hY] at pz hz hG2
    have hc2 := fun W => iabs_any (Y - seen) W (by omega) (by omega)
    simp only [hG2] at hc2
    have hGb : 0 ≤ G ∧ G ≤ 400000 := by omega
    obtain ⟨f3, f4⟩ := hGb
    obtain ⟨y1, y2⟩ := hz
    have u2 : IntKind.i64.wrap (Y - seen) = Y - seen := IntWalk.i64_in _ (by omega)
    have hzn : 0 < n := by omega
    have HB := Lib.hid (hb1.trans (hbw.mono (by omega)))
    clear hG hG2 hY hbw
    by_cases hfg : tol < G
    · have HS := Lib.hid (HLAW.trans (if_pos hfg))
      clear HLAW
      go_wp2_with (go_at_call 68; (with_reducible refine (hc2 _).mono ?_); rintro e w' ⟨rfl, rfl⟩)
      go_ret
      exact ⟨ret_int HS.out.symm, HB.out⟩
    · have HS := Lib.hid (HLAW.trans (if_neg hfg))
      clear HLAW
      go_wp2_with (go_at_call 68; (with_reducible refine (hc2 _).mono ?_); rintro e w' ⟨rfl, rfl⟩)
      go_ret
      exact ⟨ret_int HS.out.symm, HB.out⟩
  have h0 : 0 < a := by omega
  obtain ⟨N1, hN1⟩ : ∃ x, (gX L (a - 1)).n = x := ⟨_, rfl⟩
  have HN1 := Lib.hid hN1
  have e1 := (bcell hb2 _ _ hP1).trans HE0.out
  have p1 := (bcell hb2 _ _ hbB1).trans (HC.out (a - 1) (by omega))
  rw [hN1] at p1
  clear hN1
  have i2 := (i1.below hb2).more hb2.size
  go_upto_region 6 with (go_at_call 75; refine (near1_any _ w2.heap.size _ _ _ _ N1 _ e1 i2 HA.out hn).mono ?_; rintro e w3 ⟨q, rfl, hfq, hb3⟩)
  rw [← HN1.out] at hfq
  have HFQ := Lib.hid hfq
  have hqa := (near_left HFA.out h0 HFQ.out HA.out).1
  have hbw3 : Below w1.heap.size w1 w3 := hb2.trans (hb3.mono hb2.size)
  clear hfq hb2 hb3 e1 p1 i1 i2
  have hqn2 : q < n := by omega
  obtain ⟨Nq, hNq⟩ : ∃ x, (gX L q).n = x := ⟨_, rfl⟩
  have HNQ := Lib.hid hNq
  have hbq := HIN.out q hqn2
  have p2 : ∀ g : Gw w1.heap.size w1, g.W.cell? ⟨b, off + q * 3 + 2, none⟩ = some (.int .i64 Nq) := fun g => g.cell hbB1 (by rw [← hNq]; exact HC.out q hqn2)
  rw [hNq] at hbq
  obtain ⟨k1, k2⟩ := hbq
  have g3 : decide ((q : Int) < 0) = false := by simp
  have u4 : IntKind.i64.wrap (seen - Nq) = seen - Nq := IntWalk.i64_in _ (by omega)
  clear hNq
  by_cases hlt : a < n
  case neg =>
    have hae : a = n := by omega
    have HLAW := best_left (tol := tol) HFA.out h0 HFQ.out HA.out (fun h => by rw [HL.out] at h; omega)
    have g1 : decide ((a : Int) < (n : Int)) = false := by simp; omega
    have g2 : decide (a < n) = false := by simp; omega
    clear hae hlt
    have hnonempty := Gw.ne (Nat.le_refl w1.heap.size) hbw3
    refine wp_region_gw (Nat.le_refl w1.heap.size) hbw3 (by kernel_rfl) (by kernel_rfl) ?_
    repeat (go_big_quiet_step ((fail)))
    refine wpQuiet_nil ?_
    intro wq hw'
    have hq := Gw.out hw'
    clear hw' hnonempty
    have hbw := hq
    clear hbw3 hq e0 g1 g2 g3 p2 u4
    go_upto_region 8 with (fail)
    have pz := (bcell hbw _ _ hbB1).trans (HC.out q (by omega))
    have e9 := (bcell hbw _ _ hP1).trans HE0.out
    have hz := HIN.out q (by omega)
    obtain ⟨G, hG⟩ : ∃ F, Mt.off L seen q = F := ⟨_, rfl⟩
    have hG2 := hG
    rw [hG] at HLAW
    unfold Mt.off at hG2
    obtain ⟨Y, hY⟩ : ∃ X, (gX L q).n = X := ⟨_, rfl⟩
    rw [hY] at pz hz hG2
    have hc2 := fun W => iabs_any (Y - seen) W (by omega) (by omega)
    simp only [hG2] at hc2
    have hGb : 0 ≤ G ∧ G ≤ 400000 := by omega
    obtain ⟨f3, f4⟩ := hGb
    obtain ⟨y1, y2⟩ := hz
    have u2 : IntKind.i64.wrap (Y - seen) = Y - seen := IntWalk.i64_in _ (by omega)
    have hzn : q < n := by omega
    have HB := Lib.hid (hb1.trans (hbw.mono (by omega)))
    clear hG hG2 hY hbw
    by_cases hfg : tol < G
    · have HS := Lib.hid (HLAW.trans (if_pos hfg))
      clear HLAW
      go_wp2_with (go_at_call 68; (with_reducible refine (hc2 _).mono ?_); rintro e w' ⟨rfl, rfl⟩)
      go_ret
      exact ⟨ret_int HS.out.symm, HB.out⟩
    · have HS := Lib.hid (HLAW.trans (if_neg hfg))
      clear HLAW
      go_wp2_with (go_at_call 68; (with_reducible refine (hc2 _).mono ?_); rintro e w' ⟨rfl, rfl⟩)
      go_ret
      exact ⟨ret_int HS.out.symm, HB.out⟩
  obtain ⟨Na, hNa⟩ : ∃ x, (gX L a).n = x := ⟨_, rfl⟩
  have HNA := Lib.hid hNa
  have hba := HIN.out a hlt
  have p3 : ∀ g : Gw w1.heap.size w1, g.W.cell? ⟨b, off + a * 3 + 2, none⟩ = some (.int .i64 Na) := fun g => g.cell hbB1 (by rw [← hNa]; exact HC.out a hlt)
  rw [hNa] at hba
  obtain ⟨k3, k4⟩ := hba
  have u5 : IntKind.i64.wrap (Na - seen) = Na - seen := IntWalk.i64_in _ (by omega)
  have g1 : decide ((a : Int) < (n : Int)) = true := by simp; omega
  have g2 : decide (a < n) = true := by simp; omega
  have hltI : (a : Int) < (n : Int) := by omega
  have hqnI : (q : Int) < (n : Int) := by omega
  clear hNa
  by_cases hcmp : Na - seen < seen - Nq
  · have g4 : decide (Na - seen < seen - Nq) = true := by simpa using hcmp
    have HLAW := best_right (tol := tol) HFA.out (by rw [HL.out]; exact hlt) HA.out (fun _ => ⟨q, HFQ.out, by rw [HNA.out, HNQ.out]; exact hcmp⟩)
    clear hcmp
    have hnonempty := Gw.ne (Nat.le_refl w1.heap.size) hbw3
    refine wp_region_gw (Nat.le_refl w1.heap.size) hbw3 (by kernel_rfl) (by kernel_rfl) ?_
    repeat (go_big_quiet_step ((fail)))
    refine wpQuiet_nil ?_
    intro wq hw'
    have hq := Gw.out hw'
    clear hw' hnonempty
    have hbw := hq
    clear hbw3 hq e0 g1 g2 g3 g4 p2 p3 u4 u5
    go_upto_region 8 with (fail)
    have pz := (bcell hbw _ _ hbB1).trans (HC.out a (by omega))
    have e9 := (bcell hbw _ _ hP1).trans HE0.out
    have hz := HIN.out a (by omega)
    obtain ⟨G, hG⟩ : ∃ F, Mt.off L seen a = F := ⟨_, rfl⟩
    have hG2 := hG
    rw [hG] at HLAW
    unfold Mt.off at hG2
    obtain ⟨Y, hY⟩ : ∃ X, (gX L a).n = X := ⟨_, rfl⟩
    rw [hY] at pz hz hG2
    have hc2 := fun W => iabs_any (Y - seen) W (by omega) (by omega)
    simp only [hG2] at hc2
    have hGb : 0 ≤ G ∧ G ≤ 400000 := by omega
    obtain ⟨f3, f4⟩ := hGb
    obtain ⟨y1, y2⟩ := hz
    have u2 : IntKind.i64.wrap (Y - seen) = Y - seen := IntWalk.i64_in _ (by omega)
    have hzn : a < n := by omega
    have HB := Lib.hid (hb1.trans (hbw.mono (by omega)))
    clear hG hG2 hY hbw
    by_cases hfg : tol < G
    · have HS := Lib.hid (HLAW.trans (if_pos hfg))
      clear HLAW
      go_wp2_with (go_at_call 68; (with_reducible refine (hc2 _).mono ?_); rintro e w' ⟨rfl, rfl⟩)
      go_ret
      exact ⟨ret_int HS.out.symm, HB.out⟩
    · have HS := Lib.hid (HLAW.trans (if_neg hfg))
      clear HLAW
      go_wp2_with (go_at_call 68; (with_reducible refine (hc2 _).mono ?_); rintro e w' ⟨rfl, rfl⟩)
      go_ret
      exact ⟨ret_int HS.out.symm, HB.out⟩
  · have g4 : decide (Na - seen < seen - Nq) = false := by simpa using hcmp
    have HLAW := best_left (tol := tol) HFA.out h0 HFQ.out HA.out (fun _ => by rw [HNA.out, HNQ.out]; exact hcmp)
    clear hcmp
    have hnonempty := Gw.ne (Nat.le_refl w1.heap.size) hbw3
    refine wp_region_gw (Nat.le_refl w1.heap.size) hbw3 (by kernel_rfl) (by kernel_rfl) ?_
    repeat (go_big_quiet_step ((fail)))
    refine wpQuiet_nil ?_
    intro wq hw'
    have hq := Gw.out hw'
    clear hw' hnonempty
    have hbw := hq
    clear hbw3 hq e0 g1 g2 g3 g4 p2 p3 u4 u5
    go_upto_region 8 with (fail)
    have pz := (bcell hbw _ _ hbB1).trans (HC.out q (by omega))
    have e9 := (bcell hbw _ _ hP1).trans HE0.out
    have hz := HIN.out q (by omega)
    obtain ⟨G, hG⟩ : ∃ F, Mt.off L seen q = F := ⟨_, rfl⟩
    have hG2 := hG
    rw [hG] at HLAW
    unfold Mt.off at hG2
    obtain ⟨Y, hY⟩ : ∃ X, (gX L q).n = X := ⟨_, rfl⟩
    rw [hY] at pz hz hG2
    have hc2 := fun W => iabs_any (Y - seen) W (by omega) (by omega)
    simp only [hG2] at hc2
    have hGb : 0 ≤ G ∧ G ≤ 400000 := by omega
    obtain ⟨f3, f4⟩ := hGb
    obtain ⟨y1, y2⟩ := hz
    have u2 : IntKind.i64.wrap (Y - seen) = Y - seen := IntWalk.i64_in _ (by omega)
    have hzn : q < n := by omega
    have HB := Lib.hid (hb1.trans (hbw.mono (by omega)))
    clear hG hG2 hY hbw
    by_cases hfg : tol < G
    · have HS := Lib.hid (HLAW.trans (if_pos hfg))
      clear HLAW
      go_wp2_with (go_at_call 68; (with_reducible refine (hc2 _).mono ?_); rintro e w' ⟨rfl, rfl⟩)
      go_ret
      exact ⟨ret_int HS.out.symm, HB.out⟩
    · have HS := Lib.hid (HLAW.trans (if_neg hfg))
      clear HLAW
      go_wp2_with (go_at_call 68; (with_reducible refine (hc2 _).mono ?_); rintro e w' ⟨rfl, rfl⟩)
      go_ret
      exact ⟨ret_int HS.out.symm, HB.out⟩
end Go.Proofs.Ytpkfpegilhadfab
