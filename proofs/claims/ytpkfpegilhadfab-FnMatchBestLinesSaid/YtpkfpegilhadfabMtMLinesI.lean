/- The walk of the program's MatchLines, with its two closures. -/
import Derived.Test.YtpkfpegilhadfabMtMLinesS
import Derived.Test.YtpkfpegilhadfabMtNear
set_option linter.unusedVariables false
namespace Go.Proofs.Ytpkfpegilhadfab
open Go.RowKit Lk Mt

set_option maxHeartbeats 1000000 in
theorem mlines1_any (i P1 P2 P3 B : Nat) (A : Option Addr) (n c : Nat) (L : List Line) (seen tol : Int) (w : World) (h1 : w.cell? ⟨P1, 0, none⟩ = some (.slice A n c)) (h2 : w.cell? ⟨P2, 0, none⟩ = some (.int .i64 seen)) (h3 : w.cell? ⟨P3, 0, none⟩ = some (.int .i64 tol)) (i2 : LSl w B A n c (L.map lm)) (hi : i < n) (m1 : 0 ≤ seen) (m2 : seen ≤ 200000) (m3 : 0 ≤ tol) (m4 : tol ≤ 1000) :
    Calls Try.prog 58 #[.int .i64 i, .pointer (some ⟨P1, 0, none⟩), .pointer (some ⟨P2, 0, none⟩), .pointer (some ⟨P3, 0, none⟩)] w fun e w' => e = .returned (.bool (decide (seen - tol ≤ (gX L i).n))) ∧ Below w.heap.size w w' := by
  obtain ⟨b, off, rfl, hbB, hc⟩ := i2.num hi
  have p1 := hc i hi
  generalize (gX L i).n = y at p1 ⊢
  have hlt : (i : Int) < (n : Int) := by omega
  have u1 : IntKind.i64.wrap (seen - tol) = seen - tol := IntWalk.i64_in _ (by omega)
  clear hc
  go_enter Try.func58, Try.ntmps58
  go_wp2
  go_quiet (fail)
  go_wp2
  go_ret
  exact ⟨rfl, below_drewN (Below.refl _ _) _⟩
set_option maxHeartbeats 1000000 in
theorem mlines2_any (i P1 P2 P3 B : Nat) (A : Option Addr) (n c : Nat) (L : List Line) (seen tol : Int) (w : World) (h1 : w.cell? ⟨P1, 0, none⟩ = some (.slice A n c)) (h2 : w.cell? ⟨P2, 0, none⟩ = some (.int .i64 seen)) (h3 : w.cell? ⟨P3, 0, none⟩ = some (.int .i64 tol)) (i2 : LSl w B A n c (L.map lm)) (hi : i < n) (m1 : 0 ≤ seen) (m2 : seen ≤ 200000) (m3 : 0 ≤ tol) (m4 : tol ≤ 1000) :
    Calls Try.prog 59 #[.int .i64 i, .pointer (some ⟨P1, 0, none⟩), .pointer (some ⟨P2, 0, none⟩), .pointer (some ⟨P3, 0, none⟩)] w fun e w' => e = .returned (.bool (decide (seen + tol + 1 ≤ (gX L i).n))) ∧ Below w.heap.size w w' := by
  obtain ⟨b, off, rfl, hbB, hc⟩ := i2.num hi
  have p1 := hc i hi
  generalize (gX L i).n = y at p1 ⊢
  have hlt : (i : Int) < (n : Int) := by omega
  have u1 : IntKind.i64.wrap (seen + tol) = seen + tol := IntWalk.i64_in _ (by omega)
  have HG : Hid (decide (seen + tol < y) = decide (seen + tol + 1 ≤ y)) := by show _ = _; rw [decide_eq_decide]; omega
  clear hc
  go_enter Try.func59, Try.ntmps59
  go_wp2
  go_quiet (fail)
  go_wp2
  go_ret
  exact ⟨ret_bool HG.out, below_drewN (Below.refl _ _) _⟩
theorem two_new0 (w : World) (a : Value) (t : TypeId) (b : Value) (t' : TypeId) : ((w.alloc (.cells #[a] t)).alloc (.cells #[b] t')).cell? ⟨w.heap.size, 0, none⟩ = some a := by
  rw [bcell ((Below.refl (w.alloc (.cells #[a] t)).heap.size (w.alloc (.cells #[a] t))).alloc (Nat.le_refl _) _) _ _ (by simp)]
  exact one_new w a t
set_option maxRecDepth 100000 in
set_option maxHeartbeats 8000000 in
theorem iMatchLines_any (A : Option Addr) (n c : Nat) (s : List Nd) (seen tol : Int) (w : World) (h : NSl w w.heap.size A n c s) :
    Calls Try.prog 19 #[.slice A n c, .int .i64 seen, .int .i64 tol] w (NearRes s seen tol w) := by
  obtain ⟨i0, hi, hz0, hz1, hz2⟩ := info_parts line_info
  have hb0 : Below w.heap.size w ((w.alloc (.cells #[.int .i64 seen] 3)).alloc (.cells #[.int .i64 tol] 3)) := ((Below.refl _ _).alloc (Nat.le_refl _) _).alloc (by simp) _
  have p1 := two_new0 w (.int .i64 seen) 3 (.int .i64 tol) 3
  have p2 := one_new (w.alloc (.cells #[.int .i64 seen] 3)) (.int .i64 tol) 3
  have hs0 : ((w.alloc (.cells #[.int .i64 seen] 3)).alloc (.cells #[.int .i64 tol] 3)).heap.size = w.heap.size + 2 := by simp
  rw [show (w.alloc (.cells #[.int .i64 seen] 3)).heap.size = w.heap.size + 1 by simp] at p2
  go_enter Try.func19, Try.ntmps19
  go_upto_region 1 with (fail)
  obtain ⟨w0, hw0⟩ : ∃ w0, (w.alloc (.cells #[.int .i64 seen] 3)).alloc (.cells #[.int .i64 tol] 3) = w0 := ⟨_, rfl⟩
  rw [hw0] at hb0 p1 p2 hs0 ⊢
  clear hw0
  rcases hm : mOk seen tol with _ | _
  · have HM := Lib.hid (matchLines_no (s := s) (seen := seen) (tol := tol) (by rw [hm]; simp))
    have HH := Lib.hid hm
    have HB := Lib.hid hb0
    clear hm hb0
    go_wp2_with (go_at_call 53; (with_reducible refine (seenValid_any _ _ _).mono ?_); rintro e w' ⟨rfl, rfl⟩; rw [HH.out])
    go_ret
    exact ⟨none, 0, 0, rfl, by rw [HM.out]; exact LOwn.nil _ _ _, HB.out⟩
  have HM := Lib.hid hm
  obtain ⟨m1, m2, m3, m4⟩ := mOk_iff.1 hm
  clear hm
  have h0 := (h.below hb0).more hb0.size
  go_upto_region 3 with (go_at_call 53; (with_reducible refine (seenValid_any _ _ _).mono ?_); rintro e w' ⟨rfl, rfl⟩; rw [HM.out])
  go_wp2_with fail
  refine (iSchemeLines_any _ _ _ s _ h0).mono ?_
  rintro e w2 ⟨A2, n2, c2, rfl, hown2, hb2⟩
  have hl : (lines s).length = n2 := by have := hown2.len; simpa using this
  have hfew : n2 ≤ 144 := by rw [← hl]; exact lines_len s
  have i2 := LSl.of_lines hown2
  have hbt := Below.step hb0 hb2
  replace p1 := (bcell hb2 _ _ (by omega)).trans p1
  replace p2 := (bcell hb2 _ _ (by omega)).trans p2
  have hs2 := hb2.size
  clear hown2 hb2 hb0 h0
  go_upto_region 4 with (fail)
  have hb3 : Below w2.heap.size w2 (w2.alloc (.cells #[.slice A2 n2 c2] 25)) := (Below.refl _ _).alloc (Nat.le_refl _) _
  have p3 := one_new w2 (.slice A2 n2 c2) 25
  have hs3 : (w2.alloc (.cells #[.slice A2 n2 c2] 25)).heap.size = w2.heap.size + 1 := by simp
  generalize w2.alloc (.cells #[.slice A2 n2 c2] 25) = w3 at hb3 p3 hs3 ⊢
  replace p1 := (bcell hb3 _ _ (by omega)).trans p1
  replace p2 := (bcell hb3 _ _ (by omega)).trans p2
  have i3 := i2.below hb3
  have hbt3 := Below.step hbt hb3
  have HA := Lib.hid (lines_asc s)
  have HL := Lib.hid hl
  have HR : Hid (matchLines s seen tol = nearL (lines s) seen tol) := by
    show _ = _
    rcases hv : sOk s with _ | _
    · rw [matchLines_no (by rw [hv]; rfl), lines_no hv]; rfl
    · exact matchLines_yes hv HM.out
  clear i2 hbt hb3
  have eg1 : ∀ args w, (callFunc 58 args).run Try.prog w = .ok (.enter 58 args) w := enters_of Try.func58 (by kernel_rfl) rfl
  have eg2 : ∀ args w, (callFunc 59 args).run Try.prog w = .ok (.enter 59 args) w := enters_of Try.func59 (by kernel_rfl) rfl
  have hS1 := search_any 58 #[.pointer (some ⟨w2.heap.size, 0, none⟩), .pointer (some ⟨w.heap.size, 0, none⟩), .pointer (some ⟨w.heap.size + 1, 0, none⟩)] n2 (fun i => decide (seen - tol ≤ (gX (lines s) i).n)) w3 eg1 (by omega)
    (fun W i hW hi => mlines1_any i w2.heap.size w.heap.size (w.heap.size + 1) w2.heap.size A2 n2 c2 (lines s) seen tol W ((bcell hW _ _ (by omega)).trans p3) ((bcell hW _ _ (by omega)).trans p1) ((bcell hW _ _ (by omega)).trans p2) (i3.below (hW.mono (by omega))) hi m1 m2 m3 m4)
    (fun a b hab hbn h => by have h' : seen - tol ≤ (gX (lines s) a).n := by simpa using h
                             have := HA.out a b hab (by rw [HL.out]; omega)
                             simp; omega)
  have HF1 := Lib.hid (first_count HA.out (seen - tol) HL.out)
  generalize (List.range n2).countP (fun i => !decide (seen - tol ≤ (gX (lines s) i).n)) = qa at hS1 HF1
  go_upto_region 5 with (go_at_call 57; refine hS1.mono ?_; rintro e w4 ⟨rfl, hb4⟩)
  have i4 := i3.below (hb4.mono (by omega))
  replace p1 := (bcell hb4 _ _ (by omega)).trans p1
  replace p2 := (bcell hb4 _ _ (by omega)).trans p2
  replace p3 := (bcell hb4 _ _ (by omega)).trans p3
  have hbt4 := Below.step hbt3 hb4
  have hs4 := hb4.size
  clear hS1 hb4 hbt3 i3 eg1
  have hS2 := search_any 59 #[.pointer (some ⟨w2.heap.size, 0, none⟩), .pointer (some ⟨w.heap.size, 0, none⟩), .pointer (some ⟨w.heap.size + 1, 0, none⟩)] n2 (fun i => decide (seen + tol + 1 ≤ (gX (lines s) i).n)) w4 eg2 (by omega)
    (fun W i hW hi => mlines2_any i w2.heap.size w.heap.size (w.heap.size + 1) w2.heap.size A2 n2 c2 (lines s) seen tol W ((bcell hW _ _ (by omega)).trans p3) ((bcell hW _ _ (by omega)).trans p1) ((bcell hW _ _ (by omega)).trans p2) (i4.below (hW.mono (by omega))) hi m1 m2 m3 m4)
    (fun a b hab hbn h => by have h' : seen + tol + 1 ≤ (gX (lines s) a).n := by simpa using h
                             have := HA.out a b hab (by rw [HL.out]; omega)
                             simp; omega)
  have HF2 := Lib.hid (first_count HA.out (seen + tol + 1) HL.out)
  generalize (List.range n2).countP (fun i => !decide (seen + tol + 1 ≤ (gX (lines s) i).n)) = qb at hS2 HF2
  go_upto_region 6 with (go_at_call 57; refine hS2.mono ?_; rintro e w5 ⟨rfl, hb5⟩)
  have i5 := i4.below (hb5.mono (by omega))
  replace p3 := (bcell hb5 _ _ (by omega)).trans p3
  have hbt5 := Below.step hbt4 hb5
  have hs5 := hb5.size
  clear hS2 hb5 hbt4 i4 eg2 p1 p2
  obtain ⟨hsp, hab, hbl⟩ := nearL_span m3 HF1.out HF2.out
  rw [hl] at hbl
  have hcut := (LSl.tail i5 (k := qa) (by omega)).cut (k := qb - qa) (by omega)
  have HCUT := Lib.hid hcut
  have hlen : ((List.drop qa (List.map lm (lines s))).take (qb - qa)).length = qb - qa := hcut.len
  have HE : Hid (((List.drop qa (List.map lm (lines s))).take (qb - qa)) = (matchLines s seen tol).map lm) := by
    show _ = _
    rw [HR.out, hsp, List.map_take, List.map_drop]
  have hcap := i5.cap
  clear hcut hsp
  have g1 : (qa : Int) ≤ (qb : Int) := by omega
  have g2 : (qb : Int) ≤ (c2 : Int) := by omega
  go_wp2_with (at_builtin; refine list_links rfl _ _ _ _ rfl w5.heap.size 42 i0 _ Try.underlying25 hi hz0 hz1 hz2 rfl (.slice none 0 0) 0 [] rfl (World.ownsRow_nil _ _ _ _) _ _ (qb - qa) _ _ rfl HCUT.out (qb - qa) ((matchLines s seen tol).map lm) (by omega) HE.out (by omega) (Nat.le_refl _) ?_; intro va wa hva hga; obtain ⟨Aa, ca, rfl⟩ := own_form hva)
  all_goals
    have HEND := Lib.hid (And.intro ((LOwn.of_cells hva).base_ (show w.heap.size ≤ w5.heap.size by have := hbt5.size; omega)) (hbt5.grown hga (by have := hbt5.size; omega) (by intro g e; cases e)))
    clear hva hga hbt5
    go_ret
    exact ⟨_, _, _, rfl, HEND.out.1, HEND.out.2⟩
end Go.Proofs.Ytpkfpegilhadfab
