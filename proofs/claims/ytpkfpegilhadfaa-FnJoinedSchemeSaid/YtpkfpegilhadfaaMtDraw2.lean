/- The contracts of the reference's draws for matching. -/
import Derived.Test.YtpkfpegilhadfaaMtDraw
import Derived.Test.YtpkfpegilhadfaaMtLinesS
import Derived.Test.YtpkfpegilhadfaaMtBestS
import Derived.Deep.RegionWith
import Derived.Deep.DeepCutAuto
import Derived.Deep.CutBlock
set_option linter.unusedVariables false
namespace Go.Proofs.Ytpkfpegilhadfaa
open Go.RowKit Lk Mt

def SeenRes (g p : Nat) (w : World) (e : Ending) (w' : World) : Prop :=
  ∃ (v : Int) (p' : Nat), e = .returned (.int .i64 v) ∧ (0 ≤ v ∧ v ≤ 200100) ∧ p' ≤ p + 3 ∧ Rd w' g p' ∧ w.grownBy w' (some g)
theorem max_bd {X : Int} (h : X ≤ 200100) : (0 ≤ (if 0 < X then X else 0) ∧ (if 0 < X then X else 0) ≤ 200100) := by split <;> omega
set_option maxRecDepth 100000 in
set_option maxHeartbeats 4000000 in
theorem l93Seen_any (g p : Nat) (A : Option Addr) (n c : Nat) (s : List Nd) (w : World) (h : Rd w g p) (hp : p ≤ 900000) (hs : NSl w w.heap.size A n c s) :
    Calls Try.prog 65 #[.pointer (some ⟨g, 0, none⟩), .slice A n c] w (SeenRes g p w) := by
  have hglt := h.lt
  go_enter Try.func65, Try.ntmps65
  go_wp2_with fail
  refine (sSchemeLines_any _ _ _ s _ hs).mono ?_
  rintro e w1 ⟨A1, n1, c1, rfl, hown, hb1⟩
  have hR1 := h.below hb1 hglt
  have hG1 : w.grownBy w1 (some g) := grown_below (World.grownBy.refl w _) hb1
  have hl : (lines s).length = n1 := by have := hown.len; simpa using this
  have hsz1 := hb1.size
  clear hb1 h
  by_cases h0 : n1 = 0
  · subst h0
    go_wp2_with fail
    refine (pick_any _ _ _ _ hR1 (by omega)).mono ?_
    rintro e w2 ⟨y, rfl, hy, hR2, hG2⟩
    have hyb := hy.1 (by omega)
    have HO := Lib.hid (hG1.trans hG2)
    clear hy hG1 hG2 hR1 hown hl
    go_wp2
    go_ret
    exact ⟨y * 10, p + 1, rfl, by omega, by omega, hR2, HO.out⟩
  have g0 : ((n1 : Int) == 0) = false := by simpa using h0
  go_wp2_with fail
  refine (pick_any _ _ _ _ hR1 (by omega)).mono ?_
  rintro e w2 ⟨y, rfl, hy, hR2, hG2⟩
  have hown2 := hown.keep hG2 hglt
  have hG2' := hG1.trans hG2
  clear hy hG1 hG2 hR1 hown
  by_cases hy0 : y = 0
  · have g1 : (y == 0) = true := by simpa using hy0
    clear hy0
    go_wp2_with fail
    refine (pick_any _ _ _ _ hR2 (by omega)).mono ?_
    rintro e w3 ⟨z, rfl, hz, hR3, hG3⟩
    have hzb := hz.1 (by omega)
    have HO := Lib.hid (hG2'.trans hG3)
    clear hz hG2' hG3 hR2 hown2 hl
    go_wp2
    go_ret
    exact ⟨z * 10, p + 1 + 1, rfl, by omega, by omega, hR3, HO.out⟩
  · have g1 : (y == 0) = false := by simpa using hy0
    clear hy0
    obtain ⟨gb, rfl, hgb1, hgb2⟩ := hown2.at_ (by omega)
    have hsOk : sOk s = true := by
      rcases hv : sOk s with _ | _
      · unfold lines at hl; rw [hv] at hl; simp at hl; omega
      · rfl
    have HB : Hid (∀ i, i < n1 → 0 < (gX (lines s) i).n ∧ (gX (lines s) i).n ≤ 200000) := fun i hi => by
      have := lines_in hsOk (gX_mem (s := lines s) (i := i) (by rw [hl]; exact hi)); omega
    have hfew : n1 ≤ 144 := by rw [← hl]; exact lines_len s
    have hs2 := hG2'.size
    have HK : Hid (∀ W', w2.drew.grownBy W' (some g) → LOwn W' w.heap.size 57 (.slice (some ⟨gb, 0, none⟩) n1 c1) n1 ((lines s).map lm) ∧ w.grownBy W' (some g)) := fun W' hg' =>
      ⟨LOwn.keep (w := w2.drew) (hown2.drewN 1) hg' hglt, (grown_drew hG2').trans hg'⟩
    have hsz2 : w2.heap.size ≤ w2.drew.heap.size := Nat.le_refl _
    go_wp2_with fail
    go_region_with (first
      | (go_at_call 64; ((with_reducible refine (pick_any _ _ _ _ (rd_drewM hR2) (by omega)).mono ?_); rintro e w3 ⟨q, rfl, hq, hR3, hG3⟩; obtain ⟨q', rfl⟩ := Int.eq_ofNat_of_zero_le (hq.1 (by omega)).1; have hqn : q' < n1 := by (have := (hq.1 (by omega)).2; omega)); have HG3 := Lib.hid hG3; have r3 := ((HK.out _ hG3).1.cells hqn).2.2; rw [gL_lm] at r3; unfold lm at r3; dsimp only at r3; obtain ⟨b1, b2⟩ := HB.out _ hqn; have HQ := Lib.hid hq; clear hq hG3)
      | (go_at_call 64; ((with_reducible refine (pick_any _ _ _ _ hR3 (by omega)).mono ?_); rintro e w4 ⟨z, rfl, hz, hR4, hG4⟩; have hzb := hz.1 (by omega); obtain ⟨z0, z1⟩ := hzb; have HG4 := Lib.hid (HG3.out.trans hG4); have r4 := ((HK.out _ HG4.out).1.cells hqn).2.2; rw [gL_lm] at r4; unfold lm at r4; dsimp only at r4; have u1 : IntKind.i64.wrap ((gX (lines s) q').n + z) = (gX (lines s) q').n + z := IntWalk.i64_in _ (by omega); have u2 : IntKind.i64.wrap ((gX (lines s) q').n + z - 4) = (gX (lines s) q').n + z - 4 := IntWalk.i64_in _ (by omega); clear hz hG4)))
    all_goals
      go_wp2
      go_ret
      refine ⟨_, p + 1 + 1 + 1, rfl, ?_, by omega, hR4, (HK.out _ HG4.out).2⟩
      first | exact max_bd (by omega) | (constructor <;> (split <;> omega)) | omega
/-- a scheme, a number and a tolerance drawn -/
def MatchDraw (w : World) (e : Ending) (w' : World) : Prop :=
  ∃ (A : Option Addr) (m c : Nat) (s : List Nd) (seen tol : Int), e = .returned (.tuple #[.slice A m c, .int .i64 seen, .int .i64 tol]) ∧ m ≤ 8 ∧ NOwn w' w.heap.size 63 (.slice A m c) m s ∧ (∀ l ∈ s, InN l) ∧ (-1 ≤ seen ∧ seen ≤ 200100) ∧ (-1 ≤ tol ∧ tol ≤ 1001) ∧ Below w.heap.size w w'
theorem below_of_grownM {w w1 w2 : World} (hb : Below w.heap.size w w1) (hG : w1.grownBy w2 (some w.heap.size)) : Below w.heap.size w w2 :=
  hb.trans ((Below.refl _ _).grown hG hb.size (fun k hk => by injection hk; omega))
set_option maxRecDepth 100000 in
set_option maxHeartbeats 4000000 in
theorem DrawMatchLines_any (A : Option Addr) (n c : Nat) (bs : List Int) (w : World) (h : BSl w w.heap.size A n c bs) (hn : n ≤ 16777216) :
    Calls Try.prog 61 #[.slice A n c] w (MatchDraw w) := by
  go_enter Try.func61, Try.ntmps61
  go_wp2_with fail
  refine (l6Open_any _ _ _ _ _ h hn).mono ?_
  rintro e w1 ⟨rfl, hR1, hs1, hb1⟩
  go_wp2_with fail
  refine (l93Scheme_any _ _ _ hR1 (by omega)).mono ?_
  rintro e w2 ⟨A2, m, c2, s, p2, rfl, hm, hO2, hin, hp2, hR2, hG2⟩
  have HI : Hid (∀ l ∈ s, InN l) := fun l hl => (hin l hl).inN (by omega)
  have hglt : w.heap.size < w1.heap.size := by omega
  have hsz2 := hG2.size
  clear hin
  go_wp2_with fail
  refine (l93Seen_any _ _ _ _ _ s _ hR2 (by omega) (NSl.of_own hO2 HI.out)).mono ?_
  rintro e w3 ⟨seen, p3, rfl, hsb, hp3, hR3, hG3⟩
  have hO3 := hO2.keep hG3 hglt
  have hG3' := hG2.trans hG3
  clear hG2 hG3 hO2 hR2
  go_wp2_with fail
  refine (pick_any _ _ _ _ hR3 (by omega)).mono ?_
  rintro e w4 ⟨y, rfl, hy, hR4, hG4⟩
  have hO4 := hO3.keep hG4 hglt
  have hG4' := hG3'.trans hG4
  have hsz4 := hG4'.size
  clear hG3' hG4 hO3 hR3 hy
  by_cases hy0 : y = 0
  · have g0 : (y == 0) = true := by simpa using hy0
    have hR5 := rd_allocM hR4 (.cells #[.int .i64 (-1), .int .i64 200001] 3)
    have hG5 := grown_alloc hG4' (.cells #[.int .i64 (-1), .int .i64 200001] 3)
    have hO5 := hO4.alloc (.cells #[.int .i64 (-1), .int .i64 200001] 3)
    clear hy0 hO4
    go_wp2_with fail
    refine (pick_any _ _ _ _ hR5 (by omega)).mono ?_
    rintro e w5 ⟨q, rfl, hq, hR6, hG6⟩
    obtain ⟨x, hx, hq0, hq1, hc⟩ := two_cellsM hq (-1) 200001 3
    have hcell := hc w5 w4.heap.size (lit_held hG6 (by omega))
    have hO6 := hO5.keep hG6 hglt
    have hG6' := hG5.trans hG6
    clear hc hq hG6 hG5 hO5 hR5 hG4' hR4 hsb
    go_wp2_with fail
    refine (l93Tolerance_any _ _ _ hR6 (by omega)).mono ?_
    rintro e w6 ⟨tol, p6, rfl, htb, hp6, hR7, hG7⟩
    have HO := Lib.hid (And.intro ((hO6.keep hG7 hglt).base_ (show w.heap.size ≤ w1.heap.size by omega)) (below_of_grownM hb1 (hG6'.trans hG7)))
    clear hO6 hG7 hG6' hcell
    go_wp2
    go_ret3
    exact ⟨A2, m, c2, s, x, tol, rfl, hm, HO.out.1, HI.out, ⟨by rcases hx.out with h | h <;> omega, by rcases hx.out with h | h <;> omega⟩, htb, HO.out.2⟩
  · have g0 : (y == 0) = false := by simpa using hy0
    clear hy0
    go_wp2_with fail
    refine (l93Tolerance_any _ _ _ hR4 (by omega)).mono ?_
    rintro e w6 ⟨tol, p6, rfl, htb, hp6, hR7, hG7⟩
    have HO := Lib.hid (And.intro ((hO4.keep hG7 hglt).base_ (show w.heap.size ≤ w1.heap.size by omega)) (below_of_grownM hb1 (hG4'.trans hG7)))
    clear hO4 hG7 hG4'
    go_wp2
    go_ret3
    exact ⟨A2, m, c2, s, seen, tol, rfl, hm, HO.out.1, HI.out, by omega, htb, HO.out.2⟩
set_option maxHeartbeats 1000000 in
theorem DrawMatchBest_any (A : Option Addr) (n c : Nat) (bs : List Int) (w : World) (h : BSl w w.heap.size A n c bs) (hn : n ≤ 16777216) :
    Calls Try.prog 33 #[.slice A n c] w (MatchDraw w) := by
  go_enter Try.func33, Try.ntmps33
  go_wp2_with fail
  refine (DrawMatchLines_any _ _ _ _ _ h hn).mono ?_
  rintro e w1 ⟨A1, m, c1, s, seen, tol, rfl, h1, h2, h3, h4, h5, h6⟩
  have HO := Lib.hid (And.intro h2 h6)
  clear h2 h6
  go_wp2
  go_ret3
  exact ⟨A1, m, c1, s, seen, tol, rfl, h1, HO.out.1, h3, h4, h5, HO.out.2⟩
/-- a scheme, numbers and a tolerance drawn -/
def AllDraw (w : World) (e : Ending) (w' : World) : Prop :=
  ∃ (A : Option Addr) (m c : Nat) (s : List Nd) (A2 : Option Addr) (m2 c2 : Nat) (zs : List Int) (tol : Int), e = .returned (.tuple #[.slice A m c, .slice A2 m2 c2, .int .i64 tol]) ∧ m ≤ 8 ∧ m2 ≤ 41 ∧ NOwn w' w.heap.size 63 (.slice A m c) m s ∧ (∀ l ∈ s, InN l) ∧
    w'.ownsRow w.heap.size 3 1 (.slice A2 m2 c2) m2 (zs.map (Value.int .i64)) ∧ (∀ z ∈ zs, InI z) ∧ (-1 ≤ tol ∧ tol ≤ 1001) ∧ Below w.heap.size w w'
def DARel (N B g p : Nat) (vn : Value) (m : Nat) (s : List Nd) (W : World) (o i : Value) (wr : World) : Prop :=
  ∃ (k p' : Nat) (zs : List Int), k ≤ N ∧ i = .int .i64 k ∧ p' ≤ p + 3 * k ∧ wr.ownsRow B 3 1 o k (zs.map (Value.int .i64)) ∧ Hid (∀ z ∈ zs, 0 ≤ z ∧ z ≤ 200100) ∧ NOwn wr B 63 vn m s ∧ Rd wr g p' ∧ W.grownBy wr (some g)
theorem own_neM {w : World} {b1 b2 s1 s2 n1 n2 : Nat} {e1 e2 : TypeId} {v1 v2 : Value} {xs1 xs2 : List Value} (h1 : w.ownsRow b1 e1 s1 v1 n1 xs1) (h2 : w.ownsRow b2 e2 s2 v2 n2 xs2) (hne : e1 ≠ e2) : v1.ownBlock = none ∨ v1.ownBlock ≠ v2.ownBlock := by
  rcases h1.2 with ⟨rfl, _⟩ | ⟨g1, c1, cur1, rfl, _, hh1, _⟩
  · exact .inl (by simp [Value.ownBlock])
  · rcases h2.2 with ⟨rfl, _⟩ | ⟨g2, c2, cur2, rfl, _, hh2, _⟩
    · exact .inr (by simp [Value.ownBlock])
    · refine .inr fun he => ?_
      have : g1 = g2 := by simpa [Value.ownBlock] using he
      subst this
      rw [hh1] at hh2
      injection hh2 with hh2
      injection hh2 with _ ht
      exact hne ht
theorem NOwn.beside {w w' : World} {b n b2 s2 n2 : Nat} {e e2 : TypeId} {v v2 : Value} {s : List Nd} {xs2 : List Value} (h : NOwn w b e v n s) (h2 : w.ownsRow b2 e2 s2 v2 n2 xs2) (hne : e ≠ e2) (hg : w.grownBy w' v2.ownBlock) : NOwn w' b e v n s :=
  ⟨h.len, h.row.map fun _ h => h.kept hg (own_neM h h2 hne)⟩
set_option maxRecDepth 100000 in
set_option maxHeartbeats 8000000 in
theorem DrawMatchAll_any (A : Option Addr) (n c : Nat) (bs : List Int) (w : World) (h : BSl w w.heap.size A n c bs) (hn : n ≤ 16777216) :
    Calls Try.prog 36 #[.slice A n c] w (AllDraw w) := by
  obtain ⟨i0, hi, hz0, hz1, hz2⟩ := info_parts int_info
  go_enter Try.func36, Try.ntmps36
  go_wp2_with fail
  refine (l6Open_any _ _ _ _ _ h hn).mono ?_
  rintro e w1 ⟨rfl, hR1, hs1, hb1⟩
  go_wp2_with fail
  refine (l93Scheme_any _ _ _ hR1 (by omega)).mono ?_
  rintro e w2 ⟨A2, m, c2, s, p2, rfl, hm, hO2, hin, hp2, hR2, hG2⟩
  have HI : Hid (∀ l ∈ s, InN l) := fun l hl => (hin l hl).inN (by omega)
  have hglt : w.heap.size < w1.heap.size := by omega
  have hsz2 := hG2.size
  clear hs1
  have hO2' := hO2.alloc (.cells #[] 3)
  have hR2' := rd_allocM hR2 (.cells #[] 3)
  have hG2' := grown_alloc hG2 (.cells #[] 3)
  have hI2 : (w2.alloc (.cells #[] 3)).ownsRow w1.heap.size 3 1 (.slice (some ⟨w2.heap.size, 0, none⟩) 0 0) 0 (([] : List Int).map (Value.int .i64)) := own_base (own_lit0 w2 3) hsz2
  clear hin hO2 hR2 hG2 hR1
  go_wp2_with fail
  refine (pick_any _ _ _ _ hR2' (by omega)).mono ?_
  rintro e w3 ⟨n0, rfl, hn0, hR3, hG3⟩
  have hO3 := hO2'.keep hG3 hglt
  have hI3 := own_keep hI2 hG3 hglt
  have hG3' := hG2'.trans hG3
  obtain ⟨N0, rfl⟩ := Int.eq_ofNat_of_zero_le (hn0.1 (by omega)).1
  have hN0 : N0 < 6 := by have := (hn0.1 (by omega)).2; omega
  clear hn0 hO2' hI2 hG2' hR2' hG3
  go_wp2_with fail
  refine (pick_any _ _ _ _ hR3 (by omega)).mono ?_
  rintro e w4 ⟨y, rfl, hy, hR4, hG4⟩
  have hO4 := hO3.keep hG4 hglt
  have hI4 := own_keep hI3 hG4 hglt
  have hG4' := hG3'.trans hG4
  clear hO3 hI3 hR3 hG3' hG4 hy
  by_cases hy0 : y = 0
  all_goals first
    | (have g0 : (y == 0) = true := by simpa using hy0
       clear hy0
       go_wp2_with fail
       refine (pick_any _ _ _ _ hR4 (by omega)).mono ?_
       rintro e w5 ⟨q, rfl, hq, hR5, hG5⟩
       obtain ⟨q0, rfl⟩ := Int.eq_ofNat_of_zero_le (hq.1 (by omega)).1
       have hq2 : q0 < 2 := by have := (hq.1 (by omega)).2; omega
       obtain ⟨N, hN⟩ : ∃ N, 40 + q0 = N := ⟨_, rfl⟩
       have hNI : (40 : Int) + (q0 : Int) = (N : Int) := by omega
       have hN41 : N ≤ 41 := by omega
       have hO5 := hO4.keep hG5 hglt
       have hI5 := own_keep hI4 hG5 hglt
       have hG5' := hG4'.trans hG5
       obtain ⟨p5, hp5, hR5'⟩ : ∃ p5, p5 ≤ 100 ∧ Rd w5 w.heap.size p5 := ⟨_, by omega, hR5⟩
       clear hq hq2 hN hO4 hI4 hG4' hG5 hR5 hR4
       go_wp2)
    | (have g0 : (y == 0) = false := by simpa using hy0
       clear hy0
       obtain ⟨N, hN⟩ : ∃ N, N = N0 := ⟨_, rfl⟩
       subst hN
       have hN41 : N ≤ 41 := by omega
       obtain ⟨w5, hw5⟩ : ∃ w5, w5 = w4 := ⟨_, rfl⟩
       subst hw5
       have hO5 := hO4
       have hI5 := hI4
       have hG5' := hG4'
       obtain ⟨p5, hp5, hR5'⟩ : ∃ p5, p5 ≤ 100 ∧ Rd w5 w.heap.size p5 := ⟨_, by omega, hR4⟩
       clear hO4 hI4 hG4' hR4
       go_wp2)
  all_goals
    have hsz5 := hG5'.size
    go_loopw [7, 9] (fun o i wr => DARel N w1.heap.size w.heap.size p5 (.slice A2 m c2) m s w1 o i wr) (fun _ i _ => N - (intOf i).toNat)
    case atStart => exact ⟨0, p5, [], Nat.zero_le _, rfl, by omega, hI5, (fun z hz => by cases hz), hO5, hR5', hG5'⟩
    case round =>
      obtain ⟨k, p6, zs, hk, rfl, hp6, hI6, hzb, hO6, hR6, hG6⟩ := hrel
      clear hI5 hO5 hR5' hG5'
      by_cases hlt : k < N
      · go_wp2_with fail
        refine (l93Seen_any _ _ _ _ _ s _ hR6 (by omega) (NSl.of_own hO6 HI.out)).mono ?_
        rintro e w7 ⟨x, p7, rfl, hxb, hp7, hR7, hG7⟩
        have hO7 := hO6.keep hG7 hglt
        have hI7 := own_keep hI6 hG7 hglt
        have hG7' := hG6.trans hG7
        have hsz7 := hG7'.size
        have HZ : Hid (∀ z ∈ zs ++ [x], 0 ≤ z ∧ z ≤ 200100) := fun z hz => by
          rcases List.mem_append.1 hz with hz | hz
          · exact hzb.out z hz
          · simp at hz; subst hz; omega
        clear hO6 hI6 hG6 hG7 hR6
        obtain ⟨Ao, co, rfl⟩ := own_form hI7
        go_wp2_with (at_builtin; refine wpList_append_own _ rfl _ _ 24 rfl w1.heap.size 3 i0 (.int .i64 0) 1 8 Try.underlying24 hi hz0 hz1 hz2 rfl (by decide) _ _ _ rfl (hI7.alloc _) ⟨w7.heap.size, 0, none⟩ 1 1 [.int .i64 x] rfl rfl ?c1 ?c2 ?c3 ?c4 ?c5 ?_)
        case c1 => exact cell_one_new _ _ _
        case c2 => intro u hu; simp at hu; subst hu; rfl
        case c3 => unfold maxLen; omega
        case c4 => omega
        case c5 => simp; omega
        intro v' w8 hown' hgrow _
        have hO8 := (hO7.alloc (.cells #[.int .i64 x] 3)).beside (hI7.alloc _) (by decide) hgrow
        have hR8 := hR7.below (below_own hG7' hI7 hgrow) hglt
        have hG8 := grown_own hG7' hI7 hgrow
        rw [ints_snoc] at hown'
        have HO := Lib.hid (And.intro hown' (And.intro hO8 (And.intro hR8 hG8)))
        clear hown' hO8 hR8 hG8 hO7 hI7 hG7' hR7 hgrow
        go_wp2
        go_roundw
        case rel => exact ⟨k + 1, p7, _, by omega, by go_num, by omega, HO.out.1, HZ.out, HO.out.2.1, HO.out.2.2.1, HO.out.2.2.2⟩
        case measure => simp [intOf]; omega
      · obtain rfl : k = N := by omega
        obtain ⟨Ao, co, rfl⟩ := own_form hI6
        have HZ : Hid (∀ z ∈ zs, InI z) := fun z hz => by have := hzb.out z hz; unfold InI; omega
        by_cases hk0 : k = 0
        · subst hk0
          clear hk hlt
          go_wp2_with fail
          refine (l93Tolerance_any _ _ _ hR6 (by omega)).mono ?_
          rintro e w7 ⟨tol, p7, rfl, htb, hp7, hR7, hG7⟩
          have HO := Lib.hid (And.intro ((hO6.keep hG7 hglt).base_ (show w.heap.size ≤ w1.heap.size by omega)) (And.intro (own_base (own_keep hI6 hG7 hglt) (show w.heap.size ≤ w1.heap.size by omega)) (below_of_grownM hb1 (hG6.trans hG7))))
          clear hO6 hG7 hG6 hI6
          go_wp2
          go_ret3
          exact ⟨A2, m, c2, s, Ao, 0, co, zs, tol, rfl, hm, by omega, HO.out.1, HI.out, HO.out.2.1, HZ.out, htb, HO.out.2.2⟩
        have gk : decide ((0 : Int) < (k : Int)) = true := by simp; omega
        have gk2 : decide (0 < k) = true := by simp; omega
        have hkp : 0 < k := by omega
        clear hk hlt hk0
        go_wp2_with fail
        refine (pick_any _ _ _ _ hR6 (by omega)).mono ?_
        rintro e w7 ⟨y2, rfl, hy2, hR7, hG7⟩
        have hO7 := hO6.keep hG7 hglt
        have hI7 := own_keep hI6 hG7 hglt
        have hG7' := hG6.trans hG7
        have hsz7 := hG7'.size
        clear hO6 hI6 hG6 hG7 hR6 hy2
        by_cases hy20 : y2 = 0
        · have g2 : (y2 == 0) = true := by simpa using hy20
          clear hy20
          obtain ⟨gb, rfl, hgb1, hgb2⟩ := own_at hI7 (by omega)
          have f1 := hI7.frozenAt 0
          have hcell := (hI7.cellAt 0 (by omega)).trans (getElem?_map_some (zs := zs) (i := 0) (by have := hI7.1; simp at this; omega))
          have hst := hI7.stored 0 (.int .i64 (-1))
          have hO8 := hO7.beside hI7 (by decide) hst.2
          have hI8 := hst.1
          rw [← List.map_set] at hI8
          have hR8 := hR7.below (below_mark hI7 (show w1.heap.size ≤ w7.heap.size by omega) hst.2) hglt
          have hG8 := grown_below hG7' (below_mark hI7 (show w1.heap.size ≤ w7.heap.size by omega) hst.2)
          have HZ2 : Hid (∀ z ∈ zs.set 0 (-1), InI z) := fun z hz => by
            rcases List.mem_or_eq_of_mem_set hz with hz | hz
            · exact HZ.out z hz
            · rw [hz]; unfold InI; omega
          obtain ⟨w8, hw8⟩ : ∃ w8, w7.setCell ⟨gb, 0, none⟩ (.int .i64 (-1)) = w8 := ⟨_, rfl⟩
          rw [hw8] at hO8 hI8 hR8 hG8
          have hsz8 : w7.heap.size ≤ w8.heap.size := by rw [← hw8]; exact hst.2.size
          clear hst hO7 hI7 hR7 hG7'
          go_upto_region 13 with (fail)
          clear hw8 hcell f1
          go_wp2_with fail
          refine (l93Tolerance_any _ _ _ hR8 (by omega)).mono ?_
          rintro e w9 ⟨tol, p9, rfl, htb, hp9, hR9, hG9⟩
          have HO := Lib.hid (And.intro ((hO8.keep hG9 hglt).base_ (show w.heap.size ≤ w1.heap.size by omega)) (And.intro (own_base (own_keep hI8 hG9 hglt) (show w.heap.size ≤ w1.heap.size by omega)) (below_of_grownM hb1 (hG8.trans hG9))))
          clear hO8 hG9 hG8 hI8
          go_wp2
          go_ret3
          exact ⟨A2, m, c2, s, _, k, co, _, tol, rfl, hm, by omega, HO.out.1, HI.out, HO.out.2.1, HZ2.out, htb, HO.out.2.2⟩
        · have g2 : (y2 == 0) = false := by simpa using hy20
          clear hy20
          go_wp2_with fail
          refine (l93Tolerance_any _ _ _ hR7 (by omega)).mono ?_
          rintro e w9 ⟨tol, p9, rfl, htb, hp9, hR9, hG9⟩
          have HO := Lib.hid (And.intro ((hO7.keep hG9 hglt).base_ (show w.heap.size ≤ w1.heap.size by omega)) (And.intro (own_base (own_keep hI7 hG9 hglt) (show w.heap.size ≤ w1.heap.size by omega)) (below_of_grownM hb1 (hG7'.trans hG9))))
          clear hO7 hG9 hG7' hI7
          go_wp2
          go_ret3
          exact ⟨A2, m, c2, s, Ao, k, co, zs, tol, rfl, hm, by omega, HO.out.1, HI.out, HO.out.2.1, HZ.out, htb, HO.out.2.2⟩
set_option maxHeartbeats 1000000 in
theorem DrawMatchMissing_any (A : Option Addr) (n c : Nat) (bs : List Int) (w : World) (h : BSl w w.heap.size A n c bs) (hn : n ≤ 16777216) :
    Calls Try.prog 9 #[.slice A n c] w (AllDraw w) := by
  go_enter Try.func9, Try.ntmps9
  go_wp2_with fail
  refine (DrawMatchAll_any _ _ _ _ _ h hn).mono ?_
  rintro e w1 ⟨A1, m, c1, s, A2, m2, c2, zs, tol, rfl, h1, h1', h2, h3, h4, h5, h5', h6⟩
  have HO := Lib.hid (And.intro h2 (And.intro h4 h6))
  clear h2 h4 h6
  go_wp2
  go_ret3
  exact ⟨A1, m, c1, s, A2, m2, c2, zs, tol, rfl, h1, h1', HO.out.1, h3, HO.out.2.1, h5, h5', HO.out.2.2⟩
/-- a scheme drawn -/
def SchDraw (w : World) (e : Ending) (w' : World) : Prop :=
  ∃ (A : Option Addr) (m c : Nat) (s : List Nd), e = .returned (.slice A m c) ∧ m ≤ 8 ∧ NOwn w' w.heap.size 63 (.slice A m c) m s ∧ (∀ l ∈ s, InN l) ∧ Below w.heap.size w w'
set_option maxHeartbeats 1000000 in
theorem DrawSchemeLines_any (A : Option Addr) (n c : Nat) (bs : List Int) (w : World) (h : BSl w w.heap.size A n c bs) (hn : n ≤ 16777216) :
    Calls Try.prog 29 #[.slice A n c] w (SchDraw w) := by
  go_enter Try.func29, Try.ntmps29
  go_wp2_with fail
  refine (l6Open_any _ _ _ _ _ h hn).mono ?_
  rintro e w1 ⟨rfl, hR1, hs1, hb1⟩
  go_wp2_with fail
  refine (l93Scheme_any _ _ _ hR1 (by omega)).mono ?_
  rintro e w2 ⟨A2, m, c2, s, p2, rfl, hm, hO2, hin, hp2, hR2, hG2⟩
  have HO := Lib.hid (And.intro (hO2.base_ (show w.heap.size ≤ w1.heap.size by omega)) (below_of_grownM hb1 hG2))
  clear hO2 hG2
  go_wp2
  go_ret
  exact ⟨A2, m, c2, s, rfl, hm, HO.out.1, fun l hl => (hin l hl).inN (by omega), HO.out.2⟩
set_option maxHeartbeats 1000000 in
theorem DrawSchemeReach_any (A : Option Addr) (n c : Nat) (bs : List Int) (w : World) (h : BSl w w.heap.size A n c bs) (hn : n ≤ 16777216) :
    Calls Try.prog 23 #[.slice A n c] w (SchDraw w) := by
  go_enter Try.func23, Try.ntmps23
  go_wp2_with fail
  refine (l6Open_any _ _ _ _ _ h hn).mono ?_
  rintro e w1 ⟨rfl, hR1, hs1, hb1⟩
  go_wp2_with fail
  refine (l93Scheme_any _ _ _ hR1 (by omega)).mono ?_
  rintro e w2 ⟨A2, m, c2, s, p2, rfl, hm, hO2, hin, hp2, hR2, hG2⟩
  have HO := Lib.hid (And.intro (hO2.base_ (show w.heap.size ≤ w1.heap.size by omega)) (below_of_grownM hb1 hG2))
  clear hO2 hG2
  go_wp2
  go_ret
  exact ⟨A2, m, c2, s, rfl, hm, HO.out.1, fun l hl => (hin l hl).inN (by omega), HO.out.2⟩
end Go.Proofs.Ytpkfpegilhadfaa
