/- The contracts of the reference's draws of a scheme and a tolerance. -/
import Derived.Test.YtpkfpegilhadfaaMtBase
import Derived.Test.YtpkfpegilhadfaaDraw
import Derived.Test.YtpkfpegilhadfaaQuiet
import Derived.Deep.AppendLies
set_option linter.unusedVariables false
namespace Go.Proofs.Ytpkfpegilhadfaa
open Go.RowKit Mt

/-- a node with small numbers -/
def NSz (B : Int) (l : Nd) : Prop := (0 ≤ l.e ∧ l.e ≤ B) ∧ (-B ≤ l.j ∧ l.j ≤ B)
theorem NSz.inN {B : Int} {l : Nd} (h : NSz B l) (hB : B ≤ 1000000) : InN l := by unfold NSz at h; unfold InN InI; omega
theorem nsz_more {B C : Int} {ls : List Nd} (h : ∀ l ∈ ls, NSz B l) (hB : B ≤ C) : ∀ l ∈ ls, NSz C l := fun l hl => by have := h l hl; unfold NSz at *; omega
theorem nsz_set {B C : Int} {ls : List Nd} (h : ∀ l ∈ ls, NSz B l) (hB : B ≤ C) {i : Nat} {x : Nd} (hx : NSz C x) : ∀ l ∈ ls.set i x, NSz C l := fun l hl => by
  rcases List.mem_or_eq_of_mem_set hl with hl | hl
  · exact nsz_more h hB l hl
  · rw [hl]; exact hx
theorem nsz_snoc {B : Int} {ls : List Nd} (h : ∀ l ∈ ls, NSz B l) {x : Nd} (hx : NSz B x) : ∀ l ∈ ls ++ [x], NSz B l := fun l hl => by
  rcases List.mem_append.1 hl with hl | hl
  · exact h l hl
  · have : l = x := by simpa using hl
    rw [this]; exact hx
theorem rd_drewM {w : World} {g p : Nat} (h : Rd w g p) : Rd w.drew g p := (rd_drewN (k := 1) ⟨h, World.grownBy.refl w _⟩).1
theorem rd_allocM {w : World} {g p : Nat} (h : Rd w g p) (o : Obj) : Rd (w.alloc o) g p := h.below ((Below.refl _ _).alloc (Nat.le_refl _) _) h.lt
theorem two_cellsM {y : Int} (hy : Picked 2 y) (a b : Int) (t : TypeId) : ∃ x, Hid (x = a ∨ x = b) ∧ 0 ≤ y ∧ y < 2 ∧
    ∀ (W : World) (k : Nat), W.heap[k]? = some (.cells #[.int .i64 a, .int .i64 b] t (0, 0)) → W.cell? ⟨k, y.toNat, none⟩ = some (.int .i64 x) := by
  have h := hy.1 (by omega)
  obtain rfl | rfl : y = 0 ∨ y = 1 := by omega
  · exact ⟨a, .inl rfl, h.1, h.2, fun W k hk => (cell_of_row _ _ _ _ _ _ hk).trans rfl⟩
  · exact ⟨b, .inr rfl, h.1, h.2, fun W k hk => (cell_of_row _ _ _ _ _ _ hk).trans rfl⟩
theorem three_cellsM {y : Int} (hy : Picked 3 y) (a b c : Int) (t : TypeId) : ∃ x, Hid (x = a ∨ x = b ∨ x = c) ∧ 0 ≤ y ∧ y < 3 ∧
    ∀ (W : World) (k : Nat), W.heap[k]? = some (.cells #[.int .i64 a, .int .i64 b, .int .i64 c] t (0, 0)) → W.cell? ⟨k, y.toNat, none⟩ = some (.int .i64 x) := by
  have h := hy.1 (by omega)
  obtain rfl | rfl | rfl : y = 0 ∨ y = 1 ∨ y = 2 := by omega
  · exact ⟨a, .inl rfl, h.1, h.2, fun W k hk => (cell_of_row _ _ _ _ _ _ hk).trans rfl⟩
  · exact ⟨b, .inr (.inl rfl), h.1, h.2, fun W k hk => (cell_of_row _ _ _ _ _ _ hk).trans rfl⟩
  · exact ⟨c, .inr (.inr rfl), h.1, h.2, fun W k hk => (cell_of_row _ _ _ _ _ _ hk).trans rfl⟩
/-- the cells of a literal, behind a call that writes the reader alone -/
theorem lit_held {w w' : World} {g : Nat} {cs : Array Value} {t : TypeId} (hG : (w.alloc (.cells cs t)).grownBy w' (some g)) (hg : g < w.heap.size) : w'.heap[w.heap.size]? = some (.cells cs t (0, 0)) :=
  (hG.block w.heap.size (by simp) (by intro he; injection he; omega)).trans (heap_alloc_new w _)

set_option maxHeartbeats 1000000 in
theorem l93Tolerance_any (g p : Nat) (w : World) (h : Rd w g p) (hp : p ≤ 900000) :
    Calls Try.prog 66 #[.pointer (some ⟨g, 0, none⟩)] w fun e w' => ∃ (v : Int) (p' : Nat), e = .returned (.int .i64 v) ∧ (-1 ≤ v ∧ v ≤ 1001) ∧ p' ≤ p + 2 ∧ Rd w' g p' ∧ w.grownBy w' (some g) := by
  have hglt := h.lt
  go_enter Try.func66, Try.ntmps66
  go_wp2_with fail
  refine (pick_any _ _ _ _ h (by omega)).mono ?_
  rintro e w1 ⟨y, rfl, hy, hR1, hG1⟩
  by_cases h0 : y = 0
  · have h0' : (y == 0) = true := by simpa using h0
    have hR2 := rd_allocM hR1 (.cells #[.int .i64 (-1), .int .i64 1001] 3)
    have hG2 := grown_alloc hG1 (.cells #[.int .i64 (-1), .int .i64 1001] 3)
    have hsz := hG1.size
    clear h0 hy
    go_wp2_with fail
    refine (pick_any _ _ _ _ hR2 (by omega)).mono ?_
    rintro e w2 ⟨q, rfl, hq, hR3, hG3⟩
    obtain ⟨x, hx, hq0, hq1, hc⟩ := two_cellsM hq (-1) 1001 3
    have hcell := hc w2 w1.heap.size (lit_held hG3 (by omega))
    have HO := Lib.hid (hG2.trans hG3)
    clear hc hG2 hG3 hG1 hR1 hR2 hq
    go_wp2
    go_ret
    exact ⟨x, p + 1 + 1, rfl, ⟨by rcases hx.out with h | h <;> omega, by rcases hx.out with h | h <;> omega⟩, by omega, hR3, HO.out⟩
  · have h0' : (y == 0) = false := by simpa using h0
    by_cases h1 : y = 1
    · have h1' : (y == 1) = true := by simpa using h1
      clear h0 h1 hy
      go_wp2
      go_ret
      exact ⟨1000, p + 1, rfl, by omega, by omega, hR1, hG1⟩
    · have h1' : (y == 1) = false := by simpa using h1
      clear h0 h1 hy
      go_wp2_with fail
      refine (pick_any _ _ _ _ hR1 (by omega)).mono ?_
      rintro e w2 ⟨q, rfl, hq, hR3, hG3⟩
      have hqb := hq.1 (by omega)
      have HO := Lib.hid (hG1.trans hG3)
      clear hq hG1 hG3
      go_wp2
      go_ret
      exact ⟨q, p + 1 + 1, rfl, by omega, by omega, hR3, HO.out⟩
/-- what l93Scheme leaves -/
def SchemeRes (g p : Nat) (w : World) (e : Ending) (w' : World) : Prop :=
  ∃ (A : Option Addr) (m c : Nat) (ls : List Nd) (p' : Nat), e = .returned (.slice A m c) ∧ m ≤ 8 ∧ NOwn w' w.heap.size 63 (.slice A m c) m ls ∧ (∀ l ∈ ls, NSz 300000 l) ∧ p' ≤ p + 60 ∧ Rd w' g p' ∧ w.grownBy w' (some g)
def ScRel (M g p : Nat) (w : World) (v en i : Value) (wr : World) : Prop :=
  ∃ (k p' : Nat) (ls : List Nd) (E : Int), k ≤ M ∧ i = .int .i64 k ∧ en = .int .i64 E ∧ (0 ≤ E ∧ E ≤ 4000 * k) ∧ p' ≤ p + 2 + 4 * k ∧ NOwn wr w.heap.size 63 v k ls ∧ Hid (∀ l ∈ ls, NSz 40000 l) ∧ Rd wr g p' ∧ w.grownBy wr (some g)
set_option maxRecDepth 100000 in
set_option maxHeartbeats 4000000 in
theorem l93Scheme_any (g p : Nat) (w : World) (h : Rd w g p) (hp : p ≤ 900000) :
    Calls Try.prog 49 #[.pointer (some ⟨g, 0, none⟩)] w (SchemeRes g p w) := by
  obtain ⟨i0, hi, hz0, hz1, hz2⟩ := info_parts node_info
  have hglt := h.lt
  have hb0 : Below w.heap.size w (w.alloc (.cells #[] 63)) := (Below.refl _ _).alloc (Nat.le_refl _) _
  have hR0 := rd_allocM h (.cells #[] 63)
  have hG0 : w.grownBy (w.alloc (.cells #[] 63)) (some g) := grown_alloc (World.grownBy.refl w _) _
  have hO0 : NOwn (w.alloc (.cells #[] 63)) w.heap.size 63 (.slice (some ⟨w.heap.size, 0, none⟩) 0 0) 0 [] := NOwn.lit0 w 63
  go_enter Try.func49, Try.ntmps49
  go_wp2_with fail
  refine (pick_any _ _ _ _ hR0 (by omega)).mono ?_
  rintro e w1 ⟨v, rfl, hv, hR1, hG1⟩
  have hO1 := hO0.keep hG1 hglt
  have hG1' := hG0.trans hG1
  obtain ⟨v0, rfl⟩ := Int.eq_ofNat_of_zero_le (hv.1 (by omega)).1
  have hv8 : v0 < 8 := by have := (hv.1 (by omega)).2; omega
  obtain ⟨M, hM⟩ : ∃ M, 1 + v0 = M := ⟨_, rfl⟩
  have hMI : (1 : Int) + (v0 : Int) = (M : Int) := by omega
  have hM1 : 1 ≤ M := by omega
  have hM8 : M ≤ 8 := by omega
  clear hv hM hR0 hG0 hO0 hG1
  go_wp2_with fail
  refine (pick_any _ _ _ _ hR1 (by omega)).mono ?_
  rintro e w2 ⟨half, rfl, hh, hR2, hG2⟩
  have hhb := hh.1 (by omega)
  obtain ⟨hh0, hh1⟩ := hhb
  have hO2 := hO1.keep hG2 hglt
  have hG2' := hG1'.trans hG2
  clear hh hR1 hO1 hG1' hG2
  go_wp2
  go_loopw [3, 6, 7] (fun v en i wr => ScRel M g p w v en i wr) (fun _ _ i _ => M - (intOf i).toNat)
  case atStart => exact ⟨0, p + 1 + 1, [], 0, Nat.zero_le _, rfl, rfl, by omega, by omega, hO2, (fun z hz => by cases hz), hR2, hG2'⟩
  case round =>
    obtain ⟨k, p', ls, E, hk, rfl, rfl, hE, hp', hown, hin, hR, hG⟩ := hrel
    obtain ⟨hE0, hE1⟩ := hE
    clear hO2 hG2' hR2 hb0
    by_cases hlt : k < M
    · go_wp2_with fail
      refine (pick_any _ _ _ _ hR (by omega)).mono ?_
      rintro e w3 ⟨j, rfl, hj, hR3, hG3⟩
      have hjb := hj.1 (by omega)
      obtain ⟨hj0, hj1⟩ := hjb
      have hO3 := hown.keep hG3 hglt
      have hG3' := hG.trans hG3
      clear hj hG hG3 hown hR
      go_wp2_with fail
      refine (pick_any _ _ _ _ hR3 (by omega)).mono ?_
      rintro e w4 ⟨o, rfl, _, hR4, hG4⟩
      have hO4 := hO3.keep hG4 hglt
      have hG4' := hG3'.trans hG4
      have hs4 := hG4'.size
      obtain ⟨O, hO⟩ : ∃ O, (o == 0) = O := ⟨_, rfl⟩
      obtain ⟨J, hJ⟩ : ∃ J, half + 2 * j = J := ⟨_, rfl⟩
      have hJ0 : 0 ≤ J := by omega
      have hJ1 : J ≤ 10 := by omega
      have hll := hO4.len
      obtain ⟨xs, hxo, hxx⟩ := hO4.row
      have HXX := Lib.hid hxx
      have HXL := Lib.hid (And.intro hxo.1 hll)
      clear hG3' hG4 hO3 hR3 hO4 hxx hll
      go_wp2_with (at_builtin; refine wpList_append_own _ rfl _ _ 23 rfl w.heap.size 63 i0 _ 3 24 Try.underlying23 hi hz0 hz1 hz2 rfl (by decide) _ _ _ rfl (hxo.alloc _) ⟨w4.heap.size, 0, none⟩ 1 1 [.int .i64 E, .int .i64 J, .bool O] rfl rfl ?c1 ?c2 ?c3 ?c4 ?c5 ?_)
      case c1 => exact cell3_new _ _ _ _ _ rfl
      case c2 => intro u hu; simp at hu; rcases hu with rfl | rfl | rfl <;> rfl
      case c3 => unfold maxLen; omega
      case c4 => omega
      case c5 => simp; omega
      intro v' w5 hown' hgrow _
      have hG5 := grown_own hG4' hxo hgrow
      have hR5 := hR4.below (below_own hG4' hxo hgrow) hglt
      have hO5 := NOwn.snoc (l := ⟨E, J, O⟩) HXX.out HXL.out.2 HXL.out.1 hown'
      clear hgrow hxo hG4' hR4 hown' hO hJ
      go_wp2_with fail
      refine (pick_any _ _ _ _ hR5 (by omega)).mono ?_
      rintro e w6 ⟨a, rfl, ha, hR6, hG6⟩
      have hab := ha.1 (by omega)
      obtain ⟨ha0, ha1⟩ := hab
      have hO6 := (hO5.keep hG6 hglt).alloc (.cells #[.int .i64 1, .int .i64 10, .int .i64 100] 3)
      have hG6' := grown_alloc (hG5.trans hG6) (.cells #[.int .i64 1, .int .i64 10, .int .i64 100] 3)
      have hR6' := rd_allocM hR6 (.cells #[.int .i64 1, .int .i64 10, .int .i64 100] 3)
      have hg6 := hR6.lt
      clear ha hG6 hG5 hO5 hR5 hR6
      go_wp2_with fail
      refine (pick_any _ _ _ _ hR6' (by omega)).mono ?_
      rintro e w7 ⟨q, rfl, hq, hR7, hG7⟩
      obtain ⟨x, hx, hq0, hq1, hc⟩ := three_cellsM hq 1 10 100 3
      have hcell := hc w7 w6.heap.size (lit_held hG7 hg6)
      have hO7 := hO6.keep hG7 hglt
      have hG7' := hG6'.trans hG7
      have hm : 0 ≤ a * x ∧ a * x ≤ 3900 := by rcases hx.out with h | h | h <;> subst h <;> omega
      obtain ⟨hm0, hm1⟩ := hm
      obtain ⟨X, hX⟩ : ∃ X, a * x = X := ⟨_, rfl⟩
      rw [hX] at hm0 hm1
      have u1 : IntKind.i64.wrap X = X := IntWalk.i64_in _ (by omega)
      have u2 : IntKind.i64.wrap (E + 1) = E + 1 := IntWalk.i64_in _ (by omega)
      have u3 : IntKind.i64.wrap (E + 1 + X) = E + 1 + X := IntWalk.i64_in _ (by omega)
      have HS : Hid (∀ l ∈ ls ++ [(⟨E, J, O⟩ : Nd)], NSz 40000 l) := nsz_snoc hin.out (by unfold NSz; dsimp only; omega)
      clear hx hc hq hG6' hG7 hO6 hR6'
      have HO := Lib.hid (And.intro hO7 (And.intro hR7 hG7'))
      clear hO7 hR7 hG7'
      go_wp2
      go_roundw
      case rel => exact ⟨k + 1, p' + 1 + 1 + 1 + 1, _, E + 1 + X, by omega, by go_num, rfl, by omega, by omega, HO.out.1, HS.out, HO.out.2.1, HO.out.2.2⟩
      case measure => simp [intOf]; omega
    · obtain rfl : k = M := by omega
      obtain ⟨A5, c5, rfl⟩ := hown.form
      obtain ⟨gb, rfl, hgb1, hgb2⟩ := hown.at_ (by omega)
      go_wp2_with fail
      refine (pick_any _ _ _ _ hR (by omega)).mono ?_
      rintro e w3 ⟨s, rfl, hs, hR3, hG3⟩
      have hO3 := hown.keep hG3 hglt
      have hG3' := hG.trans hG3
      have hs3 := hG3'.size
      clear hs hG hG3 hown hR
      by_cases s0 : s = 0
      · have s0' : (s == 0) = true := by simpa using s0
        obtain ⟨d1, d2, d3⟩ := hO3.cells (i := 0) (by omega)
        have f1 := hO3.frozen 0
        have HS := Lib.hid (hO3.setE (i := 0) (by omega) 1)
        have hsb := hin.out _ (gN_mem (s := ls) (i := 0) (by rw [hO3.len]; omega))
        have HH := Lib.hid hO3
        rw [Nat.zero_mul] at HS d1
        clear s0 d2 d3 hO3
        go_wp2
        go_ret
        exact ⟨_, k, c5, _, p' + 1, rfl, by omega, HS.out.1, nsz_set hin.out (by omega) (by unfold NSz at *; dsimp only; omega), by omega, hR3.below (HH.out.mark (by omega) HS.out.2) hglt, grown_below hG3' (HH.out.mark (by omega) HS.out.2)⟩
      have s0' : (s == 0) = false := by simpa using s0
      by_cases s1 : s = 1
      · have s1' : (s == 1) = true := by simpa using s1
        obtain ⟨d1, d2, d3⟩ := hO3.cells (i := k - 1) (by omega)
        have f1 := hO3.frozen ((k - 1) * 3 + 1)
        have hsb := hin.out _ (gN_mem (s := ls) (i := k - 1) (by rw [hO3.len]; omega))
        have HS := Lib.hid (hO3.setJ (i := k - 1) (by omega) ((gN ls (k - 1)).j + 1))
        have HH := Lib.hid hO3
        have HB := Lib.hid hsb
        unfold NSz at hsb
        obtain ⟨Y, hY⟩ : ∃ Y, (gN ls (k - 1)).j = Y := ⟨_, rfl⟩
        rw [hY] at HS d2 hsb
        obtain ⟨⟨_, _⟩, y1, y2⟩ := hsb
        have u0 : ((k : Int) - 1).toNat = k - 1 := by omega
        have u1 : IntKind.i64.wrap (Y + 1) = Y + 1 := IntWalk.i64_in _ (by omega)
        clear s0 s1 d1 d3 hO3 hY
        go_wp2
        go_ret
        exact ⟨_, k, c5, _, p' + 1, rfl, by omega, HS.out.1, nsz_set hin.out (by omega) (by have := HB.out; unfold NSz at *; dsimp only; omega), by omega, hR3.below (HH.out.mark (by omega) HS.out.2) hglt, grown_below hG3' (HH.out.mark (by omega) HS.out.2)⟩
      have s1' : (s == 1) = false := by simpa using s1
      by_cases s2 : s = 2
      · have s2' : (s == 2) = true := by simpa using s2
        obtain ⟨d1, d2, d3⟩ := hO3.cells (i := k - 1) (by omega)
        have f1 := hO3.frozen ((k - 1) * 3)
        have hsb := hin.out _ (gN_mem (s := ls) (i := k - 1) (by rw [hO3.len]; omega))
        have HS := Lib.hid (hO3.setE (i := k - 1) (by omega) 200001)
        have HH := Lib.hid hO3
        have u0 : ((k : Int) - 1).toNat = k - 1 := by omega
        clear s0 s1 s2 d2 d3 hO3
        go_wp2
        go_ret
        exact ⟨_, k, c5, _, p' + 1, rfl, by omega, HS.out.1, nsz_set hin.out (by omega) (by unfold NSz at *; dsimp only; omega), by omega, hR3.below (HH.out.mark (by omega) HS.out.2) hglt, grown_below hG3' (HH.out.mark (by omega) HS.out.2)⟩
      have s2' : (s == 2) = false := by simpa using s2
      by_cases s3 : s = 3
      · have s3' : (s == 3) = true := by simpa using s3
        have hL := (NOwn.lit0 w3 63).base_ hs3
        have HO := Lib.hid (And.intro hL (grown_alloc hG3' (.cells #[] 63)))
        have HR := Lib.hid (rd_allocM hR3 (.cells #[] 63))
        clear s0 s1 s2 s3 hO3 hL hG3' hR3
        go_wp2
        go_ret
        exact ⟨_, 0, 0, [], p' + 1, rfl, by omega, HO.out.1, (fun l hl => by cases hl), by omega, HR.out, HO.out.2⟩
      · have s3' : (s == 3) = false := by simpa using s3
        clear s0 s1 s2 s3
        go_wp2
        go_ret
        exact ⟨_, k, c5, ls, p' + 1, rfl, by omega, hO3, nsz_more hin.out (by omega), by omega, hR3, hG3'⟩
end Go.Proofs.Ytpkfpegilhadfaa
