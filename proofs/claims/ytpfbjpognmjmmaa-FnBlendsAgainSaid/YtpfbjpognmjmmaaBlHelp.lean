/- BlendMean with its result under names; two rationals compared; the draws of wave numbers. -/
import Derived.Test.YtpfbjpognmjmmaaBlMeanI
import Derived.Test.YtpfbjpognmjmmaaBlMeanS
import Derived.Test.YtpfbjpognmjmmaaBlWidth
import Derived.Test.YtpfbjpognmjmmaaDraw
namespace Go.Proofs.Ytpfbjpognmjmmaa
open Go.RowKit Bl

theorem ratOf_small {u v : Nat} (hv : v ≠ 0) (hu : u ≤ 1000000000) (hv2 : v ≤ 1000000000) : ∃ a d, ratOf u v = some (a, d) := by
  have hg : 0 < Nat.gcd u v := Nat.gcd_pos_of_pos_right _ (by omega)
  have h1 : u / Nat.gcd u v ≤ u := Nat.div_le_self _ _
  have h2 : v / Nat.gcd u v ≤ v := Nat.div_le_self _ _
  have h3 : 1 ≤ v / Nat.gcd u v := Nat.div_pos (Nat.gcd_le_right _ (by omega)) hg
  have h4 : Nat.gcd (u / Nat.gcd u v) (v / Nat.gcd u v) = 1 := Nat.coprime_div_gcd_div_gcd hg
  have hr : ratV (u / Nat.gcd u v) (v / Nat.gcd u v) = true := by unfold ratV; simp [h4]; omega
  exact ⟨_, _, by unfold ratOf; rw [if_neg hv, if_pos hr]⟩

/-- what the mean of a list is -/
def MeanIs (zs : List Int) (x y : Int) (b : Bool) : Prop :=
  (meanOk zs = true ∧ ∃ a d : Nat, x = a ∧ y = d ∧ b = true ∧ ratOf (tot zs zs.length).toNat zs.length = some (a, d)) ∨ (meanOk zs = false ∧ x = 0 ∧ y = 0 ∧ b = false)
theorem meanIs_ex (zs : List Int) : ∃ x y b, MeanIs zs x y b := by
  rcases h : meanOk zs with _ | _
  · exact ⟨0, 0, false, .inr ⟨h, rfl, rfl, rfl⟩⟩
  · have h' := h
    unfold meanOk at h'; simp at h'
    have := tot_bd h'.2
    obtain ⟨a, d, e⟩ := ratOf_small (u := (tot zs zs.length).toNat) (v := zs.length) (by omega) (by omega) (by omega)
    exact ⟨a, d, true, .inl ⟨h, a, d, rfl, rfl, rfl, e⟩⟩

theorem iBlendMean_is (A : Option Addr) (n c : Nat) (zs : List Int) (x y : Int) (b : Bool) (w : World) (hx : MeanIs zs x y b) (h : ISl w w.heap.size A n c zs) (hn : n ≤ 16777216) :
    Calls Try.prog 19 #[.slice A n c] w fun e w' => e = .returned (.tuple #[.agg #[.int .i64 x, .int .i64 y], .bool b]) ∧ Below w.heap.size w w' := by
  rcases hx with ⟨ho, a, d, rfl, rfl, rfl, hr⟩ | ⟨ho, rfl, rfl, rfl⟩
  · exact iBlendMean_some A n c zs a d w h ho hr
  · exact iBlendMean_no A n c zs w h hn ho
theorem sBlendMean_is (A : Option Addr) (n c : Nat) (zs : List Int) (x y : Int) (b : Bool) (w : World) (hx : MeanIs zs x y b) (h : ISl w w.heap.size A n c zs) (hn : n ≤ 16777216) :
    Calls Try.prog 18 #[.slice A n c] w fun e w' => e = .returned (.tuple #[.agg #[.int .i64 x, .int .i64 y], .bool b]) ∧ Below w.heap.size w w' := by
  rcases hx with ⟨ho, a, d, rfl, rfl, rfl, hr⟩ | ⟨ho, rfl, rfl, rfl⟩
  · exact sBlendMean_some A n c zs a d w h ho hr
  · exact sBlendMean_no A n c zs w h hn ho

set_option maxHeartbeats 400000 in
theorem eqRat_same (x y : Int) (w : World) :
    Calls Try.prog 20 #[.agg #[.int .i64 x, .int .i64 y], .agg #[.int .i64 x, .int .i64 y]] w fun e w' => e = .returned (.bool true) ∧ Below w.heap.size w w' := by
  go_enter Try.func20, Try.ntmps20
  go_wp2
  go_ret
  exact ⟨rfl, ((Below.refl _ _).alloc (Nat.le_refl _) _).alloc (by simp) _⟩

/-- a list of integers that a draw hands out, in new memory -/
structure Drawn (w w' : World) (A : Option Addr) (m c : Nat) (zs : List Int) : Prop where
  own : w'.ownsRow w.heap.size 3 1 (.slice A m c) m (zs.map (Value.int .i64))
  few : m ≤ 9
  inI : ∀ z ∈ zs, 0 ≤ z ∧ z ≤ 10000
theorem Drawn.ini {w w' : World} {A : Option Addr} {m c : Nat} {zs : List Int} (h : Drawn w w' A m c zs) : ∀ z ∈ zs, InI z := fun z hz => by
  have := h.inI z hz; unfold InI; omega

/-- one of three numbers, picked -/
theorem three_cells {y : Int} (hy : Picked 3 y) (a b c : Int) (t : TypeId) : ∃ x, Hid (x = a ∨ x = b ∨ x = c) ∧ 0 ≤ y ∧ y < 3 ∧
    ∀ (W : World) (k : Nat), W.heap[k]? = some (.cells #[.int .i64 a, .int .i64 b, .int .i64 c] t (0, 0)) → W.cell? ⟨k, y.toNat, none⟩ = some (.int .i64 x) := by
  have h := hy.1 (by omega)
  obtain rfl | rfl | rfl : y = 0 ∨ y = 1 ∨ y = 2 := by omega
  · exact ⟨a, .inl rfl, h.1, h.2, fun W k hk => (cell_of_row _ _ _ _ _ _ hk).trans rfl⟩
  · exact ⟨b, .inr (.inl rfl), h.1, h.2, fun W k hk => (cell_of_row _ _ _ _ _ _ hk).trans rfl⟩
  · exact ⟨c, .inr (.inr rfl), h.1, h.2, fun W k hk => (cell_of_row _ _ _ _ _ _ hk).trans rfl⟩

set_option maxHeartbeats 4000000 in
theorem l93Numbers_any (g p : Nat) (w : World) (h : Rd w g p) (hp : p ≤ 900000) :
    Calls Try.prog 32 #[.pointer (some ⟨g, 0, none⟩)] w fun e w' => ∃ A m c zs p', e = .returned (.slice A m c) ∧ Drawn w w' A m c zs ∧ p' ≤ p + 100 ∧ Rd w' g p' ∧ w.grownBy w' (some g) := by
  obtain ⟨i0, hi, hz0, hz1, hz2⟩ := info_parts int_info
  have hglt := h.lt
  go_enter Try.func32, Try.ntmps32
  go_wp2_with fail
  refine (pick_any _ _ _ _ (h.below ((Below.refl _ _).alloc (Nat.le_refl _) _) hglt) (by omega)).mono ?_
  rintro e w1 ⟨v, rfl, hv, hR1, hG1⟩
  obtain ⟨m, rfl⟩ := Int.eq_ofNat_of_zero_le (hv.1 (by omega)).1
  have hm : m < 9 := by have := (hv.1 (by omega)).2; omega
  have hO1 := own_keep (own_lit0 w 3) hG1 hglt
  have hG1' : w.grownBy w1 (some g) := (grown_alloc (World.grownBy.refl w _) _).trans hG1
  clear hv hG1
  go_wp2_with fail
  refine (pick_any _ _ _ _ hR1 (by omega)).mono ?_
  rintro e w2 ⟨s, rfl, hs, hR2, hG2⟩
  have hO2 := own_keep hO1 hG2 hglt
  have hG2' := hG1'.trans hG2
  have hsb := hs.1 (by omega)
  clear hG1' hG2 hO1 hR1 hs
  go_wp2_with fail
  go_loopw [3, 5, 6] (fun x n i wr => ∃ (k p' : Nat) (zs : List Int) (z : Int), k ≤ m ∧ i = .int .i64 k ∧ n = .int .i64 z ∧ 0 ≤ z ∧ z ≤ 50 + 250 * (k : Int) ∧ Hid (zs.length = k) ∧ p' ≤ p + 2 + 2 * k ∧ wr.ownsRow w.heap.size 3 1 x k (zs.map (Value.int .i64)) ∧ Hid (∀ z ∈ zs, 0 ≤ z ∧ z ≤ 10000) ∧ Rd wr g p' ∧ w.grownBy wr (some g)) (fun _ _ i _ => m - (intOf i).toNat)
  case atStart => exact ⟨0, p + 1 + 1, [], s, Nat.zero_le _, rfl, rfl, by omega, by omega, rfl, by omega, hO2, fun z hz => by simp at hz, hR2, hG2'⟩
  case round =>
    obtain ⟨k, p', zs, z, hk, rfl, rfl, hz0', hzb, HZ, hp', hown, hin, hR, hG⟩ := hrel
    clear hR2 hG2' hO2
    by_cases hlt : k < m
    · go_wp2_with (at_builtin; refine wpList_append_own _ rfl _ _ 22 rfl w.heap.size 3 i0 (.int .i64 0) 1 8 Try.underlying22 hi hz0 hz1 hz2 rfl (by decide) _ _ _ rfl (hown.alloc _) ⟨wr.heap.size, 0, none⟩ 1 1 [.int .i64 z] rfl rfl ?c1 ?c2 ?c3 ?c4 ?c5 ?_)
      case c1 => exact cell_one_new _ _ _
      case c2 => intro u hu; simp at hu; subst hu; rfl
      case c3 => unfold maxLen; omega
      case c4 => omega
      case c5 => have := hG.size; simp; omega
      intro v' w5 hown' hgrow _
      rw [ints_snoc] at hown'
      have hG5 := grown_own hG hown hgrow
      have hR5 := hR.below (below_own hG hown hgrow) hglt
      have HO := Lib.hid hown'
      clear hgrow hown hG hR hown'
      go_wp2_with fail
      refine (pick_any _ _ _ _ hR5 (by omega)).mono ?_
      rintro e w6 ⟨x, rfl, hx, hR6, hG6⟩
      have hO6 := own_keep HO.out hG6 hglt
      have hG6' := hG5.trans hG6
      have hxb := hx.1 (by omega)
      clear hR5 hG5 hG6 HO hx
      go_wp2_with fail
      refine (pick_any _ _ _ _ (hR6.below ((Below.refl _ _).alloc (Nat.le_refl _) _) hR6.lt) (by omega)).mono ?_
      rintro e w7 ⟨y, rfl, hy, hR7, hG7⟩
      have hs6 := hG6'.size
      have hw7 : w7.heap[w6.heap.size]? = some (.cells #[.int .i64 1, .int .i64 1, .int .i64 20] 3 (0, 0)) := by
        rw [hG7.block w6.heap.size (by simp) (by intro he; injection he; omega)]
        exact heap_alloc_new w6 _
      obtain ⟨q, hq, hy0, hy1, hcc⟩ := three_cells hy 1 1 20 3
      have hcell := hcc w7 _ hw7
      have hO7 := own_keep (hO6.alloc _) hG7 hglt
      have hG7' := (grown_alloc hG6' _).trans hG7
      have hq1 : 0 ≤ q ∧ q ≤ 20 := by have := hq.out; omega
      have hxq : 0 ≤ x * q ∧ x * q ≤ 11 * 20 := ⟨Int.mul_nonneg (by omega) (by omega), by
        have h1 : x * q ≤ 11 * q := Int.mul_le_mul_of_nonneg_right (by omega) (by omega)
        omega⟩
      have HO7 := Lib.hid hO7
      clear hcc hw7 hO6 hG6' hG7 hy hR6 hO7
      go_wp2
      go_roundw
      case rel =>
        refine ⟨k + 1, p' + 1 + 1, zs ++ [z], z + 1 + x * q, by omega, by go_num, by first | rfl | (congr 1; omega), by omega, by omega, ?_, by omega, HO7.out, ?_, hR7, hG7'⟩
        · show (zs ++ [z]).length = k + 1
          rw [List.length_append, HZ.out]; rfl
        · intro u hu
          rcases List.mem_append.1 hu with hu | hu
          · exact hin.out u hu
          · simp at hu; subst hu; omega
      case measure => simp [intOf]; omega
    · obtain rfl : k = m := by omega
      obtain ⟨A, c, rfl⟩ := own_form hown
      by_cases hm1 : 1 < k
      · have hm1I : (1 : Int) < (k : Int) := by omega
        obtain ⟨hb, rfl, hb1, hb2⟩ := own_at hown (by omega)
        go_wp2_with fail
        refine (pick_any _ _ _ _ hR (by omega)).mono ?_
        rintro e w8 ⟨x, rfl, hx, hR8, hG8⟩
        have hO8 := own_keep hown hG8 hglt
        have hG8' := hG.trans hG8
        have hs8 := hG8'.size
        clear hR hG8 hown hx
        by_cases hx0 : x = 0
        · have hx0' : (x == 0) = true := by simpa using hx0
          clear hx0
          have hz0 : 0 < zs.length := by rw [HZ.out]; omega
          have hz1' : 1 < zs.length := by rw [HZ.out]; omega
          have c0 : w8.cell? ⟨hb, 0, none⟩ = some (.int .i64 (gI zs 0)) := (hO8.cellAt 0 (by omega)).trans (getElem?_map_some hz0)
          have c1 : w8.cell? ⟨hb, 1, none⟩ = some (.int .i64 (gI zs 1)) := (hO8.cellAt 1 (by omega)).trans (getElem?_map_some hz1')
          have f1 := hO8.frozenAt 1
          have hst := hO8.stored 1 (.int .i64 (gI zs 0))
          rw [← List.map_set] at hst
          have hG9 : w.grownBy (w8.setCell ⟨hb, 1, none⟩ (.int .i64 (gI zs 0))) (some g) := grown_below hG8' (below_mark hO8 (by omega) hst.2)
          have hR9 : Rd (w8.setCell ⟨hb, 1, none⟩ (.int .i64 (gI zs 0))) g (p' + 1) := hR8.below (below_mark hO8 (by omega) hst.2) hglt
          have HS := Lib.hid (And.intro hst.1 (And.intro hG9 hR9))
          clear hst hG9 hR9 hO8 hG8' hR8 hz0 hz1'
          go_wp2
          go_ret
          refine ⟨_, k, c, zs.set 1 (gI zs 0), p' + 1, rfl, ⟨HS.out.1, by omega, fun u hu => ?_⟩, by omega, HS.out.2.2, HS.out.2.1⟩
          rcases List.mem_or_eq_of_mem_set hu with hu | hu
          · exact hin.out u hu
          · subst hu; exact hin.out _ (gI_mem (by rw [HZ.out]; omega))
        · have hx0' : (x == 0) = false := by simpa using hx0
          clear hx0
          go_wp2
          go_ret
          exact ⟨_, k, c, zs, p' + 1, rfl, ⟨hO8, by omega, hin.out⟩, by omega, hR8, hG8'⟩
      · have hm1I : (k : Int) ≤ 1 := by omega
        go_wp2
        go_ret
        exact ⟨A, k, c, rfl, ⟨zs, hown, by omega, hin.out⟩, ⟨p', by omega, hR, hG⟩⟩

set_option maxHeartbeats 1000000 in
theorem DrawBlendWidth_any (A : Option Addr) (n c : Nat) (bs : List Int) (w : World) (h : BSl w w.heap.size A n c bs) (hn : n ≤ 16777216) :
    Calls Try.prog 17 #[.slice A n c] w fun e w' => ∃ A m c zs, e = .returned (.slice A m c) ∧ Drawn w w' A m c zs ∧ Below w.heap.size w w' := by
  go_enter Try.func17, Try.ntmps17
  go_wp2_with fail
  refine (l6Open_any _ _ _ _ _ h hn).mono ?_
  rintro e w1 ⟨rfl, hR1, hs1, hb1⟩
  go_wp2_with fail
  refine (l93Numbers_any _ _ _ hR1 (by omega)).mono ?_
  rintro e w2 ⟨A2, m, c2, zs, p2, rfl, hD, _, _, hG2⟩
  go_wp2
  go_ret
  exact ⟨A2, m, c2, zs, rfl, ⟨own_base hD.own (by omega), hD.few, hD.inI⟩, hb1.trans (below_of_grown hG2 (Nat.le_refl _) (by omega))⟩

set_option maxHeartbeats 1000000 in
theorem DrawBlendMean_any (A : Option Addr) (n c : Nat) (bs : List Int) (w : World) (h : BSl w w.heap.size A n c bs) (hn : n ≤ 16777216) :
    Calls Try.prog 21 #[.slice A n c] w fun e w' => ∃ A m c zs, e = .returned (.slice A m c) ∧ Drawn w w' A m c zs ∧ Below w.heap.size w w' := by
  go_enter Try.func21, Try.ntmps21
  go_wp2_with fail
  refine (l6Open_any _ _ _ _ _ h hn).mono ?_
  rintro e w1 ⟨rfl, hR1, hs1, hb1⟩
  go_wp2_with fail
  refine (l93Numbers_any _ _ _ hR1 (by omega)).mono ?_
  rintro e w2 ⟨A2, m, c2, zs, p2, rfl, hD, _, _, hG2⟩
  go_wp2
  go_ret
  exact ⟨A2, m, c2, zs, rfl, ⟨own_base hD.own (by omega), hD.few, hD.inI⟩, hb1.trans (below_of_grown hG2 (Nat.le_refl _) (by omega))⟩
end Go.Proofs.Ytpfbjpognmjmmaa
