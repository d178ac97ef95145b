/- Helpers of the laws on counts: mirrored, hasInt; the contracts with their results under a name; lists of peaks as integers. -/
import Derived.Test.YtddchlfhjiimcaaPkWidthS
import Derived.Test.YtddchlfhjiimcaaPkPeaksS
import Derived.Test.YtddchlfhjiimcaaPkDraw
namespace Go.Proofs.Ytddchlfhjiimcaa
open Go.RowKit Pk

theorem iPeaksOf_of (A : Option Addr) (n c : Nat) (zs : List Int) (least : Int) (w : World) (ps : List Int) (hps : peaksOf zs least = ps) (h : ISl w w.heap.size A n c zs) (hn : n ≤ 16777216) :
    Calls Try.prog 7 #[.slice A n c, .int .i64 least] w fun e w' => ∃ A' c', e = .returned (.slice A' ps.length c') ∧ w'.ownsRow w.heap.size 3 1 (.slice A' ps.length c') ps.length (ps.map (Value.int .i64)) ∧ Below w.heap.size w w' := by
  subst hps; exact iPeaksOf_any A n c zs least w h hn
theorem sPeaksOf_of (A : Option Addr) (n c : Nat) (zs : List Int) (least : Int) (w : World) (ps : List Int) (hps : peaksOf zs least = ps) (h : ISl w w.heap.size A n c zs) (hn : n ≤ 16777216) :
    Calls Try.prog 8 #[.slice A n c, .int .i64 least] w fun e w' => ∃ A' c', e = .returned (.slice A' ps.length c') ∧ w'.ownsRow w.heap.size 3 1 (.slice A' ps.length c') ps.length (ps.map (Value.int .i64)) ∧ Below w.heap.size w w' := by
  subst hps; exact sPeaksOf_any A n c zs least w h hn

/-- what the width is, where it is one -/
theorem width_parts {zs : List Int} {a : Int} (h : peakWidth zs a ≠ 0) : ∃ k lo hi W : Nat, a = (k : Int) ∧ cOk zs = true ∧ k < zs.length ∧ gI zs k ≠ 0 ∧ lo = lowF zs k k ∧ hi = highF zs k (zs.length - 1 - k) k ∧
    lo ≤ k ∧ k ≤ hi ∧ hi < zs.length ∧ peakWidth zs a = (W : Int) ∧ lo + W = hi + 1 := by
  have hh := h
  unfold peakWidth at h
  split at h
  · next hc =>
    obtain ⟨h1, h2, h3, h4⟩ := hc
    have hl := lowF_le zs a.toNat a.toNat
    have hg := highF_ge zs a.toNat (zs.length - 1 - a.toNat) a.toNat
    refine ⟨a.toNat, _, _, highF zs a.toNat (zs.length - 1 - a.toNat) a.toNat + 1 - lowF zs a.toNat a.toNat, by omega, h1, by omega, h4, rfl, rfl, hl, hg.1, by omega, ?_, by omega⟩
    unfold peakWidth
    rw [if_pos ⟨h1, h2, h3, h4⟩]; omega
  · exact absurd rfl h

/-- the i-th peak -/
theorem peaks_parts {zs : List Int} {l : Int} {ps : List Int} (h : peaksOf zs l = ps) (hn : 0 < ps.length) : cOk zs = true ∧ ps.length = (pks zs l zs.length).length ∧ ps = asInts (pks zs l zs.length) := by
  unfold peaksOf at h
  split at h
  · next hc => subst h; exact ⟨hc, asInts_len _, rfl⟩
  · subst h; simp at hn
theorem asInts_at (l : List Nat) (i : Nat) : gI (asInts l) i = (nth l i : Int) := by
  unfold gI asInts nth
  rw [List.getElem?_map]
  cases l[i]? <;> simp

theorem mir_snoc {zs : List Int} {j : Nat} (h0 : 0 < j) (hj : j ≤ zs.length) : (zs.drop j).reverse ++ [gI zs (j - 1)] = (zs.drop (j - 1)).reverse := by
  have : zs.drop (j - 1) = gI zs (j - 1) :: zs.drop j := by
    rw [List.drop_eq_getElem_cons (by omega), gI_lt (by omega), show j - 1 + 1 = j by omega]
  rw [this, List.reverse_cons]

set_option maxHeartbeats 1000000 in
theorem mirrored_any (A : Option Addr) (n c : Nat) (zs : List Int) (w : World) (h : ISl w w.heap.size A n c zs) (hn : n ≤ 16777216) :
    Calls Try.prog 13 #[.slice A n c] w fun e w' => ∃ A' c', e = .returned (.slice A' n c') ∧ w'.ownsRow w.heap.size 3 1 (.slice A' n c') n (zs.reverse.map (Value.int .i64)) ∧ Below w.heap.size w w' := by
  have HL := Lib.hid h.len
  obtain ⟨i0, hi, hz0, hz1, hz2⟩ := info_parts int_info
  go_enter Try.func13, Try.ntmps13
  go_wp2
  go_loopw [3, 4] (fun v i wr => ∃ (j : Nat) (L : List Int), j ≤ n ∧ i = .int .i64 ((j : Int) - 1) ∧ Hid (L = (zs.drop j).reverse) ∧ L.length ≤ n ∧ wr.ownsRow w.heap.size 3 1 v L.length (L.map (Value.int .i64)) ∧ Below w.heap.size w wr) (fun _ i _ => (intOf i + 1).toNat)
  case atStart =>
    refine ⟨n, [], Nat.le_refl _, rfl, ?_, Nat.zero_le _, own_lit0 w _, (Below.refl _ _).alloc (Nat.le_refl _) _⟩
    show [] = (zs.drop n).reverse
    rw [List.drop_of_length_le (by rw [HL.out]; exact Nat.le_refl _)]; rfl
  case round =>
    obtain ⟨j, L, hj, rfl, HJL, hpl, hown, hb⟩ := hrel
    by_cases hlt : 0 < j
    · obtain ⟨b, off, rfl, hbB, hkz, hc⟩ := h.at_ (show j - 1 < n by omega)
      have h1 := (bcell hb _ _ hbB).trans (hc (j - 1) (by omega))
      have hlt' : (0 : Int) ≤ (j : Int) - 1 := by omega
      have HM : Hid (L ++ [gI zs (j - 1)] = (zs.drop (j - 1)).reverse) := by
        show L ++ [gI zs (j - 1)] = _
        rw [HJL.out]; exact mir_snoc hlt (by have := HL.out; omega)
      clear hc
      go_wp2_with (at_builtin; refine wpList_append_own _ rfl _ _ 23 rfl w.heap.size 3 i0 (.int .i64 0) 1 8 Try.underlying23 hi hz0 hz1 hz2 rfl (by decide) _ _ _ rfl (hown.alloc _) ⟨wr.heap.size, 0, none⟩ 1 1 [.int .i64 (gI zs (j - 1))] rfl rfl ?c1 ?c2 ?c3 ?c4 ?c5 ?_)
      case c1 => exact cell_one_new _ _ _
      case c2 => intro u hu; simp at hu; subst hu; rfl
      case c3 => unfold maxLen; omega
      case c4 => omega
      case c5 => have := hb.size; simp; omega
      intro v' w1 hown' hgrow _
      rw [ints_snoc, show L.length + 1 = (L ++ [gI zs (j - 1)]).length by simp] at hown'
      have hb' : Below w.heap.size w w1 := ((hb.alloc hb.size _).grown hgrow (by have := hb.size; simp; omega) (fun g hg => (hown.lt g hg).1))
      have HO := Lib.hid hown'
      clear hown hgrow hown'
      go_wp2
      go_roundw
      case rel => exact ⟨j - 1, L ++ [gI zs (j - 1)], by omega, by go_num, HM, by rw [HM.out]; have := HL.out; simp; omega, HO.out, hb'⟩
      case measure => simp [intOf]; omega
    · have hj0 : (j : Int) - 1 < 0 := by omega
      have HJ : Hid (j = 0) := by show j = 0; omega
      go_wp2
      go_ret
      have e : L = zs.reverse := by rw [HJL.out, HJ.out]; rfl
      subst e
      have e2 : zs.reverse.length = n := by simp [HL.out]
      obtain ⟨A', c', rfl⟩ := own_form hown
      rw [e2] at hown ⊢
      exact ⟨A', c', rfl, hown, hb⟩


end Go.Proofs.Ytddchlfhjiimcaa
