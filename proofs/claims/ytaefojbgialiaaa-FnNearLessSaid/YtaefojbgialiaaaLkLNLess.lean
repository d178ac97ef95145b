/- The walk of the law FnNearLess. -/
import Derived.Test.YtaefojbgialiaaaLkDraw2
import Derived.Test.YtaefojbgialiaaaLkNearI
import Derived.Test.YtaefojbgialiaaaLkNearS
import Derived.Test.YtaefojbgialiaaaLkAny
import Derived.Deep.RegionLaw
set_option linter.unusedVariables false
namespace Go.Proofs.Ytaefojbgialiaaa
open Go.RowKit Lk

theorem linksNear_if {many tol : Int} {ls : List Link} (h : linksNear many ls tol = true) : lsOk many ls = true ∧ 0 ≤ tol ∧ tol ≤ 200000 := by
  unfold linksNear at h
  rcases h1 : lsOk many ls with _ | _
  · rw [h1] at h; simp at h
  · rcases h2 : inB tol 0 200000 with _ | _
    · rw [h2] at h; simp at h
    · exact ⟨rfl, inB_yes h2⟩
theorem linksNear_eq {many : Nat} {ls : List Link} {t : Int} (hok : lsOk (many : Int) ls = true) (h1 : 0 ≤ t) (h2 : t ≤ 200000) : linksNear (many : Int) ls t = true ↔ Near ls t := by
  unfold linksNear
  rw [hok, inB_t h1 h2, Int.toNat_natCast]
  exact nearB_iff (in_of_ok hok rfl)

set_option maxRecDepth 100000 in
set_option maxHeartbeats 4000000 in
theorem fnNearLess_walk (A : Option Addr) (n c : Nat) (bs : List Int) (A' : Option Addr) (n' c' : Nat) (bs' : List Int) (w : World) (h : BSl w w.heap.size A n c bs) (h' : BSl w w.heap.size A' n' c' bs') :
    Calls Try.prog 5 #[.slice A n c, .slice A' n' c'] w fun e w' => e = .returned (.bool true) ∧ Below w.heap.size w w' := by
  by_cases hbig : 1048576 < n
  · go_enter Try.func5, Try.ntmps5
    go_wp2
    go_ret
    exact ⟨rfl, Below.refl _ _⟩
  by_cases hbig' : 1048576 < n'
  · go_enter Try.func5, Try.ntmps5
    go_wp2
    go_ret
    exact ⟨rfl, Below.refl _ _⟩
  obtain ⟨i7, hi7, hy0, hy1, hy2⟩ := info_parts link_info
  go_enter Try.func5, Try.ntmps5
  go_wp2_with fail
  refine (DrawLinksNear_any _ _ _ _ _ h (by omega)).mono ?_
  rintro e w1 ⟨many, A1, m, c1, ls, tol, rfl, hD, ht, hb1⟩
  have hm9 := hD.few
  have hp := hD.pos
  have hp6 := hD.six
  have htI : InI tol := by unfold InI; omega
  have i1 := LSl.of_own hD.own hD.inL
  have HLI := Lib.hid hD.inL
  clear hD
  go_wp2_with fail
  refine (iLinksNear_any _ _ _ _ _ tol _ i1 (by omega) htI).mono ?_
  rintro e w2 ⟨rfl, hb2⟩
  have hT2 := Below.step hb1 hb2
  have i2 := (i1.below hb2).more hb2.size
  clear i1 hb2
  go_wp2_with fail
  refine (sLinksNear_any _ _ _ _ _ tol _ i2 (by omega)).mono ?_
  rintro e w4 ⟨rfl, hb3⟩
  have hT4 := Below.step hT2 hb3
  have i4 := (i2.below hb3).more hb3.size
  clear i2 hb3
  rcases hnr : linksNear (many : Int) ls tol with _ | _
  · go_wp2
    go_ret
    exact ⟨rfl, hT4⟩
  have HOK := Lib.hid (linksNear_if hnr).1
  have ht1 := (linksNear_if hnr).2.1
  have ht2 := (linksNear_if hnr).2.2
  have HNR : Hid (Near ls tol) := (linksNear_eq HOK.out ht1 ht2).1 hnr
  have HLEN := Lib.hid i4.len
  clear hnr ht
  by_cases hm0 : m = 0
  · subst hm0
    have hn0 : ls = [] := List.eq_nil_of_length_eq_zero HLEN.out
    have H0 : Hid (linksNear (many : Int) ls 0 = true) := (linksNear_eq HOK.out (by omega) (by omega)).2 (by rw [hn0]; exact ⟨fun _ => 0, fun l hl => by cases hl⟩)
    have h0I : InI 0 := by unfold InI; omega
    clear hn0
    go_wp2_with fail
    refine (iLinksNear_any _ _ _ _ _ 0 _ i4 (by omega) h0I).mono ?_
    rintro e w6 ⟨rfl, hb6⟩
    have hT6 := Below.step hT4 hb6
    rw [H0.out]
    go_wp2
    go_ret
    exact ⟨rfl, hT6⟩
  obtain ⟨K, hKe⟩ : ∃ K, n' % m = K := ⟨_, rfl⟩
  have hK : K < m := by have := Nat.mod_lt n' (show 0 < m by omega); omega
  have t2 : (n' : Int) % (m : Int) = (K : Int) := by rw [← hKe]; simp
  have t1 : (n' : Int).tmod (m : Int) = (K : Int) := by rw [Int.tmod_eq_emod_of_nonneg (by omega)]; exact t2
  have tz : ((m : Int) == 0) = false := by simp; omega
  have tn : ¬ ((m : Int) = 0) := by omega
  have hmc := i4.cap
  have hKc : K ≤ c1 := by omega
  have hKm : K + 1 ≤ m := by omega
  have HRI : Hid (∀ l ∈ ls.take K ++ ls.drop (K + 1), InL l) := fun l hl => HLI.out l (drop_one_mem ls K l hl)
  have HRK : Hid (lsOk (many : Int) (ls.take K ++ ls.drop (K + 1)) = true) := lsOk_sub HOK.out (by simp [HLEN.out]; omega) (fun l hl => drop_one_mem ls K l hl)
  have HRN : Hid (linksNear (many : Int) (ls.take K ++ ls.drop (K + 1)) tol = true) := (linksNear_eq HRK.out ht1 ht2).2 (near_less HNR.out (fun l hl => drop_one_mem ls K l hl))
  have hbA : Below w4.heap.size w4 (w4.alloc (.cells #[] 41)) := (Below.refl _ _).alloc (Nat.le_refl _) _
  have HT1 := Lib.hid (i4.tail (k := K + 1) hK)
  have HT2 := Lib.hid (i4.cut (k := K) (by omega))
  have HLT := Lib.hid (own_lit3 w4 41)
  have u1 : IntKind.i64.wrap ((K : Int) + 1) = (K : Int) + 1 := IntWalk.i64_in _ (by omega)
  have u2 : ((K : Int) + 1).toNat = K + 1 := by omega
  have u3 : (0 : Int) ≤ (K : Int) + 1 := by omega
  have u4 : (K : Int) + 1 ≤ (m : Int) := by omega
  clear hKe i4 hm0
  go_wp2
  go_region_law (first
    | ((refine step_links (by rfl) _ _ _ _ (by rfl) w4.heap.size 41 i7 _ Try.underlying25 hi7 hy0 hy1 hy2 rfl va K (ls.take K) (by rfl) hva w4.heap.size _ (m - (K + 1)) _ (ls.drop (K + 1)) (by rfl) (HT1.out.below hba) (m - 1) (ls.take K ++ ls.drop (K + 1)) (by omega) rfl (by omega) hba.size ?_); intro vb wb hvb hgb; obtain ⟨Ab, cb, rfl⟩ := own_form hvb)
    | ((refine step_links (by rfl) _ _ _ _ (by rfl) w4.heap.size 41 i7 _ Try.underlying25 hi7 hy0 hy1 hy2 rfl (.slice (some ⟨w4.heap.size, 0, none⟩) 0 0) 0 [] (by rfl) HLT.out w4.heap.size A1 K c1 (ls.take K) (by rfl) ?_ K (ls.take K) (by omega) (by rfl) (by omega) hbA.size ?_); (first | exact HT2.out.below hbA | exact (HT2.out.below hbA).drewN 1); intro va wa hva hga; have hba := (below_drew hbA).grown (w' := wa) hga (by simp) (by intro g e; simp [Value.ownBlock] at e; omega))
    | (go_simp; go_at_call 16; ((with_reducible refine (iLinksNear_any _ _ _ _ _ tol _ (LSl.of_own (LOwn.of_cells hvb) HRI.out) (by omega) htI).mono ?_); rintro e w6 ⟨rfl, hb6⟩)))
  all_goals
    have hbb : Below w4.heap.size w4 wb := hba.grown (w' := wb) hgb hba.size (fun g e => (hva.lt g e).1)
    have hT5 := Below.step hT4 hbb
    have hT6 := Below.step hT5 hb6
    rw [HRN.out]
    clear hva hvb hga hgb
    go_wp2
    all_goals
      go_ret
      exact ⟨rfl, hT6⟩
end Go.Proofs.Ytaefojbgialiaaa
