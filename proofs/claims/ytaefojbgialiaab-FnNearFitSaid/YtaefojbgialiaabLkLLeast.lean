/- The walk of the law FnLeast. -/
import Derived.Test.YtaefojbgialiaabLkDraw3
import Derived.Test.YtaefojbgialiaabLkLeast
set_option linter.unusedVariables false
namespace Go.Proofs.Ytaefojbgialiaab
open Go.RowKit Lk

theorem linksNear_is {many : Nat} {ls : List Link} {t : Int} (hok : lsOk (many : Int) ls = true) (h1 : 0 ≤ t) (h2 : t ≤ 200000) : linksNear (many : Int) ls t = true ↔ Near ls t := by
  unfold linksNear
  rw [hok, inB_t h1 h2, Int.toNat_natCast]
  exact nearB_iff (in_of_ok hok rfl)
theorem linksNear_t {many : Nat} {ls : List Link} {t : Int} (hok : lsOk (many : Int) ls = true) (h1 : 0 ≤ t) (h2 : t ≤ 200000) (h : Near ls t) : linksNear (many : Int) ls t = true := (linksNear_is hok h1 h2).2 h
theorem linksNear_f {many : Nat} {ls : List Link} {t : Int} (hok : lsOk (many : Int) ls = true) (h1 : 0 ≤ t) (h2 : t ≤ 200000) (h : ¬ Near ls t) : linksNear (many : Int) ls t = false := by
  rcases hh : linksNear (many : Int) ls t with _ | _
  · rfl
  · exact absurd ((linksNear_is hok h1 h2).1 hh) h

set_option maxHeartbeats 2000000 in
theorem fnLeast_walk (A : Option Addr) (n c : Nat) (bs : List Int) (w : World) (h : BSl w w.heap.size A n c bs) :
    Calls Try.prog 4 #[.slice A n c] w fun e w' => e = .returned (.bool true) ∧ Below w.heap.size w w' := by
  by_cases hbig : 1048576 < n
  · go_enter Try.func4, Try.ntmps4
    go_wp2
    go_ret
    exact ⟨rfl, Below.refl _ _⟩
  go_enter Try.func4, Try.ntmps4
  go_wp2_with fail
  refine (DrawLinksLeast_any _ _ _ _ _ h (by omega)).mono ?_
  rintro e w1 ⟨many, A1, m, c1, ls, rfl, hD, hb1⟩
  have hm9 := hD.few
  have hp := hD.pos
  have hp6 := hD.six
  have i1 := LSl.of_own hD.own hD.inL
  obtain ⟨v, hv⟩ := leastRes_ex (many : Int) ls
  have HV := Lib.hid hv
  clear hD hv
  go_wp2_with fail
  refine (iLinksLeast_any _ _ _ _ _ v _ i1 (by omega) HV.out).mono ?_
  rintro e w2 ⟨rfl, hb2⟩
  have hT2 := Below.step hb1 hb2
  have i2 := (i1.below hb2).more hb2.size
  clear i1 hb2
  go_wp2_with fail
  refine (sLinksLeast_any _ _ _ _ _ v _ i2 (by omega) HV.out).mono ?_
  rintro e w3 ⟨rfl, hb3⟩
  have hT3 := Below.step hT2 hb3
  have i3 := (i2.below hb3).more hb3.size
  clear i2 hb3
  have hne : (v != v) = false := by simp
  by_cases hneg : v < 0
  · go_wp2
    go_ret
    exact ⟨ret_bool (by simp), hT3⟩
  have hL : lsOk (many : Int) ls = true ∧ IsLeast ls v := by
    rcases HV.out with h | h
    · exact h
    · omega
  have HOK := Lib.hid hL.1
  have HL := Lib.hid hL.2
  have hnn : 0 ≤ v := by omega
  have hv2 := HL.out.le
  have HN1 : Hid (linksNear (many : Int) ls v = true) := linksNear_t HOK.out hnn hv2 HL.out.near
  have HN2 : Hid (0 < v → linksNear (many : Int) ls (v - 1) = false) := fun h0 => linksNear_f HOK.out (by omega) (by omega) (HL.out.least (v - 1) (by omega) (by omega))
  have hvI : InI v := by unfold InI; omega
  have hvI2 : InI (v - 1) := by unfold InI; omega
  clear hneg hL
  go_wp2_with fail
  refine (iLinksNear_any _ _ _ _ _ v _ i3 (by omega) hvI).mono ?_
  rintro e w4 ⟨rfl, hb4⟩
  have hT4 := Below.step hT3 hb4
  have i4 := (i3.below hb4).more hb4.size
  rw [HN1.out]
  clear i3 hb4
  by_cases h0 : v = 0
  · subst h0
    go_wp2
    go_ret
    exact ⟨rfl, hT4⟩
  have h0' : (v == 0) = false := by simpa using h0
  have HN3 := Lib.hid (HN2.out (by omega))
  clear h0
  go_wp2_with fail
  refine (iLinksNear_any _ _ _ _ _ (v - 1) _ i4 (by omega) hvI2).mono ?_
  rintro e w5 ⟨rfl, hb5⟩
  have hT5 := Below.step hT4 hb5
  rw [HN3.out]
  go_wp2
  go_ret
  exact ⟨rfl, hT5⟩
end Go.Proofs.Ytaefojbgialiaab
