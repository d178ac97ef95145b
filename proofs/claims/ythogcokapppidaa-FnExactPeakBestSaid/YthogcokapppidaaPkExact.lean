/- The walks of the laws 'the program's function returns what the reference's returns' for counts. -/
import Derived.Test.YthogcokapppidaaPkWidthS
namespace Go.Proofs.Ythogcokapppidaa
open Go.RowKit Pk

set_option maxHeartbeats 1000000 in
theorem fnExactPeakBest_walk (A : Option Addr) (n c : Nat) (zs : List Int) (w : World) (h : ISl w w.heap.size A n c zs) :
    Calls Try.prog 3 #[.slice A n c] w fun e w' => e = .returned (.bool true) ∧ Below w.heap.size w w' := by
  by_cases hbig : 1048576 < n
  · go_enter Try.func3, Try.ntmps3
    go_wp2
    go_ret
    exact ⟨rfl, Below.refl _ _⟩
  · go_enter Try.func3, Try.ntmps3
    go_wp2_with fail
    refine (toIntS_any _ _ _ _ _ h (by omega)).mono ?_
    rintro e w1 ⟨A1, c1, rfl, ho1, hb1⟩
    have hs1 := hb1.size
    have h1 := ISl.of_own ho1 h.inI
    have ha1 := (h.below hb1).more hs1
    go_wp2_with fail
    refine (sPeakBest_any _ _ _ _ _ h1 (by omega)).mono ?_
    rintro e w2 ⟨rfl, hb2⟩
    have hs2 := hb2.size
    have ha2 := (ha1.below hb2).more hs2
    go_wp2_with fail
    refine (toIntS_any _ _ _ _ _ ha2 (by omega)).mono ?_
    rintro e w3 ⟨A3, c3, rfl, ho3, hb3⟩
    have hs3 := hb3.size
    have h3 := ISl.of_own ho3 h.inI
    have ha3 := (ha2.below hb3).more hs3
    go_wp2_with fail
    refine (iPeakBest_any _ _ _ _ _ _ h3 (by omega)).mono ?_
    rintro e w4 ⟨rfl, rfl⟩
    go_wp2_with fail
    refine (toIntS_any _ _ _ _ _ ha3 (by omega)).mono ?_
    rintro e w5 ⟨A5, c5, rfl, ho5, hb5⟩
    have hs5 := hb5.size
    have h5 := ISl.of_own ho5 h.inI
    have h35 := (h3.below hb5).more hs5
    go_wp2_with fail
    refine (eqIntS_same _ _ _ _ _ _ _ _ h35 h5 (by omega)).mono ?_
    rintro e w6 ⟨rfl, hb6⟩
    go_wp2
    go_ret
    exact ⟨rfl, hb1.trans ((hb2.mono hs1).trans ((hb3.mono (by omega)).trans ((hb5.mono (by omega)).trans (hb6.mono (by omega)))))⟩
end Go.Proofs.Ythogcokapppidaa
