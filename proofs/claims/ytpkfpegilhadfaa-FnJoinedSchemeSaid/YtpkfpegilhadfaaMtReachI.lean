/- The walk of the program's SchemeReach. -/
import Derived.Test.YtpkfpegilhadfaaMtLinesI
import Derived.Test.YtpkfpegilhadfaaMtBestS
import Derived.Test.YtpkfpegilhadfaaMtLinks
import Derived.Test.YtpkfpegilhadfaaLkForest
set_option linter.unusedVariables false
namespace Go.Proofs.Ytpkfpegilhadfaa
open Go.RowKit Lk Mt

theorem boolR_info : (Try.prog.info? 4).map (fun i => (i.zero, i.size, i.bytes)) = some (some (.bool false), 1, 1) := by kernel_rfl
theorem made_boolsR (N : Nat) : (madeCells (Value.bool false).cells (N * 1)).toList = (List.replicate N false).map Value.bool := by
  apply List.ext_getElem?
  intro i
  by_cases hi : i < N
  · simp [madeCells, Value.cells, hi, Nat.mod_one]
  · simp [madeCells, hi]
theorem boolsR_at {bs : List Bool} {i : Nat} (h : i < bs.length) : (bs.map Value.bool)[i]? = some (.bool (gB bs i)) := by simp [gB, h]
theorem reachL_no {s : List Nd} (h : sOk s = false) : reachL s = [] := by unfold reachL; rw [if_neg (by rw [h]; simp)]
theorem reachL_len {s : List Nd} (h : sOk s = true) : (reachL s).length = s.length := by unfold reachL; rw [if_pos h]; simp
theorem reachL_at {s : List Nd} (h : sOk s = true) {i : Nat} (hi : i < s.length) : gB (reachL s) i = reach s i := by unfold reachL; rw [if_pos h]; simp [gB, hi]
theorem grown_farM {w w' : World} {g b off : Nat} (hG : w.grownBy w' (some g)) (hb : b < w.heap.size) (hne : b ≠ g) : w'.cell? ⟨b, off, none⟩ = w.cell? ⟨b, off, none⟩ :=
  World.cell?_of_block (hG.block b hb (fun e => by injection e; omega))
theorem ku_snoc {L : List Line} {k : Nat} (h : k < L.length) : (L.take (k + 1)).map ku = (L.take k).map ku ++ [ku (gX L k)] := by rw [take_snocX h, List.map_append]; rfl
/-- what SchemeReach leaves -/
def ReachRes (s : List Nd) (w : World) (e : Ending) (w' : World) : Prop :=
  ∃ (A : Option Addr) (n c : Nat), e = .returned (.slice A n c) ∧ w'.ownsRow w.heap.size 4 1 (.slice A n c) n ((reachL s).map Value.bool) ∧ Below w.heap.size w w'
set_option maxRecDepth 100000 in
set_option maxHeartbeats 8000000 in
theorem iSchemeReach_any (A : Option Addr) (n c : Nat) (s : List Nd) (w : World) (h : NSl w w.heap.size A n c s) :
    Calls Try.prog 24 #[.slice A n c] w (ReachRes s w) := by
  have HL := Lib.hid h.len
  obtain ⟨i0, hi, hz0, hz1, hz2⟩ := info_parts boolR_info
  go_enter Try.func24, Try.ntmps24
  go_wp2_with fail
  refine (iSchemeValid_any _ _ _ s _ h).mono ?_
  rintro e w1 ⟨rfl, hb1⟩
  rcases hv : sOk s with _ | _
  · have HV := Lib.hid hv
    have HO := Lib.hid hb1
    clear hb1 hv
    go_wp2
    go_ret
    exact ⟨none, 0, 0, rfl, by rw [reachL_no HV.out]; exact World.ownsRow_nil _ _ _ _, HO.out⟩
  have HV := Lib.hid hv
  have hbd := sOk_bd hv
  rw [HL.out] at hbd
  have hn1 : 1 ≤ n := hbd.1
  have hn12 : n ≤ 12 := hbd.2.1
  clear hv hbd
  go_wp2_with fail
  refine (newForest_any _ _ (by omega)).mono ?_
  rintro e w2 ⟨rfl, hP2, hb2⟩
  have hg2 := (hP2.lt _ rfl).2
  have hbt := Below.step hb1 hb2
  have hs12 := hb1.size
  go_wp2_with fail
  refine (iSchemeLines_any _ _ _ s _ ((h.below hbt).more hbt.size)).mono ?_
  rintro e w3 ⟨A3, n3, c3, rfl, hL3, hb3⟩
  have hP3 := own_below hP2 hb3
  have hG3 : w3.grownBy w3 (some w1.heap.size) := World.grownBy.refl w3 _
  have hB3 : Below w1.heap.size w1 w3 := Below.step hb2 hb3
  have hl : (lines s).length = n3 := by have := hL3.len; simpa using this
  have HLL := Lib.hid hl
  have hn3 : n3 ≤ 144 := by rw [← hl]; exact lines_len s
  have HLI : Hid (∀ k, k < n3 → 0 ≤ (gX (lines s) k).l ∧ (gX (lines s) k).l < (gX (lines s) k).u ∧ (gX (lines s) k).u < n) := fun k hk => by
    have := lines_in HV.out (gX_mem (s := lines s) (i := k) (by rw [hl]; exact hk))
    rw [HL.out] at this; omega
  have hs23 := hb3.size
  have hL3r := fun k (hk : k < n3) => hL3.at_ (show 0 < n3 by omega)
  clear hP2 hb2 hb3 hbt hl
  go_wp2
  go_loopw [17] (fun i wr => ∃ (k : Nat) (P : List Int), k ≤ n3 ∧ i = .int .i64 k ∧ Hid (Forest n P (joinF (((lines s).take k).map ku))) ∧ wr.ownsRow w1.heap.size 3 1 (.slice (some ⟨w1.heap.size, 0, none⟩) n n) n (P.map (Value.int .i64)) ∧ w3.grownBy wr (some w1.heap.size)) (fun i _ => n3 - (intOf i).toNat)
  case atStart => exact ⟨0, iota 0 n, Nat.zero_le _, rfl, forest_new n, hP3, hG3⟩
  case round =>
    obtain ⟨k, P, hk, rfl, HP, hP, hG⟩ := hrel
    clear hP3 hG3
    by_cases hlt : k < n3
    · obtain ⟨b, rfl, hbB1, hbB2⟩ := hL3r k hlt
      obtain ⟨q1, q2, q3⟩ := hL3.cells hlt
      rw [gL_lm] at q1 q2 q3
      have hik := HLI.out k hlt
      have HT := Lib.hid (ku_snoc (L := lines s) (k := k) (by rw [HLL.out]; exact hlt))
      obtain ⟨X, hX⟩ : ∃ X, gX (lines s) k = X := ⟨_, rfl⟩
      rw [hX] at q1 q2 q3 hik
      have HX := Lib.hid hX
      clear hX
      obtain ⟨xu, xl, xn⟩ := X
      unfold lm at q1 q2 q3
      dsimp only at q1 q2 q3 hik
      obtain ⟨l1, l2, l3⟩ := hik
      obtain ⟨L0, rfl⟩ := Int.eq_ofNat_of_zero_le l1
      obtain ⟨U0, rfl⟩ := Int.eq_ofNat_of_zero_le (show 0 ≤ xu by omega)
      have p1 := (grown_farM hG hbB2 (by omega)).trans q1
      have p2 := (grown_farM hG hbB2 (by omega)).trans q2
      have p3 := (grown_farM hG hbB2 (by omega)).trans q3
      have hkI : (k : Int) < (n3 : Int) := by omega
      have hGa := grown_alloc hG (.cells #[.int .i64 (U0 : Int), .int .i64 (L0 : Int), .int .i64 xn] 57)
      clear q1 q2 q3
      go_wp2_with fail
      refine (join_any _ _ _ _ P (((lines s).take k).map ku) ⟨(U0 : Int), (L0 : Int), 0⟩ U0 L0 _ (Int.toNat_natCast _) (Int.toNat_natCast _) (by omega) (by omega) (by omega) HP.out (hP.alloc _)).mono ?_
      rintro e w5 ⟨Q, rfl, hQ, hown5, hG5⟩
      have HQ : Hid (Forest n Q (joinF (((lines s).take (k + 1)).map ku))) := by
        rw [HT.out, HX.out]; exact hQ
      have HO := Lib.hid (And.intro hown5 (hGa.trans hG5))
      clear hQ hG5 hP hGa hG hown5 p1 p2 p3
      go_wp2
      go_roundw
      case rel => exact ⟨k + 1, Q, by omega, by go_num, HQ.out, HO.out.1, HO.out.2⟩
      case measure => simp [intOf]; omega
    · obtain rfl : k = n3 := by omega
      have HF : Hid (Forest n P (joinF ((lines s).map ku))) := by
        have := HP.out; rw [List.take_of_length_le (by rw [HLL.out]; exact Nat.le_refl _)] at this; exact this
      have HJ : Hid (∀ i, i < n → (decide (joinF ((lines s).map ku) i = 0)) = gB (reachL s) i) := fun i hi => by
        rw [reachL_at HV.out (by rw [HL.out]; exact hi)]
        unfold reach
        rw [joinF_ku, join0]
      have HJ0 : Hid (joinF ((lines s).map ku) 0 = 0) := join0 _
      have hBo : Below w1.heap.size w1 wr := hB3.trans (below_of_grown hG (Nat.le_refl _) (by omega))
      obtain ⟨wo, rfl⟩ : ∃ wo : World, wo = wr := ⟨_, rfl⟩
      generalize joinF ((lines s).map ku) = J at HF HJ HJ0
      clear HP hG hL3 hL3r hB3 HLI
      have hso := hBo.size
      go_wp2_with (at_make; refine wpList_make_full _ rfl _ _ 43 rfl wo.heap.size 4 i0 (.bool false) 1 Try.underlying43 hi hz0 hz1 _ _ _ _ n rfl rfl (by omega) (by omega) (by rw [hz2]; omega) (by unfold maxLen; omega) (Nat.le_refl _) ?_; intro w4 hown4 hg4)
      rw [made_boolsR] at hown4
      have hb4 : Below wo.heap.size wo w4 := (Below.refl _ _).grown hg4 (Nat.le_refl _) (by simp)
      have hP4 := own_below hP hb4
      have hne : w1.heap.size < wo.heap.size := (hP.lt _ rfl).2
      have hB4 := hBo.trans (hb4.mono hso)
      clear hg4 hb4 hP
      go_loopw [33] (fun i wr => ∃ (k : Nat) (Q : List Int) (bs : List Bool), k ≤ n ∧ i = .int .i64 k ∧ Hid (Forest n Q J) ∧ wr.ownsRow w1.heap.size 3 1 (.slice (some ⟨w1.heap.size, 0, none⟩) n n) n (Q.map (Value.int .i64)) ∧ wr.ownsRow wo.heap.size 4 1 (.slice (some ⟨wo.heap.size, 0, none⟩) n n) n (bs.map Value.bool) ∧ Hid (∀ i, i < k → gB bs i = gB (reachL s) i) ∧ Below w1.heap.size w1 wr) (fun i _ => n - (intOf i).toNat)
      case atStart => exact ⟨0, P, _, Nat.zero_le _, rfl, HF.out, hP4, hown4, (fun i hi => by omega), hB4⟩
      case round =>
        obtain ⟨j, Q, bs, hj, rfl, HQ, hQ, hO, HB, hbb⟩ := hrel
        clear hP4 hown4 hB4
        have hbl : bs.length = n := by have := hO.1; simpa using this
        by_cases hltj : j < n
        · have HJj := Lib.hid (HJ.out j hltj)
          go_wp2_with fail
          refine (find_any _ _ _ _ _ J j _ hltj (by omega) HQ.out hQ).mono ?_
          rintro e w5 ⟨Q5, rfl, hF5, hQ5, hG5⟩
          have hO5 := hO.kept hG5 (.inr (by simp [Value.ownBlock]; omega))
          have hb5 := hbb.trans (below_mark hQ hbb.size hG5)
          clear hG5 hQ hO hbb
          go_wp2_with fail
          refine (find_any _ _ _ _ _ J 0 _ (by omega) (by omega) hF5 hQ5).mono ?_
          rintro e w6 ⟨Q6, rfl, hF6, hQ6, hG6⟩
          rw [HJ0.out]
          have HQ6 := Lib.hid hF6
          have hO6 := hO5.kept hG6 (.inr (by simp [Value.ownBlock]; omega))
          have hb6 := hb5.trans (below_mark hQ5 hb5.size hG6)
          clear hG6 hQ5 hO5 hb5 hF5 hF6
          obtain ⟨a, ha⟩ : ∃ a, J j = a := ⟨_, rfl⟩
          rw [ha] at HJj ⊢
          obtain ⟨V, hV⟩ : ∃ V, gB (reachL s) j = V := ⟨_, rfl⟩
          have HJV : Hid (gB (reachL s) j = V) := hV
          have hav : decide (a = 0) = V := HJj.out.trans hV
          have e1 : (a == 0) = V := by rw [← hav]; rfl
          have e2 : ((a : Int) == 0) = V := by rw [← hav, Bool.eq_iff_iff]; simp
          have e3 : ((a : Int) == ((0 : Nat) : Int)) = V := e2
          have e4 : decide ((a : Int) = 0) = V := by rw [← e2]; rfl
          have hcell := (hO6.cellAt j (by omega)).trans (boolsR_at (bs := bs) (i := j) (by omega))
          have hfr := hO6.frozenAt j
          have hst := hO6.stored j (.bool V)
          rw [← List.map_set] at hst
          have hQ7 := hQ6.kept hst.2 (.inr (by simp [Value.ownBlock]; omega))
          have hb7 := hb6.grown hst.2 hb6.size (by intro g e; injection e; omega)
          have HB2 : Hid (∀ i, i < j + 1 → gB (bs.set j V) i = gB (reachL s) i) := fun i hi => by
            rw [gB_set (by omega)]
            by_cases e : i = j
            · rw [if_pos e, e, HJV.out]
            · rw [if_neg e]; exact HB.out i (by omega)
          have HS := Lib.hid (And.intro hst.1 (And.intro hQ7 hb7))
          clear hst hQ7 hb7 hb6 hQ6 hO6 hav hV ha
          go_wp2
          go_roundw
          case rel => exact ⟨j + 1, Q6, _, by omega, by go_num, HQ6.out, HS.out.2.1, HS.out.1, HB2.out, HS.out.2.2⟩
          case measure => simp [intOf]; omega
        · obtain rfl : j = n := by omega
          have HE : Hid (bs = reachL s) := gB_ext (by rw [hbl, reachL_len HV.out, HL.out]) (fun i hi => HB.out i (by rw [hbl] at hi; exact hi))
          have HS := Lib.hid (And.intro (own_base hO (show w.heap.size ≤ wo.heap.size by omega)) (Below.step hb1 hbb))
          clear hO hbb hQ
          go_wp2
          go_ret
          exact ⟨_, _, _, rfl, by rw [← HE.out]; exact HS.out.1, HS.out.2⟩
end Go.Proofs.Ytpkfpegilhadfaa
