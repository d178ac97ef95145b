/- Contracts of LinksJoined. -/
import Derived.Test.YtpkfpegilhadfaaLkForest
import Derived.Test.YtpkfpegilhadfaaLkRelS
set_option linter.unusedVariables false
namespace Go.Proofs.Ytpkfpegilhadfaa
open Go.RowKit Lk

/-- LinksJoined's result -/
def joinedR (many : Int) (ls : List Link) : List Int := if lsOk many ls = true then joinL ls many.toNat else []
theorem joinedR_yes {N : Nat} {ls : List Link} (h : lsOk (N : Int) ls = true) : joinedR N ls = joinL ls N := by unfold joinedR; rw [if_pos h, Int.toNat_natCast]
theorem joinedR_no {many : Int} {ls : List Link} (h : lsOk many ls = false) : joinedR many ls = [] := by unfold joinedR; rw [if_neg (by rw [h]; simp)]
theorem joinedR_len (many : Int) (ls : List Link) : (joinedR many ls).length ≤ 12 := by
  rcases h : lsOk many ls with _ | _
  · rw [joinedR_no h]; simp
  · have := lsOk_bd h
    obtain ⟨N, rfl⟩ := Int.eq_ofNat_of_zero_le (show 0 ≤ many by omega)
    rw [joinedR_yes h, joinL_len]; omega
theorem joinedR_in (many : Int) (ls : List Link) : ∀ z ∈ joinedR many ls, InI z := by
  intro z hz
  rcases h : lsOk many ls with _ | _
  · rw [joinedR_no h] at hz; cases hz
  · have := lsOk_bd h
    obtain ⟨N, rfl⟩ := Int.eq_ofNat_of_zero_le (show 0 ≤ many by omega)
    rw [joinedR_yes h] at hz
    unfold joinL at hz
    obtain ⟨i, hi, rfl⟩ := List.mem_map.1 hz
    have a := List.mem_range.1 hi
    have b := (joinF_is ls).le i
    unfold InI; omega

set_option maxHeartbeats 2000000 in
theorem iLinksJoined_any (many : Int) (A : Option Addr) (n c : Nat) (ls : List Link) (w : World) (h : LSl w w.heap.size A n c ls) (hn : n ≤ 16777216) :
    Calls Try.prog 27 #[.int .i64 many, .slice A n c] w fun e w' => ∃ A' m c', e = .returned (.slice A' m c') ∧ w'.ownsRow w.heap.size 3 1 (.slice A' m c') m ((joinedR many ls).map (Value.int .i64)) ∧ Below w.heap.size w w' := by
  have HL := Lib.hid h.len
  rcases hok : lsOk many ls with _ | _
  · have HR := Lib.hid (joinedR_no hok)
    go_enter Try.func27, Try.ntmps27
    go_wp2_with fail
    refine (linksValid_any _ _ _ _ _ _ h hn).mono ?_
    rintro e w1 ⟨rfl, hb1⟩
    go_wp2
    go_ret
    exact ⟨none, 0, 0, rfl, by rw [HR.out]; exact World.ownsRow_nil _ _ _ _, hb1⟩
  have hbd := lsOk_bd hok
  obtain ⟨N, rfl⟩ := Int.eq_ofNat_of_zero_le (show 0 ≤ many by omega)
  have HR := Lib.hid (joinedR_yes hok)
  have HIN : Hid (∀ i, i < ls.length → (0 ≤ (gL ls i).f ∧ (gL ls i).f < (N : Int)) ∧ (0 ≤ (gL ls i).t ∧ (gL ls i).t < (N : Int))) := fun i hi => by have := lsOk_at hok hi; unfold lOk at this; omega
  have hN1 : 1 ≤ N := by omega
  have hN2 : N ≤ 12 := by omega
  obtain ⟨i0, hi, hz0, hz1, hz2⟩ := info_parts int_info
  clear hbd
  go_enter Try.func27, Try.ntmps27
  go_wp2_with fail
  refine (linksValid_any _ _ _ _ _ _ h hn).mono ?_
  rintro e w1 ⟨rfl, hb1⟩
  go_wp2_with fail
  refine (newForest_any _ _ (by omega)).mono ?_
  rintro e w2 ⟨rfl, hown2, hb2⟩
  have hgw := (hown2.lt _ rfl).2
  have h1 : LSl w1 w1.heap.size A n c ls := (h.below hb1).more hb1.size
  clear hok
  go_wp2
  go_loopw [18] (fun i wr => ∃ (k : Nat) (P : List Int), k ≤ n ∧ i = .int .i64 k ∧ Hid (Forest N P (joinF (ls.take k))) ∧ wr.ownsRow w1.heap.size 3 1 (.slice (some ⟨w1.heap.size, 0, none⟩) N N) N (P.map (Value.int .i64)) ∧ Below w1.heap.size w1 wr) (fun i _ => n - (intOf i).toNat)
  case atStart => exact ⟨0, iota 0 N, Nat.zero_le _, rfl, forest_new N, hown2, hb2⟩
  case round =>
    obtain ⟨k, P, hk, rfl, HP, hP, hb⟩ := hrel
    clear hown2
    by_cases hlt : k < n
    · obtain ⟨b, off, rfl, hbB, hkz, hc⟩ := h1.at_ hlt
      obtain ⟨q1, q2, q3⟩ := hc k hlt
      have p1 := (bcell hb _ _ hbB).trans q1
      have p2 := (bcell hb _ _ hbB).trans q2
      have p3 := (bcell hb _ _ hbB).trans q3
      have hik := HIN.out k hkz
      have HT : Hid (ls.take (k + 1) = ls.take k ++ [gL ls k]) := take_snocL hkz
      clear q1 q2 q3 hc
      generalize gL ls k = l at *
      obtain ⟨F, hF⟩ := Int.eq_ofNat_of_zero_le hik.1.1
      obtain ⟨T, hT⟩ := Int.eq_ofNat_of_zero_le hik.2.1
      have hFN : F < N := by omega
      have hTN : T < N := by omega
      have HF := Lib.hid (show l.f.toNat = F by rw [hF, Int.toNat_natCast])
      have HTT := Lib.hid (show l.t.toNat = T by rw [hT, Int.toNat_natCast])
      rw [hF] at p1
      rw [hT] at p2
      have hba := hb.alloc hb.size (.cells #[.int .i64 F, .int .i64 T, .int .i64 l.d] 51)
      clear hF hT hik
      go_wp2_with fail
      refine (join_any _ _ _ _ P (ls.take k) l F T _ HF.out HTT.out hFN hTN (by omega) HP.out (hP.alloc _)).mono ?_
      rintro e w3 ⟨Q, rfl, hQ, hown3, hG3⟩
      have hb3 := hba.trans (below_mark (hP.alloc _) (by simp; have := hb.size; omega) hG3)
      have HQ := Lib.hid hQ
      clear hQ hG3 hP hba
      go_wp2
      go_roundw
      case rel => exact ⟨k + 1, Q, by omega, by go_num, by rw [HT.out]; exact HQ.out, hown3, hb3⟩
      case measure => simp [intOf]; omega
    · have HK : Hid (ls.take k = ls) := by show _ = _; rw [List.take_of_length_le (by rw [HL.out]; omega)]
      rw [HK.out] at HP
      have HJ := Lib.hid (joinF_is ls)
      generalize hJ : joinF ls = J at HP HJ
      have HJE := Lib.hid hJ
      clear hJ HK
      obtain ⟨wo, rfl⟩ : ∃ wo : World, wo = wr := ⟨_, rfl⟩
      have hs1 := hb1.size
      have hso := hb.size
      go_wp2_with (at_make; refine wpList_make_full _ rfl _ _ 24 rfl wo.heap.size 3 i0 (.int .i64 0) 1 Try.underlying24 hi hz0 hz1 _ _ _ _ N rfl rfl (by omega) (by omega) (by rw [hz2]; omega) (by unfold maxLen; omega) (Nat.le_refl _) ?_; intro w4 hown4 hg4)
      have hown4' : w4.ownsRow wo.heap.size 3 1 (.slice (some ⟨wo.heap.size, 0, none⟩) N N) N ((part ((List.range N).map fun i => (J i : Int)) 0 N).map (Value.int .i64)) := by
        have : (madeCells (Value.int .i64 0).cells (N * 1)).toList = (part ((List.range N).map fun i => (J i : Int)) 0 N).map (Value.int .i64) := by
          rw [Nat.mul_one]
          show (madeCells #[Value.int .i64 0] N).toList = _
          rw [toList_madeCells_one]; simp [part]
        rw [← this]; exact hown4
      have hb4 : Below wo.heap.size wo w4 := (Below.refl _ _).grown hg4 (Nat.le_refl _) (by simp)
      have hP4 := own_below hP hb4
      clear hown4 hg4
      go_loopw [33] (fun i wr => ∃ (k : Nat) (Q : List Int), k ≤ N ∧ i = .int .i64 k ∧ Hid (Forest N Q J) ∧ wr.ownsRow w1.heap.size 3 1 (.slice (some ⟨w1.heap.size, 0, none⟩) N N) N (Q.map (Value.int .i64)) ∧ wr.ownsRow wo.heap.size 3 1 (.slice (some ⟨wo.heap.size, 0, none⟩) N N) N ((part ((List.range N).map fun i => (J i : Int)) k N).map (Value.int .i64)) ∧ Below w1.heap.size w1 wr) (fun i _ => N - (intOf i).toNat)
      case atStart => exact ⟨0, P, Nat.zero_le _, rfl, HP.out, hP4, hown4', hb.trans (hb4.mono hso)⟩
      case round =>
        obtain ⟨j, Q, hj, rfl, HQ, hQ, hO, hbb⟩ := hrel
        clear hP4 hown4' hb4
        by_cases hltj : j < N
        · have HRL : Hid (((List.range N).map fun i => (J i : Int)).length = N) := by show _ = _; simp
          have HRA : Hid (gI ((List.range N).map fun i => (J i : Int)) j = (J j : Int)) := by show _ = _; simp [gI, hltj]
          generalize (List.range N).map (fun i => (J i : Int)) = R at *
          have hne : w1.heap.size ≠ wo.heap.size := by have := hQ.lt _ rfl; have := (hP.lt _ rfl).2; omega
          go_wp2_with fail
          refine (find_any _ _ _ _ _ _ j _ hltj (by omega) HQ.out hQ).mono ?_
          rintro e w5 ⟨Q5, rfl, hF5, hQ5, hG5⟩
          have HQ5 := Lib.hid hF5
          have hO5 := hO.kept hG5 (.inr (by simp [Value.ownBlock]; omega))
          have hb5 := hbb.trans (below_mark hQ hbb.size hG5)
          clear hF5 hG5 hQ hO hbb
          have hm : j < (part R j N).length := by rw [part_len HRL.out hj]; exact hltj
          have hdst : w5.cell? ⟨wo.heap.size, j, none⟩ = some (.int .i64 (gI (part R j N) j)) := (hO5.cellAt j (by omega)).trans (getElem?_map_some hm)
          have hfr := hO5.frozenAt j
          have hst := hO5.stored j (.int .i64 (J j : Int))
          rw [← List.map_set, ← HRA.out, part_set HRL.out hltj, HRA.out] at hst
          have hQ6 := hQ5.kept hst.2 (.inr (by simp [Value.ownBlock]; omega))
          have hb6 := hb5.grown hst.2 hb5.size (by intro g e; injection e; omega)
          have HS := Lib.hid (And.intro hst.1 (And.intro hQ6 hb6))
          clear hst hQ6 hb6 hb5 hQ5 hO5 hm
          go_wp2
          go_roundw
          case rel => exact ⟨j + 1, Q5, by omega, by go_num, HQ5.out, HS.out.2.1, HS.out.1, HS.out.2.2⟩
          case measure => simp [intOf]; omega
        · go_wp2
          obtain rfl : j = N := by omega
          go_ret
          refine ⟨_, j, j, rfl, ?_, hb1.trans (hbb.mono hs1)⟩
          rw [part_all (by simp)] at hO
          rw [HR.out]
          unfold joinL
          rw [HJE.out]
          exact own_base hO (by omega)

theorem ints_snoc' (zs : List Int) (x : Int) : zs.map (Value.int .i64) ++ [Value.int .i64 x] = (zs ++ [x]).map (Value.int .i64) := by simp
theorem iota_snoc (k : Nat) : iota 0 k ++ [(k : Int)] = iota 0 (k + 1) := by
  unfold iota
  rw [List.range_succ, List.map_append]; simp
theorem flat_snoc {ls : List Link} {k : Nat} {z es : List Int} (hk : k < ls.length) (h : z = rel 0 ((ls.take k).map flat) es) : rel1 0 z (flat (gL ls k)) = rel 0 ((ls.take (k + 1)).map flat) es := by
  rw [take_snocL hk, List.map_append, h]
  exact (rel_snoc 0 _ _ _).symm

end Go.Proofs.Ytpkfpegilhadfaa
