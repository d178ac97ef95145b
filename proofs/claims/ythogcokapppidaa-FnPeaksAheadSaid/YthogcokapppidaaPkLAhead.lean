/- The walk of the law FnPeaksAhead. -/
import Derived.Test.YthogcokapppidaaPkHelp
namespace Go.Proofs.Ythogcokapppidaa
open Go.RowKit Pk

set_option maxRecDepth 100000 in
set_option maxHeartbeats 4000000 in
theorem fnPeaksAhead_walk (A : Option Addr) (n c : Nat) (bs : List Int) (w : World) (h : BSl w w.heap.size A n c bs) :
    Calls Try.prog 10 #[.slice A n c] w fun e w' => e = .returned (.bool true) ∧ Below w.heap.size w w' := by
  by_cases hbig : 1048576 < n
  · go_enter Try.func10, Try.ntmps10
    go_wp2
    go_ret
    exact ⟨rfl, Below.refl _ _⟩
  have hn : n ≤ 16777216 := by omega
  go_enter Try.func10, Try.ntmps10
  go_wp2_with fail
  refine (DrawPeaksOf_any _ _ _ _ _ h hn).mono ?_
  rintro e w1 ⟨C, m, cc, zs, least, rfl, hD, hl, hb1⟩
  have hm := hD.few
  have i1 := ISl.of_own hD.own hD.inI
  have HZ := Lib.hid i1.len
  have hs1 := hb1.size
  obtain ⟨ps, hps⟩ : ∃ ps, peaksOf zs least = ps := ⟨_, rfl⟩
  have hpl : ps.length ≤ 200 := by rw [← hps]; exact peaksOf_len
  have hpi : Hid (∀ z ∈ ps, InI z) := by
    show ∀ z ∈ ps, InI z
    rw [← hps]; exact peaksOf_in
  have HP := Lib.hid hps
  clear hps
  go_wp2_with fail
  refine (iPeaksOf_of _ _ _ _ _ _ ps HP.out i1 (by omega)).mono ?_
  rintro e w2 ⟨P, pc, rfl, o2, hb2⟩
  have hs2 := hb2.size
  have hT2 := Below.step hb1 hb2
  have i2 := (i1.below hb2).more hs2
  go_wp2_with fail
  refine (sPeaksOf_of _ _ _ _ _ _ ps HP.out i2 (by omega)).mono ?_
  rintro e w3 ⟨Q, qc, rfl, o3, hb3⟩
  have hs3 := hb3.size
  have hT3 := Below.step hT2 hb3
  have i3 := (i2.below hb3).more hs3
  have p3 := own_below o2 hb3
  go_wp2_with fail
  refine (sameInts_same _ _ _ _ _ _ _ _ (ISl.of_own p3 hpi.out) (ISl.of_own o3 hpi.out) (by omega)).mono ?_
  rintro e w4 ⟨rfl, hb4⟩
  have hs4 := hb4.size
  have hT4 := Below.step hT3 hb4
  have i4 := (i3.below hb4).more hs4
  have p4 := own_below p3 hb4
  have q4 := own_below o3 hb4
  clear i2 i3 p3
  by_cases hz : ps.length = 0
  · have hz' : ((ps.length : Int) == 0) = true := by simpa using hz
    have HZ0 := Lib.hid hz
    clear hz
    go_wp2_with fail
    refine (sameInts_same _ _ _ _ _ _ _ _ (ISl.of_own p4 hpi.out) (ISl.of_own q4 hpi.out) (by omega)).mono ?_
    rintro e w5 ⟨rfl, hb5⟩
    go_wp2
    go_ret
    exact ⟨rfl, Below.step hT4 hb5⟩
  have hz' : ((ps.length : Int) == 0) = false := by simpa using hz
  have hz0 : 0 < ps.length := by omega
  obtain ⟨hok, hpk1, hpk2⟩ := peaks_parts HP.out hz0
  have HK1 := Lib.hid hpk1
  have HK2 := Lib.hid hpk2
  clear hz hpk1 hpk2
  have hm0 : 0 < m := by
    rcases Nat.eq_zero_or_pos m with h0 | h0
    · have := HK1.out; rw [HZ.out, h0] at this; have e := pks_len zs least 0; omega
    · exact h0
  have hmc : ((m : Int) == 200) = false := by simp; omega
  by_cases hle : least < 1
  · go_wp2
    go_ret
    exact ⟨rfl, hT4⟩
  have HE : Hid (peaksOf (0 :: zs) least = ps.map (· + 1)) := by
    show peaksOf (0 :: zs) least = ps.map (· + 1)
    have hok' : cOk (0 :: zs) = true := by
      refine cOk_mk (by have := HZ.out; simp; omega) fun i _ => ?_
      rcases i with _ | i
      · rw [gI_cons_zero]; omega
      · rw [gI_cons_succ]; exact cOk_at hok i
    unfold peaksOf
    rw [if_pos hok', List.length_cons, peaks_ahead (by omega), HK2.out]
    unfold asInts
    simp [Function.comp_def]
  obtain ⟨ps', hps'⟩ : ∃ l, ps.map (· + 1) = l := ⟨_, rfl⟩
  have hpl' : ps'.length = ps.length := by rw [← hps']; simp
  have HAT : Hid (∀ i, i < ps.length → gI ps' i = gI ps i + 1) := by
    intro i hi
    rw [← hps']; unfold gI; rw [List.getElem?_map]; simp [hi]
  have HL := Lib.hid hpl'
  rw [hps'] at HE
  have hpi' : Hid (∀ z ∈ ps', InI z) := by
    show ∀ z ∈ ps', InI z
    rw [← HE.out]; exact peaksOf_in
  clear hps' hpl'
  obtain ⟨i0, hi, hz0', hz1, hz2⟩ := info_parts int_info
  have o4' : w4.ownsRow w.heap.size 3 1 (.slice C m cc) m (zs.map (Value.int .i64)) := own_below (own_below (own_below hD.own hb2) hb3) hb4
  obtain ⟨gg, hCe, hg1, hg2⟩ := own_at o4' hm0
  subst hCe
  have HC0 := Lib.hid (o4'.cells (g := gg) rfl)
  have hlit := World.ownsRow_lit (e := 3) (size := 1) w4 #[.int .i64 0] 1 (Nat.le_refl _) (by unfold maxLen; omega) rfl
  have HLEN := Lib.hid (show (zs.map (Value.int .i64)).length = m * 1 by rw [List.length_map, HZ.out, Nat.mul_one])
  go_wp2_with (at_builtin; refine wpList_append_own _ rfl _ _ 22 rfl w4.heap.size 3 i0 (.int .i64 0) 1 8 Try.underlying22 hi hz0' hz1 hz2 rfl (by decide) _ _ _ rfl hlit ⟨gg, 0, none⟩ m cc (zs.map (Value.int .i64)) rfl HLEN.out ?c1 ?c2 ?c3 ?c4 ?c5 ?_)
  case c1 =>
    intro j u hj
    have := HC0.out j u hj
    rw [← this]
    exact World.cell?_alloc_lt w4 _ _ (by unfold Addr.add; split <;> exact hg2)
  case c2 => intro u hu; simp at hu; obtain ⟨z, _, rfl⟩ := hu; rfl
  case c3 => unfold maxLen; omega
  case c4 => omega
  case c5 => simp
  intro v5 w5 hown5 hgrow5 _
  have hlist : ([Value.int .i64 0] ++ zs.map (Value.int .i64)) = (0 :: zs).map (Value.int .i64) := rfl
  have hown6 : w5.ownsRow w4.heap.size 3 1 v5 (1 + m) ((0 :: zs).map (Value.int .i64)) := hown5
  have hb5 : Below w4.heap.size w4 w5 := ((Below.refl _ _).alloc (Nat.le_refl _) _).grown hgrow5 (by simp) (fun k hk => (hlit.lt k hk).1)
  obtain ⟨V, vc, rfl⟩ := own_form hown6
  have hs5 := hb5.size
  have hT5 := Below.step hT4 hb5
  have p5 := own_below p4 hb5
  have j5 := ISl.of_own hown6 (by
    intro z hz
    rcases List.mem_cons.1 hz with rfl | hz
    · unfold InI; omega
    · exact hD.inI z hz)
  have hcc : 1 + m ≤ 200 := by omega
  clear hown5 hgrow5 hlist hlit o4' hown6
  go_wp2_with fail
  refine (iPeaksOf_of _ _ _ _ _ _ ps' HE.out j5 (by omega)).mono ?_
  rintro e w6 ⟨X, xc, rfl, o6, hb6⟩
  have hs6 := hb6.size
  have hT6 := Below.step hT5 hb6
  have p6 := own_below p5 hb6
  obtain ⟨b', off', hPe, hbB', _, hc'⟩ := (ISl.of_own p6 hpi.out).at_ hz0
  subst hPe
  obtain ⟨b, off, hXe, hbB, hkz, hc⟩ := (ISl.of_own o6 hpi'.out).at_ (show 0 < ps'.length by rw [HL.out]; exact hz0)
  subst hXe
  have hne : ((ps'.length : Int) != (ps.length : Int)) = false := by rw [HL.out]; simp
  have HC := Lib.hid hc
  have HC' := Lib.hid hc'
  clear hc hc' hkz
  go_wp2_with fail
  go_loopw [8] (fun x wr => ∃ i : Nat, i ≤ ps.length ∧ x = .int .i64 i ∧ Below w6.heap.size w6 wr) (fun x _ => ps.length - (intOf x).toNat)
  case atStart => exact ⟨0, Nat.zero_le _, rfl, Below.refl _ _⟩
  case round =>
    obtain ⟨i, hi, rfl, hb⟩ := hrel
    by_cases hlt : i < ps.length
    · have hltI : (i : Int) < (ps.length : Int) := by omega
      have hltJ : (i : Int) < (ps'.length : Int) := by rw [HL.out]; omega
      have h1 := (bcell hb _ _ hbB).trans (HC.out i (by rw [HL.out]; exact hlt))
      have h2 := (bcell hb _ _ hbB').trans (HC'.out i hlt)
      have hin : InI (gI ps i) ∧ InI (gI ps' i) := ⟨hpi.out _ (gI_mem hlt), hpi'.out _ (gI_mem (by rw [HL.out]; exact hlt))⟩
      have hat := HAT.out i hlt
      have v1 : IntKind.i64.wrap (gI ps i + 1) = gI ps i + 1 := IntWalk.i64_in _ (by unfold InI at hin; omega)
      have v2 : (gI ps' i != gI ps i + 1) = false := by rw [hat]; simp
      clear hat hin
      go_wp2
      go_quiet (fail)
      clear v1
      go_wp2
      go_roundw
      case rel => exact ⟨i + 1, by omega, by go_num, below_drewN hb _⟩
      case measure => simp [intOf]; omega
    · go_wp2
      go_ret
      exact ⟨rfl, Below.step hT6 hb⟩
end Go.Proofs.Ythogcokapppidaa
