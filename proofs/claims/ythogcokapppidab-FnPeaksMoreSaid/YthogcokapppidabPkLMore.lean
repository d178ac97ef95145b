/- The walk of the law FnPeaksMore. -/
import Derived.Test.YthogcokapppidabPkHelp
namespace Go.Proofs.Ythogcokapppidab
open Go.RowKit Pk

set_option maxRecDepth 100000 in
set_option maxHeartbeats 4000000 in
theorem fnPeaksMore_walk (A : Option Addr) (n c : Nat) (bs : List Int) (w : World) (h : BSl w w.heap.size A n c bs) :
    Calls Try.prog 3 #[.slice A n c] w fun e w' => e = .returned (.bool true) ∧ Below w.heap.size w w' := by
  by_cases hbig : 1048576 < n
  · go_enter Try.func3, Try.ntmps3
    go_wp2
    go_ret
    exact ⟨rfl, Below.refl _ _⟩
  have hn : n ≤ 16777216 := by omega
  go_enter Try.func3, Try.ntmps3
  go_wp2_with fail
  refine (DrawPeaksOf_any _ _ _ _ _ h hn).mono ?_
  rintro e w1 ⟨C, m, cc, zs, least, rfl, hD, hl, hb1⟩
  have hm := hD.few
  have i1 := ISl.of_own hD.own hD.inI
  have HZ := Lib.hid i1.len
  have hs1 := hb1.size
  obtain ⟨ps, hps⟩ : ∃ ps, peaksOf zs least = ps := ⟨_, rfl⟩
  have hpl : ps.length ≤ 200 := by rw [← hps]; exact peaksOf_len
  have hpi : Hid (∀ z ∈ ps, InI z) := by
    show ∀ z ∈ ps, InI z
    rw [← hps]; exact peaksOf_in
  have HP := Lib.hid hps
  clear hps
  go_wp2_with fail
  refine (iPeaksOf_of _ _ _ _ _ _ ps HP.out i1 (by omega)).mono ?_
  rintro e w2 ⟨P, pc, rfl, o2, hb2⟩
  have hs2 := hb2.size
  have hT2 := Below.step hb1 hb2
  have i2 := (i1.below hb2).more hs2
  go_wp2_with fail
  refine (sPeaksOf_of _ _ _ _ _ _ ps HP.out i2 (by omega)).mono ?_
  rintro e w3 ⟨Q, qc, rfl, o3, hb3⟩
  have hs3 := hb3.size
  have hT3 := Below.step hT2 hb3
  have i3 := (i2.below hb3).more hs3
  have p3 := own_below o2 hb3
  go_wp2_with fail
  refine (sameInts_same _ _ _ _ _ _ _ _ (ISl.of_own p3 hpi.out) (ISl.of_own o3 hpi.out) (by omega)).mono ?_
  rintro e w4 ⟨rfl, hb4⟩
  have hs4 := hb4.size
  have hT4 := Below.step hT3 hb4
  have i4 := (i3.below hb4).more hs4
  have p4 := own_below p3 hb4
  have q4 := own_below o3 hb4
  clear i2 i3 p3
  by_cases hz : ps.length = 0
  · have hz' : ((ps.length : Int) == 0) = true := by simpa using hz
    have HZ0 := Lib.hid hz
    clear hz
    go_wp2_with fail
    refine (sameInts_same _ _ _ _ _ _ _ _ (ISl.of_own p4 hpi.out) (ISl.of_own q4 hpi.out) (by omega)).mono ?_
    rintro e w5 ⟨rfl, hb5⟩
    go_wp2
    go_ret
    exact ⟨rfl, Below.step hT4 hb5⟩
  have hz' : ((ps.length : Int) == 0) = false := by simpa using hz
  have hz0 : 0 < ps.length := by omega
  obtain ⟨hok, hpk1, hpk2⟩ := peaks_parts HP.out hz0
  have HK1 := Lib.hid hpk1
  have HK2 := Lib.hid hpk2
  clear hz hpk1 hpk2
  obtain ⟨qs, hqs⟩ : ∃ qs, peaksOf zs (least - 1) = qs := ⟨_, rfl⟩
  have hql : qs.length ≤ 200 := by rw [← hqs]; exact peaksOf_len
  have hqi : Hid (∀ z ∈ qs, InI z) := by
    show ∀ z ∈ qs, InI z
    rw [← hqs]; exact peaksOf_in
  have hqe : qs = asInts (pks zs (least - 1) zs.length) := by rw [← hqs]; unfold peaksOf; rw [if_pos hok]
  have HQE := Lib.hid hqe
  have HQ := Lib.hid hqs
  obtain ⟨i0, hi, hz0i, hz1, hz2⟩ := info_parts int_info
  clear hqs hqe
  go_wp2_with fail
  refine (iPeaksOf_of _ _ _ _ _ _ qs HQ.out i4 (by omega)).mono ?_
  rintro e w5 ⟨X, xc, rfl, o5, hb5⟩
  have hs5 := hb5.size
  have hT5 := Below.step hT4 hb5
  have i5 := (i4.below hb5).more hs5
  have p5 := own_below p4 hb5
  have j5 := ISl.of_own o5 hqi.out
  go_wp2_with fail
  go_loopw [8, 9] (fun v x wr => ∃ (i : Nat) (L : List Int), i ≤ qs.length ∧ x = .int .i64 i ∧ Hid (L = (qs.take i).filter (fun z => decide (least ≤ gI zs z.toNat))) ∧ L.length ≤ i ∧ wr.ownsRow w5.heap.size 3 1 v L.length (L.map (Value.int .i64)) ∧ Below w5.heap.size w5 wr) (fun _ x _ => qs.length - (intOf x).toNat)
  case atStart => exact ⟨0, [], Nat.zero_le _, rfl, rfl, Nat.le_refl _, own_lit0 w5 _, (Below.refl _ _).alloc (Nat.le_refl _) _⟩
  case round =>
    obtain ⟨i, L, hi', rfl, HL, hLl, hown, hb⟩ := hrel
    by_cases hlt : i < qs.length
    · obtain ⟨b', off', hXe, hbB', _, hc'⟩ := j5.at_ hlt
      subst hXe
      have hpn := peak_nth (cs := zs) (l := least - 1) (i := i) (by have := HQE.out; rw [this, asInts_len] at hlt; exact hlt)
      obtain ⟨k, hke⟩ : ∃ k, nth (pks zs (least - 1) zs.length) i = k := ⟨_, rfl⟩
      rw [hke, HZ.out] at hpn
      have hkm := hpn.1
      have hx : gI qs i = (k : Int) := by rw [HQE.out, asInts_at, hke]
      have h1 := (bcell hb _ _ hbB').trans (hc' i hlt)
      rw [hx] at h1
      obtain ⟨b, off, rfl, hbB, hkz, hc⟩ := i5.at_ hkm
      have h2 := (bcell hb _ _ hbB).trans (hc k hkm)
      have HS : Hid ((qs.take (i + 1)).filter (fun z => decide (least ≤ gI zs z.toNat)) = L ++ if least ≤ gI zs k then [(k : Int)] else []) := by
        show _ = _
        rw [take_snoc hlt, List.filter_append, HL.out, hx]
        by_cases c : least ≤ gI zs k <;> simp [c]
      clear hc hc' hkz hx hke hpn
      by_cases hge : least ≤ gI zs k
      · go_wp2_with (at_builtin; refine wpList_append_own _ rfl _ _ 23 rfl w5.heap.size 3 i0 (.int .i64 0) 1 8 Try.underlying23 hi hz0i hz1 hz2 rfl (by decide) _ _ _ rfl (hown.alloc _) ⟨wr.heap.size, 0, none⟩ 1 1 [.int .i64 k] rfl rfl ?c1 ?c2 ?c3 ?c4 ?c5 ?_)
        case c1 => exact cell_one_new _ _ _
        case c2 => intro u hu; simp at hu; subst hu; rfl
        case c3 => unfold maxLen; omega
        case c4 => omega
        case c5 => have := hb.size; simp; omega
        intro v' w6 hown' hgrow _
        rw [ints_snoc, show L.length + 1 = (L ++ [(k : Int)]).length by simp] at hown'
        have hb' : Below w5.heap.size w5 w6 := ((hb.alloc hb.size _).grown hgrow (by have := hb.size; simp; omega) (fun g hg => (hown.lt g hg).1))
        have HO := Lib.hid hown'
        have HG := Lib.hid hge
        clear hown hgrow hown'
        go_wp2
        go_roundw
        case rel => exact ⟨i + 1, L ++ [(k : Int)], by omega, by go_num, by show _ = _; rw [HS.out, if_pos HG.out], by simp; omega, HO.out, hb'⟩
        case measure => simp [intOf]; omega
      · have HG := Lib.hid hge
        go_wp2
        go_roundw
        case rel => exact ⟨i + 1, L, by omega, by go_num, by show _ = _; rw [HS.out, if_neg HG.out, List.append_nil], by omega, hown, hb⟩
        case measure => simp [intOf]; omega
    · have e : L = ps := by
        rw [HL.out, List.take_of_length_le (by omega), HQE.out, HK2.out, ← peaks_more zs least zs.length]
        unfold asInts
        rw [List.filter_map]
        simp [Function.comp_def]
      have hs6 := hb.size
      have hT6 := Below.step hT5 hb
      have p6 := own_below p5 hb
      rw [e] at hown
      obtain ⟨V, vc, rfl⟩ := own_form hown
      have HO := Lib.hid hown
      clear hown e HL hLl
      go_wp2_with fail
      refine (sameInts_same _ _ _ _ _ _ _ _ (ISl.of_own HO.out hpi.out) (ISl.of_own p6 hpi.out) (by omega)).mono ?_
      rintro e w7 ⟨rfl, hb7⟩
      go_wp2
      go_ret
      exact ⟨rfl, Below.step hT6 hb7⟩
end Go.Proofs.Ythogcokapppidab
