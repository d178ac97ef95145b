/- The walk of the law FnPeaksShift. -/
import Derived.Test.YtddchlfhjiimcaaPkHelp
import Derived.Deep.RegionHeld3
import Derived.Deep.AppendLies
set_option linter.unusedVariables false
namespace Go.Proofs.Ytddchlfhjiimcaa
open Go.RowKit Pk

section
variable {P : Program}
/-- an append onto a row of the call's own inside a drawn region, the new length and list under names of one's own -/
theorem step_app {ops : Array Oper} {o : Oper} {a : Act} {K : Act → World → Prop} {Q : Exit → Act → World → Prop} {E : Prop} (w : World) (hgd : o.guard = none) (s x : Operand) (t : TypeId)
    (ho : o.op = .call { callee := .builtin .append, args := #[s, x], argTypes := #[t, t] })
    (base : Nat) (e : TypeId) (i : TypeInfo) (z : Value) (size bytes : Nat) (ht : P.underlying t = some (.slice e)) (hi : P.info? e = some i) (hz : i.zero = some z)
    (hsize : i.size = size) (hby : i.bytes = bytes) (hzs : z.cells.size = size) (hsz : 0 < size)
    (v : Value) (n : Nat) (xs : List Value) (hs : a.eval s = v) (hown : w.ownsRow base e size v n xs)
    (ad : Addr) (m c : Nat) (news : List Value) (hx : a.eval x = .slice (some ad) m c) (hl : news.length = m * size) (hnews : ∀ j u, news[j]? = some u → w.cell? (ad.add j) = some u) (h1 : ∀ u ∈ news, u.oneCell' = true)
    (hm : 0 < m) (n2 : Nat) (hn2 : n + m = n2) (zs : List Value) (hzz : xs ++ news = zs) (h63 : n2 ≤ maxLen) (hbytes : n2 * bytes ≤ 140737488355328) (hbase : base ≤ w.heap.size) (H : Nat) (hH : w.heap.size = H)
    (h : ∀ g cap w', w'.ownsRow base e size (.slice (some ⟨g, 0, none⟩) n2 cap) n2 zs → w.grownBy w' v.ownBlock → (v.ownBlock = some g ∨ g = H) → g < w'.heap.size → K (a.put o.dst (.slice (some ⟨g, 0, none⟩) n2 cap)) w') :
    if Region.wanted o (yielded ops a.tmps) = true then Oper.wp P o a w K Q else E := by
  subst hn2 hzz
  exact step_append_lies w hgd s x t ho base e i z size bytes ht hi hz hsize hby hzs hsz v n xs hs hown ad m c news hx hl hnews h1 hm h63 hbytes hbase H hH h
end
set_option maxRecDepth 100000 in
set_option maxHeartbeats 4000000 in
theorem fnPeaksShift_walk (A : Option Addr) (n c : Nat) (bs : List Int) (w : World) (h : BSl w w.heap.size A n c bs) :
    Calls Try.prog 3 #[.slice A n c] w fun e w' => e = .returned (.bool true) ∧ Below w.heap.size w w' := by
  by_cases hbig : 1048576 < n
  · go_enter Try.func3, Try.ntmps3
    go_wp2
    go_ret
    exact ⟨rfl, Below.refl _ _⟩
  have hn : n ≤ 16777216 := by omega
  go_enter Try.func3, Try.ntmps3
  go_wp2_with fail
  refine (DrawPeaksOf_any _ _ _ _ _ h hn).mono ?_
  rintro e w1 ⟨C, m, cc, zs, least, rfl, hD, hl, hb1⟩
  have hm := hD.few
  have i1 := ISl.of_own hD.own hD.inI
  have HZ := Lib.hid i1.len
  have hs1 := hb1.size
  obtain ⟨ps, hps⟩ : ∃ ps, peaksOf zs least = ps := ⟨_, rfl⟩
  have hpl : ps.length ≤ 200 := by rw [← hps]; exact peaksOf_len
  have hpi : Hid (∀ z ∈ ps, InI z) := by
    show ∀ z ∈ ps, InI z
    rw [← hps]; exact peaksOf_in
  have HP := Lib.hid hps
  clear hps
  go_wp2_with fail
  refine (iPeaksOf_of _ _ _ _ _ _ ps HP.out i1 (by omega)).mono ?_
  rintro e w2 ⟨P, pc, rfl, o2, hb2⟩
  have hs2 := hb2.size
  have hT2 := Below.step hb1 hb2
  have i2 := (i1.below hb2).more hs2
  go_wp2_with fail
  refine (sPeaksOf_of _ _ _ _ _ _ ps HP.out i2 (by omega)).mono ?_
  rintro e w3 ⟨Q, qc, rfl, o3, hb3⟩
  have hs3 := hb3.size
  have hT3 := Below.step hT2 hb3
  have i3 := (i2.below hb3).more hs3
  have p3 := own_below o2 hb3
  go_wp2_with fail
  refine (sameInts_same _ _ _ _ _ _ _ _ (ISl.of_own p3 hpi.out) (ISl.of_own o3 hpi.out) (by omega)).mono ?_
  rintro e w4 ⟨rfl, hb4⟩
  have hs4 := hb4.size
  have hT4 := Below.step hT3 hb4
  have i4 := (i3.below hb4).more hs4
  have p4 := own_below p3 hb4
  have q4 := own_below o3 hb4
  clear i2 i3 p3
  by_cases hz : ps.length = 0
  · have hz' : ((ps.length : Int) == 0) = true := by simpa using hz
    have HZ0 := Lib.hid hz
    clear hz
    go_wp2_with fail
    refine (sameInts_same _ _ _ _ _ _ _ _ (ISl.of_own p4 hpi.out) (ISl.of_own q4 hpi.out) (by omega)).mono ?_
    rintro e w5 ⟨rfl, hb5⟩
    go_wp2
    go_ret
    exact ⟨rfl, Below.step hT4 hb5⟩
  have hz' : ((ps.length : Int) == 0) = false := by simpa using hz
  have hz0 : 0 < ps.length := by omega
  obtain ⟨hok, hpk1, hpk2⟩ := peaks_parts HP.out hz0
  have HK1 := Lib.hid hpk1
  have HK2 := Lib.hid hpk2
  clear hz hpk1 hpk2
  have hzl : zs.length = m := HZ.out
  have hmp : 0 < m := by
    rcases Nat.eq_zero_or_pos m with h0 | h0
    · rw [HK1.out, hzl, h0] at hz0; simp [pks] at hz0
    · exact h0
  by_cases hm2 : m = 200
  · have hm2' : ((m : Int) == 200) = true := by simp; omega
    have hpm : (ps.length : Int) < (m : Int) := by
      have := peaks_many zs least
      rw [← HK1.out, hzl] at this; omega
    clear hm2 hzl
    go_wp2
    go_ret
    exact ⟨rfl, hT4⟩
  have hm2' : ((m : Int) == 200) = false := by simp; omega
  have hm199 : m ≤ 199 := by have := cOk_len hok; omega
  obtain ⟨L, hL⟩ : ∃ L, gI zs (m - 1) = L := ⟨_, rfl⟩
  have hLI : InI L := by rw [← hL]; exact i4.inAt _
  have hok2 : cOk (zs ++ [L]) = true := by
    refine cOk_mk (by simp; omega) fun i hi => ?_
    by_cases c : i < zs.length
    · rw [g_snoc_lt c]; exact cOk_at hok i
    · have e : i = zs.length := by simp at hi; omega
      rw [e, g_snoc_at, ← hL]; exact cOk_at hok _
  have HP2 : Hid (peaksOf (zs ++ [L]) least = ps) := by
    show peaksOf (zs ++ [L]) least = ps
    rw [HK2.out]; unfold peaksOf
    rw [if_pos hok2, List.length_append, List.length_singleton]
    have := peaks_shift (cs := zs) (l := least) (by omega)
    rw [hzl, hL] at this
    rw [hzl, this]
  have HIN2 : Hid (∀ z ∈ zs ++ [L], InI z) := by
    intro z hz
    rcases List.mem_append.1 hz with hz | hz
    · exact hD.inI z hz
    · have : z = L := by simpa using hz
      rw [this]; exact hLI
  obtain ⟨b, off, he, hbl, hcc⟩ := i4.mem hmp
  subst he
  have hcl := hcc (m - 1) (by omega)
  rw [hL] at hcl
  obtain ⟨i0, hi, y0, y1, y2⟩ := info_parts int_info
  have hbA : Below w4.heap.size w4 (w4.alloc (.cells #[] 3)) := (Below.refl _ _).alloc (Nat.le_refl _) _
  have HBa : Hid (Below w4.heap.size w4 (w4.alloc (.cells #[] 3)).drew) := ⟨hbA.os, hbA.tape, hbA.output, hbA.size, hbA.block⟩
  have hbB : Below w4.heap.size w4 ((w4.alloc (.cells #[] 3)).alloc (.cells #[.int .i64 L] 3)) := ((Below.refl _ _).alloc (Nat.le_refl _) _).alloc (by simp) _
  have HBb : Hid (Below w4.heap.size w4 ((w4.alloc (.cells #[] 3)).alloc (.cells #[.int .i64 L] 3)).drew) := ⟨hbB.os, hbB.tape, hbB.output, hbB.size, hbB.block⟩
  have hbC : Below w4.heap.size w4 ((w4.alloc (.cells #[.int .i64 L] 3)).alloc (.cells #[] 3)) := ((Below.refl _ _).alloc (Nat.le_refl _) _).alloc (by simp) _
  have HBc : Hid (Below w4.heap.size w4 ((w4.alloc (.cells #[.int .i64 L] 3)).alloc (.cells #[] 3)).drew) := ⟨hbC.os, hbC.tape, hbC.output, hbC.size, hbC.block⟩
  have HZC : Hid (∀ X : World, Below w4.heap.size w4 X → ∀ (j : Nat) (u : Value), (zs.map (Value.int .i64))[j]? = some u → X.cell? ((⟨b, off, none⟩ : Addr).add j) = some u) := by
    intro X hX j u hu
    have hj : j < zs.length := by
      rcases Nat.lt_or_ge j zs.length with c | c
      · exact c
      · rw [List.getElem?_eq_none (by simpa using c)] at hu; cases hu
    rw [getElem?_map_some hj] at hu
    have ea : (⟨b, off, none⟩ : Addr).add j = ⟨b, off + j, none⟩ := by unfold Addr.add; split <;> simp_all
    rw [ea, ← hu]
    exact (bcell hX _ _ hbl).trans (hcc j (by omega))
  have HO1 : Hid ((w4.alloc (.cells #[] 3)).drew.ownsRow w4.heap.size 3 1 (.slice (some ⟨w4.heap.size, 0, none⟩) 0 0) 0 []) := own_drew (own_lit0 w4 3)
  have HO2 : Hid (((w4.alloc (.cells #[] 3)).alloc (.cells #[.int .i64 L] 3)).drew.ownsRow w4.heap.size 3 1 (.slice (some ⟨w4.heap.size, 0, none⟩) 0 0) 0 []) := own_drew ((own_lit0 w4 3).alloc _)
  have HO3 : Hid (((w4.alloc (.cells #[.int .i64 L] 3)).alloc (.cells #[] 3)).drew.ownsRow w4.heap.size 3 1 (.slice (some ⟨w4.heap.size + 1, 0, none⟩) 0 0) 0 []) := by
    have := own_lit0 (w4.alloc (.cells #[.int .i64 L] 3)) 3
    rw [World.size_alloc] at this
    exact own_drew (own_base this (by omega))
  have HK2 : Hid (((w4.alloc (.cells #[] 3)).alloc (.cells #[.int .i64 L] 3)).drew.heap[w4.heap.size + 1]? = some (.cells #[.int .i64 L] 3 (0, 0))) := by
    have := heap_alloc_new (w4.alloc (.cells #[] 3)) (.cells #[.int .i64 L] 3)
    rw [World.size_alloc] at this; exact this
  have HK3 : Hid (((w4.alloc (.cells #[.int .i64 L] 3)).alloc (.cells #[] 3)).drew.heap[w4.heap.size]? = some (.cells #[.int .i64 L] 3 (0, 0))) := by
    have := heap_alloc_new w4 (.cells #[.int .i64 L] 3)
    exact (Below.heap_alloc _ _ _ (by simp)).trans this
  have HZL : Hid ((zs.map (Value.int .i64)).length = m * 1) := by show _ = _; rw [List.length_map, hzl, Nat.mul_one]
  have H1C : Hid (∀ u ∈ zs.map (Value.int .i64), u.oneCell' = true) := ints_oneCell _ _
  have hlast : (m : Int) - 1 < (m : Int) := by omega
  have hl1 : IntKind.i64.wrap ((m : Int) - 1) = (m : Int) - 1 := IntWalk.i64_in _ (by omega)
  have hl2 : ((m : Int) - 1).toNat = m - 1 := by omega
  have hl3 : (0 : Int) ≤ (m : Int) - 1 := by omega
  have hl4 : (1 : Int) ≤ (m : Int) := by omega
  have HP4 := Lib.hid p4
  clear hm2 hL hok2 hcc hzl hbA hbB hbC q4 hok
  go_wp2
  go_region_held3 (fun w' => w'.cell? ⟨b, off + (m - 1), none⟩ = some (.int .i64 L))
    (first
      | go_keep
      | exact (bcell HWa.out _ _ hbl).trans hcl
      | exact (bcell HWb.out _ _ hbl).trans hcl
      | exact (bcell HWc.out _ _ hbl).trans hcl
      | exact (bcell HWd.out _ _ hbl).trans hcl)
    (first
      | ((refine step_app _ (by rfl) _ _ _ (by rfl) w4.heap.size 3 i0 _ 1 8 Try.underlying23 hi y0 y1 y2 rfl (by omega) (.slice (some ⟨w4.heap.size, 0, none⟩) 0 0) 0 [] (by rfl) HO1.out ⟨b, off, none⟩ m cc (zs.map (Value.int .i64)) (by rfl) HZL.out (HZC.out _ HBa.out) H1C.out (by omega) m (by omega) (zs.map (Value.int .i64)) (by rfl) (by unfold maxLen; omega) (by omega) (HBa.out.size) _ rfl ?_); intro g1 cap1 wa hwa hgr1 hat1 hlt1; have HWa := Lib.hid (HBa.out.grown hgr1 (HBa.out.size) (fun q e => (HO1.out.lt q e).1)); have HOa := Lib.hid hwa; clear hat1 hgr1 hwa)
      | ((refine step_app _ (by rfl) _ _ _ (by rfl) w4.heap.size 3 i0 _ 1 8 Try.underlying23 hi y0 y1 y2 rfl (by omega) (.slice (some ⟨w4.heap.size, 0, none⟩) 0 0) 0 [] (by rfl) HO2.out ⟨b, off, none⟩ m cc (zs.map (Value.int .i64)) (by rfl) HZL.out (HZC.out _ HBb.out) H1C.out (by omega) m (by omega) (zs.map (Value.int .i64)) (by rfl) (by unfold maxLen; omega) (by omega) (HBb.out.size) _ rfl ?_); intro g1 cap1 wa hwa hgr1 hat1 hlt1; have HWa := Lib.hid (HBb.out.grown hgr1 (HBb.out.size) (fun q e => (HO2.out.lt q e).1)); have HOa := Lib.hid hwa; have HKb := Lib.hid ((hgr1.block (w4.heap.size + 1) (by simp) (by simp [Value.ownBlock])).trans HK2.out); clear hat1 hgr1 hwa)
      | ((refine step_app _ (by rfl) _ _ _ (by rfl) w4.heap.size 3 i0 _ 1 8 Try.underlying23 hi y0 y1 y2 rfl (by omega) (.slice (some ⟨w4.heap.size + 1, 0, none⟩) 0 0) 0 [] (by rfl) HO3.out ⟨b, off, none⟩ m cc (zs.map (Value.int .i64)) (by rfl) HZL.out (HZC.out _ HBc.out) H1C.out (by omega) m (by omega) (zs.map (Value.int .i64)) (by rfl) (by unfold maxLen; omega) (by omega) (HBc.out.size) _ rfl ?_); intro g1 cap1 wa hwa hgr1 hat1 hlt1; have HWa := Lib.hid (HBc.out.grown hgr1 (HBc.out.size) (fun q e => (HO3.out.lt q e).1)); have HOa := Lib.hid hwa; have HKc := Lib.hid ((hgr1.block w4.heap.size (by simp; omega) (by simp [Value.ownBlock])).trans HK3.out); clear hat1 hgr1 hwa)
      | ((refine step_app _ (by rfl) _ _ _ (by rfl) w4.heap.size 3 i0 _ 1 8 Try.underlying23 hi y0 y1 y2 rfl (by omega) (.slice (some ⟨g1, 0, none⟩) m cap1) m (zs.map (Value.int .i64)) (by rfl) (HOa.out.alloc _) ⟨wa.heap.size, 0, none⟩ 1 1 [.int .i64 L] (by rfl) (by rfl) (cell_one_new _ _ _) (by simp [Value.oneCell']) (by omega) (m + 1) (by omega) ((zs ++ [L]).map (Value.int .i64)) (ints_snoc _ _) (by unfold maxLen; omega) (by omega) (Nat.le_trans HWa.out.size (by simp)) _ rfl ?_); intro g2 cap2 wb hwb hgr2 hat2 hlt2; have HWb := Lib.hid ((HWa.out.alloc HWa.out.size _).grown hgr2 (Nat.le_trans HWa.out.size (by simp)) (fun q e => (HOa.out.lt q e).1)); have HOb := Lib.hid hwb; clear hat2 hgr2 hwb)
      | ((refine step_app _ (by rfl) _ _ _ (by rfl) w4.heap.size 3 i0 _ 1 8 Try.underlying23 hi y0 y1 y2 rfl (by omega) (.slice (some ⟨g1, 0, none⟩) m cap1) m (zs.map (Value.int .i64)) (by rfl) HOa.out ⟨w4.heap.size + 1, 0, none⟩ 1 1 [.int .i64 L] (by rfl) (by rfl) (World.news_of_block HKb.out) (by simp [Value.oneCell']) (by omega) (m + 1) (by omega) ((zs ++ [L]).map (Value.int .i64)) (ints_snoc _ _) (by unfold maxLen; omega) (by omega) (HWa.out.size) _ rfl ?_); intro g2 cap2 wb hwb hgr2 hat2 hlt2; have HWb := Lib.hid (HWa.out.grown hgr2 (HWa.out.size) (fun q e => (HOa.out.lt q e).1)); have HOb := Lib.hid hwb; clear hat2 hgr2 hwb)
      | ((refine step_app _ (by rfl) _ _ _ (by rfl) w4.heap.size 3 i0 _ 1 8 Try.underlying23 hi y0 y1 y2 rfl (by omega) (.slice (some ⟨g1, 0, none⟩) m cap1) m (zs.map (Value.int .i64)) (by rfl) HOa.out ⟨w4.heap.size, 0, none⟩ 1 1 [.int .i64 L] (by rfl) (by rfl) (World.news_of_block HKc.out) (by simp [Value.oneCell']) (by omega) (m + 1) (by omega) ((zs ++ [L]).map (Value.int .i64)) (ints_snoc _ _) (by unfold maxLen; omega) (by omega) (HWa.out.size) _ rfl ?_); intro g2 cap2 wb hwb hgr2 hat2 hlt2; have HWb := Lib.hid (HWa.out.grown hgr2 (HWa.out.size) (fun q e => (HOa.out.lt q e).1)); have HOb := Lib.hid hwb; clear hat2 hgr2 hwb)
      | (go_at_call 7; (refine (iPeaksOf_of _ _ _ _ _ _ ps HP2.out (ISl.of_own HOb.out HIN2.out) (by omega)).mono ?_); rintro e wc ⟨X, xc, rfl, o6, hb6⟩; have HWc := Lib.hid (HWb.out.trans (hb6.mono HWb.out.size)); have HOc := Lib.hid o6; clear hb6 o6)
      | (go_at_call 9; (refine (sameInts_same _ _ _ _ _ _ _ _ (ISl.of_own HOc.out hpi.out) (ISl.of_own (own_below HP4.out HWc.out) hpi.out) (by omega)).mono ?_); rintro e wd ⟨rfl, hb7⟩; have HWd := Lib.hid (HWc.out.trans (hb7.mono HWc.out.size)); clear hb7))
  all_goals
    go_wp2
    go_ret
    exact ⟨rfl, hT4.trans (HWd.out.mono hT4.size)⟩
end Go.Proofs.Ytddchlfhjiimcaa
