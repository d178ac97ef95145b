/- The walk of the law FnBlendMeanTwice. -/
import Derived.Test.YtpfbjpognmjmmaaBlHelp
namespace Go.Proofs.Ytpfbjpognmjmmaa
open Go.RowKit Bl

theorem tot_append (xs ys : List Int) (k : Nat) : tot (xs ++ ys) (xs.length + k) = tot xs xs.length + tot ys k := by
  induction k with
  | zero =>
    have : ∀ j, j ≤ xs.length → tot (xs ++ ys) j = tot xs j := by
      intro j hj
      induction j with
      | zero => rfl
      | succ j ih => unfold tot; rw [ih (by omega), gI_append_lt (by omega)]
    simp [tot, this xs.length (Nat.le_refl _)]
  | succ k ih =>
    show tot (xs ++ ys) (xs.length + k + 1) = _
    unfold tot
    rw [ih, gI_append_ge (by omega), show xs.length + k - xs.length = k by omega]
    cases hx : xs.length with
    | zero => simp [tot]
    | succ n => simp [tot]; omega
theorem ratOf_twice (u v : Nat) : ratOf (2 * u) (2 * v) = ratOf u v := by
  unfold ratOf
  rw [Nat.gcd_mul_left, Nat.mul_div_mul_left _ _ (by omega), Nat.mul_div_mul_left _ _ (by omega)]
  by_cases h : v = 0
  · simp [h]
  · rw [if_neg h, if_neg (by omega)]
theorem meanIs_twice {zs : List Int} {x y : Int} (h : MeanIs zs x y true) (hl : 2 * zs.length ≤ 40) : MeanIs (zs ++ zs) x y true := by
  rcases h with ⟨ho, a, d, hx, hy, hb, hr⟩ | ⟨_, _, _, hb⟩
  · refine .inl ⟨?_, a, d, hx, hy, hb, ?_⟩
    · unfold meanOk at ho ⊢; simp at ho ⊢
      refine ⟨⟨by have := ho.1.1; omega, by omega⟩, fun i hi => ?_⟩
      by_cases c : i < zs.length
      · rw [gI_append_lt c]; exact ho.2 i c
      · rw [gI_append_ge (by omega)]; exact ho.2 _ (by omega)
    · unfold meanOk at ho; simp at ho
      have ht := tot_bd ho.2
      have e : tot (zs ++ zs) (zs ++ zs).length = tot zs zs.length + tot zs zs.length := by
        rw [List.length_append]; exact tot_append zs zs zs.length
      rw [e, List.length_append, show (tot zs zs.length + tot zs zs.length).toNat = 2 * (tot zs zs.length).toNat by omega, show zs.length + zs.length = 2 * zs.length by omega, ratOf_twice]
      exact hr
  · cases hb

set_option maxRecDepth 100000 in
set_option maxHeartbeats 4000000 in
theorem fnBlendMeanTwice_walk (A : Option Addr) (n c : Nat) (bs : List Int) (w : World) (h : BSl w w.heap.size A n c bs) :
    Calls Try.prog 7 #[.slice A n c] w fun e w' => e = .returned (.bool true) ∧ Below w.heap.size w w' := by
  by_cases hbig : 1048576 < n
  · go_enter Try.func7, Try.ntmps7
    go_wp2
    go_ret
    exact ⟨rfl, Below.refl _ _⟩
  have hn : n ≤ 16777216 := by omega
  go_enter Try.func7, Try.ntmps7
  go_wp2_with fail
  refine (DrawBlendMean_any _ _ _ _ _ h hn).mono ?_
  rintro e w1 ⟨C, m, cc, zs, rfl, hD, hb1⟩
  have hm := hD.few
  have i1 := ISl.of_own hD.own hD.ini
  have HZ := Lib.hid i1.len
  have hs1 := hb1.size
  obtain ⟨x, y, b, hme⟩ := meanIs_ex zs
  go_wp2_with fail
  refine (iBlendMean_is _ _ _ _ x y b _ hme i1 (by omega)).mono ?_
  rintro e w2 ⟨rfl, hb2⟩
  have hT2 := Below.step hb1 hb2
  have hsz2 := hb2.size
  obtain ⟨O1, hO1⟩ : ∃ O, Obj.cells #[Value.int .i64 x, Value.int .i64 y] 33 = O := ⟨_, rfl⟩
  have ha2 := (Below.refl w2.heap.size w2).alloc (Nat.le_refl _) O1
  have hT2' := Below.step hT2 ha2
  have i2 := ((i1.below hb2).more hb2.size).below ha2
  have o2 := own_below (own_below hD.own hb2) ha2
  have hn2 := heap_alloc_new w2 O1
  have hs2 : (w2.alloc O1).heap.size = w2.heap.size + 1 := by simp
  obtain ⟨w3, hw3⟩ : ∃ W, w2.alloc O1 = W := ⟨_, rfl⟩
  rw [hw3] at hT2' hn2 hs2 i2 o2
  rw [← hO1] at hn2 hw3
  have hs2' : w2.heap.size < w3.heap.size := by omega
  clear hs2 hO1 ha2
  go_wp2_with fail
  clear hw3
  refine (sBlendMean_is _ _ _ _ x y b _ hme (i2.more (by omega)) (by omega)).mono ?_
  rintro e w4 ⟨rfl, hb4⟩
  have hT4 := Below.step hT2' hb4
  have hs4 := hb4.size
  have i4 := (i2.more (show w2.heap.size ≤ w3.heap.size by omega)).below hb4
  have o4 := own_below o2 hb4
  have hn4 := (hb4.block w2.heap.size (by omega)).trans hn2
  have c41 := (cell_of_row w4 w2.heap.size 0 _ _ _ hn4).trans rfl
  have c42 := (cell_of_row w4 w2.heap.size 1 _ _ _ hn4).trans rfl
  have hlt4 : w2.heap.size < w4.heap.size := by omega
  rcases b with _ | _
  · clear i4 o4 hn4 hn2
    go_wp2
    go_ret
    exact ⟨rfl, Below.step hT4 ((Below.refl _ _).alloc (Nat.le_refl _) _)⟩
  have hm0 : 0 < m := by
    rcases hme with ⟨ho, _⟩ | ⟨_, _, _, hb⟩
    · unfold meanOk at ho; simp at ho; have := HZ.out; omega
    · cases hb
  obtain ⟨gg, hCe, hg1, hg2⟩ := own_at o4 hm0
  subst hCe
  obtain ⟨i0, hi, hz0, hz1, hz2⟩ := info_parts int_info
  have HC0 := Lib.hid (o4.cells (g := gg) rfl)
  have HLEN := Lib.hid (show (zs.map (Value.int .i64)).length = m * 1 by rw [List.length_map, HZ.out, Nat.mul_one])
  have hlit : ((w4.alloc (.cells #[.int .i64 x, .int .i64 y] 33)).alloc (.cells #[] 3)).ownsRow (w4.heap.size + 1) 3 1 (.slice (some ⟨w4.heap.size + 1, 0, none⟩) 0 0) 0 [] := by
    have := own_lit0 (w4.alloc (.cells #[.int .i64 x, .int .i64 y] 33)) 3
    simpa using this
  have hbl : Below w4.heap.size w4 ((w4.alloc (.cells #[.int .i64 x, .int .i64 y] 33)).alloc (.cells #[] 3)) := ((Below.refl _ _).alloc (Nat.le_refl _) _).alloc (by simp) _
  have HBL := Lib.hid hbl
  have HLIT := Lib.hid hlit
  clear hbl hlit
  go_wp2_with (at_builtin; refine wpList_append_own _ rfl _ _ 22 rfl (w4.heap.size + 1) 3 i0 (.int .i64 0) 1 8 Try.underlying22 hi hz0 hz1 hz2 rfl (by decide) _ _ _ rfl HLIT.out ⟨gg, 0, none⟩ m cc (zs.map (Value.int .i64)) rfl HLEN.out ?c1 ?c2 ?c3 ?c4 ?c5 ?_)
  case c1 =>
    intro j u hj
    have := HC0.out j u hj
    rw [← this]
    exact HBL.out.cell (by unfold Addr.add; split <;> exact hg2)
  case c2 => intro u hu; simp at hu; obtain ⟨z, _, rfl⟩ := hu; rfl
  case c3 => unfold maxLen; omega
  case c4 => omega
  case c5 => simp
  intro v5 w5 hown5 hgrow5 _
  have hown5' : w5.ownsRow (w4.heap.size + 1) 3 1 v5 m (zs.map (Value.int .i64)) := by simpa using hown5
  have hb5 : Below w4.heap.size w4 w5 := HBL.out.grown hgrow5 (by simp; omega) (fun k hk => by have := (HLIT.out.lt k hk).1; omega)
  have hsz5 : w4.heap.size + 2 ≤ w5.heap.size := by have := hgrow5.size; simpa using this
  have HO5 := Lib.hid hown5'
  clear hown5 hgrow5 hown5' HLIT HBL
  go_wp2_with (at_builtin; refine wpList_append_own _ rfl _ _ 22 rfl (w4.heap.size + 1) 3 i0 (.int .i64 0) 1 8 Try.underlying22 hi hz0 hz1 hz2 rfl (by decide) _ _ _ rfl HO5.out ⟨gg, 0, none⟩ m cc (zs.map (Value.int .i64)) rfl HLEN.out ?d1 ?d2 ?d3 ?d4 ?d5 ?_)
  case d1 =>
    intro j u hj
    have := HC0.out j u hj
    rw [← this]
    exact hb5.cell (by unfold Addr.add; split <;> exact hg2)
  case d2 => intro u hu; simp at hu; obtain ⟨z, _, rfl⟩ := hu; rfl
  case d3 => unfold maxLen; omega
  case d4 => omega
  case d5 => omega
  intro v6 w6 hown6 hgrow6 _
  have hown6' : w6.ownsRow (w4.heap.size + 1) 3 1 v6 (m + m) ((zs ++ zs).map (Value.int .i64)) := by simpa using hown6
  have hb6 : Below w4.heap.size w4 w6 := hb5.grown hgrow6 (by omega) (fun k hk => by have := (HO5.out.lt k hk).1; omega)
  have hn6 : w6.heap[w2.heap.size]? = some (.cells #[.int .i64 x, .int .i64 y] 33 (0, 0)) := (hb6.block w2.heap.size (by omega)).trans hn4
  obtain ⟨V, vc, rfl⟩ := own_form hown6'
  have hT6 := Below.step hT4 hb6
  have i6 := ISl.of_own hown6' (by
    intro z hz
    rcases List.mem_append.1 hz with hz | hz
    · exact hD.ini z hz
    · exact hD.ini z hz)
  have hs6 := hb6.size
  have hme2 := Lib.hid (meanIs_twice hme (by rw [HZ.out]; omega))
  clear hown6 hgrow6 hown6' hn4 hn2
  go_wp2_with fail
  refine (iBlendMean_is _ _ _ _ x y true _ hme2.out i6 (by omega)).mono ?_
  rintro e w7 ⟨rfl, hb7⟩
  have hT7 := Below.step hT6 hb7
  have hs7 := hb7.size
  have hn7 := (hb7.block w2.heap.size (by omega)).trans hn6
  have c71 : w7.cell? ⟨w2.heap.size, 0, none⟩ = some (.int .i64 x) := (cell_of_row w7 w2.heap.size 0 _ _ _ hn7).trans rfl
  have c72 : w7.cell? ⟨w2.heap.size, 1, none⟩ = some (.int .i64 y) := (cell_of_row w7 w2.heap.size 1 _ _ _ hn7).trans rfl
  have hlt7 : w2.heap.size < w7.heap.size := by omega
  clear hn6 hn7
  go_wp2
  go_ret
  exact ⟨rfl, Below.step hT7 ((Below.refl _ _).alloc (Nat.le_refl _) _)⟩
end Go.Proofs.Ytpfbjpognmjmmaa
