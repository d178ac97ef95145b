/- The contract of the program's BlendsOf and BlendsMany. -/
import Derived.Test.YtpfbjpognmjmmaaBlCut
set_option linter.unusedVariables false
namespace Go.Proofs.Ytpfbjpognmjmmaa
open Go.RowKit Go.Shelf Bl

theorem own_form3 {w : World} {base s n : Nat} {E : TypeId} {v : Value} {xs : List Value} (h : w.ownsRow base E s v (0 + n) xs) (hn : 0 < n) : ∃ g c, v = .slice (some ⟨g, 0, none⟩) n c := by
  rcases h.2 with ⟨_, h0⟩ | ⟨g, cap, _, rfl, _⟩
  · omega
  · exact ⟨g, cap, by rw [Nat.zero_add]⟩
set_option maxHeartbeats 1000000 in
theorem clone_any (b off n c B : Nat) (zs : List Int) (w : World) (h : ISl w B (some ⟨b, off, none⟩) n c zs) (hn0 : 0 < n) (hn : n ≤ 1000) :
    Calls Try.prog 38 #[.slice (some ⟨b, off, none⟩) n c] w fun e w' => ∃ g c', e = .returned (.slice (some ⟨g, 0, none⟩) n c') ∧ w'.ownsRow w.heap.size 3 1 (.slice (some ⟨g, 0, none⟩) n c') n (zs.map (Value.int .i64)) ∧ Below w.heap.size w w' := by
  obtain ⟨i0, hi, hz0, hz1, hz2⟩ := info_parts int_info
  obtain ⟨b', off', he, hbB, hc⟩ := h.mem hn0
  injection he with he
  injection he with he1 he2
  subst he1 he2
  have HL := Lib.hid h.len
  have hblt : b < w.heap.size := by
    have := cell_lt (hc 0 hn0); exact this
  have HC : Hid (∀ (j : Nat) (u : Value), (zs.map (Value.int .i64))[j]? = some u → (w.alloc (.cells #[] 3)).cell? ((⟨b, off, none⟩ : Addr).add j) = some u) := by
    intro j u hu
    have hj : j < zs.length := by
      rcases Nat.lt_or_ge j zs.length with c | c
      · exact c
      · rw [List.getElem?_eq_none (by simpa using c)] at hu; cases hu
    rw [getElem?_map_some hj] at hu
    have ea : (⟨b, off, none⟩ : Addr).add j = ⟨b, off + j, none⟩ := by unfold Addr.add; split <;> simp_all
    rw [ea, ← hu]
    exact (bcell ((Below.refl w.heap.size w).alloc (Nat.le_refl _) (.cells #[] 3)) _ _ hblt).trans (hc j (by rw [← HL.out]; exact hj))
  have HO := Lib.hid (own_lit0 w 3)
  have H1 : Hid ((zs.map (Value.int .i64)).length = n * 1) := by show _ = _; rw [List.length_map, HL.out, Nat.mul_one]
  have H2 : Hid (∀ u ∈ zs.map (Value.int .i64), u.oneCell' = true) := ints_oneCell _ _
  have H3 : Hid (0 + n ≤ maxLen) := by show 0 + n ≤ maxLen; unfold maxLen; omega
  have H4 : Hid ((0 + n) * 8 ≤ 140737488355328) := by show (0 + n) * 8 ≤ 140737488355328; omega
  have H5 : Hid (w.heap.size ≤ (w.alloc (.cells #[] 3)).heap.size) := by show _ ≤ _; simp
  have qT : ∀ (w : World) (a : Option Addr) (n c : Nat), (binOp .eql 22 (.slice a n c) (.slice none 0 0)).run Try.prog w = .ok (.bool a.isNone) w := fun w a n c => Lib.run_eql_slice_nil w _ _ a n c 0 0 Try.underlying22
  clear hc
  go_enter Try.func38, Try.ntmps38
  go_wp2_with (at_builtin; refine wpList_append_own _ rfl _ _ 22 rfl w.heap.size 3 i0 (.int .i64 0) 1 8 Try.underlying22 hi hz0 hz1 hz2 rfl (by decide) (.slice (some ⟨w.heap.size, 0, none⟩) 0 0) 0 [] rfl HO.out ⟨b, off, none⟩ n c (zs.map (Value.int .i64)) rfl H1.out HC.out H2.out H3.out H4.out H5.out ?_; intro v' w5 hown' hgrow _; obtain ⟨g', cap', rfl⟩ := own_form3 hown' hn0)
  have hb5 : Below w.heap.size w w5 := ((Below.refl _ _).alloc (Nat.le_refl _) _).grown hgrow (by simp) (by intro g e; simp [Value.ownBlock] at e; omega)
  rw [List.nil_append, Nat.zero_add] at hown'
  go_ret
  exact ⟨g', cap', rfl, hown', hb5⟩

set_option maxHeartbeats 400000 in
theorem cutBlends_any (A : Option Addr) (n c : Nat) (wd : Int) (w : World) :
    Calls Try.prog 37 #[.slice A n c, .int .i64 wd] w fun e w' => e = .returned (.func (.func 45) #[] #[.pointer (some ⟨w.heap.size, 0, none⟩), .pointer (some ⟨w.heap.size + 1, 0, none⟩)]) ∧ (w.alloc (.cells #[.slice A n c] 22)).alloc (.cells #[.int .i64 wd] 3) = w' := by
  go_enter Try.func37, Try.ntmps37
  go_wp2
  go_ret
  exact ⟨rfl, rfl⟩

/-- an append inside a region of a round -/
theorem stepIn_append {F : Fence} {n : Nat} {P : Program} (w : World) {ops : Array Oper} {o : Oper} {a : Act} {K : Act → World → Prop} {Q : Exit → Act → World → Prop} {E : Prop}
    (hg : o.guard = none) (s x : Operand) (t : TypeId) (hop : o.op = Op.call { callee := Callee.builtin Builtin.append, args := #[s, x], argTypes := #[t, t] })
    (base : Nat) (e : TypeId) (i : TypeInfo) (z : Value) (size bytes : Nat) (h1 : P.underlying t = some (.slice e)) (h2 : P.info? e = some i) (h3 : i.zero = some z) (h4 : i.size = size) (h5 : i.bytes = bytes) (h6 : z.cells.size = size) (h7 : 0 < size)
    (v : Value) (k : Nat) (xs : List Value) (hs : a.eval s = v) (hown : w.ownsRow base e size v k xs) (ad : Addr) (m c : Nat) (news : List Value) (hx : a.eval x = .slice (some ad) m c) (hn : news.length = m * size)
    (hc : ∀ j u, news[j]? = some u → w.cell? (ad.add j) = some u) (h1c : ∀ u ∈ news, u.oneCell' = true) (b1 : k + m ≤ maxLen) (b2 : (k + m) * bytes ≤ 140737488355328) (b3 : base ≤ w.heap.size)
    (hK : ∀ v' w', w'.ownsRow base e size v' (k + m) (xs ++ news) → w.grownBy w' v.ownBlock → K (a.put o.dst v') w') :
    if Region.wanted o (yielded ops a.tmps) = true then Oper.wpIn F n P o a w K Q else E := by
  have hw : Region.wanted o (yielded ops a.tmps) = true := by simp [Region.wanted, hg]
  rw [if_pos hw]
  obtain ⟨v', w', hrun, r1, r2, r3⟩ := run_append_own (P := P) w base t o.type e i z size bytes h1 h2 h3 h4 h5 h6 h7 v k xs hown ad m c news hn hc h1c b1 b2 b3
  unfold Oper.wpIn
  refine ⟨?_, ?_⟩
  · simp [Oper.about, hop, resolve, Target.leads, Sem.run_pure]
  · rw [Oper.semAt_plain F _ _ (by rw [hop]; intro c hc'; cases hc')]
    simp [execOp, hop, resolve, invoke, builtin, hs, hx, hrun, Result.andThen]
    exact hK v' w' r1 r2

theorem keepsOthers_below {W W' : World} (h : Below W.heap.size W W') : KeepsOthers W W' :=
  ⟨h.size, fun k o hk _ => (h.block k (Array.getElem?_eq_some_iff.1 hk).1).trans hk⟩
theorem row_kept_others {W W' : World} {row : Option Nat} {base size k : Nat} {e : TypeId} {v : Value} {xs : List Value} (hr : W.ownsRow base e size v k xs) (hg : W.grownBy W' row) (hrow : ∀ r, row = some r → ∃ o : Obj, W.heap[r]? = some o ∧ o.isCells = false) : W'.ownsRow base e size v k xs := by
  refine hr.kept hg ?_
  rcases hr.2 with ⟨rfl, _⟩ | ⟨g, cap, cur, rfl, _, hgb, _⟩
  · exact .inl rfl
  · refine .inr fun e' => ?_
    obtain ⟨o, ho, hc⟩ := hrow g (by simpa [Value.ownBlock] using e'.symm)
    rw [hgb] at ho; cases ho; cases hc
theorem GRow.others {W W' : World} {row : Option Nat} {base n : Nat} {S : Nat → Value} {v : Value} {G : List (List Int)} (h : GRow W base S v n G) (hg : W.grownBy W' row) (hrow : ∀ r, row = some r → ∃ o : Obj, W.heap[r]? = some o ∧ o.isCells = false) : GRow W' base S v n G :=
  h.map fun _ _ _ _ hr => row_kept_others hr hg hrow
theorem GRow.boxed {W : World} {base n B : Nat} {t : TypeId} {S : Nat → Value} {v u : Value} {G : List (List Int)} (h : GRow W base S v n G) (hb : Boxed W B t u) (h1 : t ≠ 22) (h2 : t ≠ 3) (x : Value) : GRow (W.setCell ⟨B, 0, none⟩ x) base S v n G :=
  ⟨h.len, h.row.map fun xs hx => hx.kept (grownBy_setCell' W B x) (.inr (hb.not_row h1 hx).symm), fun i hi => (h.inn i hi).kept (grownBy_setCell' W B x) (.inr (hb.not_row h2 (h.inn i hi)).symm), h.apart⟩

theorem below_undrew {W W1 : World} (h : Below W.drew.heap.size W.drew W1) : Below W.heap.size W W1 := ⟨h.os, h.tape, h.output, h.size, h.block⟩
/-- what stands between two rounds -/
def RInv (zs : List Int) (N n₁ B : Nat) (w : World) (pre : List (Sg N)) (W : World) : Prop :=
  (∃ v S, Boxed W B 37 v ∧ GRow W n₁ S v pre.length (pre.map fun x => sgOf zs x.1)) ∧ KpC n₁ B w W
theorem rInv_own (zs : List Int) (N n₁ B B0 : Nat) (w : World) (hn : n₁ ≤ w.heap.size) (hB : n₁ ≤ B0) : OwnFrom B0 (RInv zs N n₁ B w) := by
  rintro s X Y row ⟨⟨v, S, hv, hG⟩, hb⟩ hg hrow
  refine ⟨⟨v, S, hv.kept hg (fun e' => ?_), hG.others hg (fun r e => (hrow r e).2)⟩, ?_⟩
  · obtain ⟨_, o, ho, hc⟩ := hrow B e'.symm
    rw [show X.heap[B]? = _ from hv] at ho; cases ho; cases hc
  · exact hb.grown hg (fun k e => .inl (Nat.le_trans hB (hrow k e).1)) hn
/-- a round's end -/
theorem round_end {zs : List Int} {N n₁ B : Nat} {w W W1 w5 : World} {pre : List (Sg N)} {x : Sg N} {v v' u : Value} {S : Nat → Value} {ys : List Value} (hn : n₁ ≤ w.heap.size) (hB0 : B < n₁) (hN : zs.length = N)
    (hv : Boxed W B 37 v) (hG : GRow W n₁ S v pre.length (pre.map fun x => sgOf zs x.1)) (hb : KpC n₁ B w W) (hyl : ys.length = pre.length * 1) (hyx : ∀ i j, i < pre.length → j < 1 → ys[i * 1 + j]? = some (S i))
    (hb1 : Below W.heap.size W W1) (hu : W1.ownsRow W.heap.size 3 1 u (x.1.2 - x.1.1) ((sgOf zs x.1).map (Value.int .i64)))
    (hown' : w5.ownsRow n₁ 22 1 v' (pre.length + 1) (ys ++ [u])) (hgrow : (W1.alloc (.cells #[u] 22)).grownBy w5 v.ownBlock) :
    KeepsOthers W (w5.setCell ⟨B, 0, none⟩ v') ∧ KpC n₁ B W (w5.setCell ⟨B, 0, none⟩ v') ∧ RInv zs N n₁ B w (pre ++ [x]) (w5.setCell ⟨B, 0, none⟩ v') := by
  have hs := hb.size
  have hbW : n₁ ≤ W.heap.size := Nat.le_trans hn hs
  have hbW1 : n₁ ≤ W1.heap.size := Nat.le_trans hbW hb1.size
  have hG1 := hG.below hb1
  have hv1 : Boxed W1 B 37 v := by
    have := hb1.block B hv.lt
    exact this.trans hv
  obtain ⟨xs1, hrow1, _⟩ := hG1.row
  have hv5 : Boxed w5 B 37 v := (hv1.alloc _).kept hgrow (hv1.not_row (by decide) hrow1)
  have hb2 : Below W.heap.size W (W1.alloc (.cells #[u] 22)) := hb1.trans (((Below.refl _ _).alloc (Nat.le_refl _) _).mono hb1.size)
  have hx := sgOf_len hN x
  rw [← hx] at hu
  have hGn := GRow.push hG hyl hyx hb2 hbW (hu.alloc _) hgrow hown'
  have hK1 : KpC n₁ B W w5 := (KpC.of_below (hb2.mono hbW)).grown hgrow (fun k e => .inl (hrow1.lt k e).1) hbW
  have hK2 : KpC n₁ B W (w5.setCell ⟨B, 0, none⟩ v') := hK1.grown (grownBy_setCell' w5 B v') (fun k e => .inr (by injection e with e; exact e.symm)) hbW
  have hO : KeepsOthers (W1.alloc (.cells #[u] 22)) w5 := KeepsOthers.of_grownBy hgrow fun j o ej hj => by
    have hr2 := hrow1.alloc (.cells #[u] 22)
    rcases hr2.2 with ⟨rfl, _⟩ | ⟨g, cap, cur, rfl, _, hgb, _⟩
    · cases ej
    · have : g = j := by simpa [Value.ownBlock] using ej
      subst this
      rw [hgb] at hj; cases hj; rfl
  refine ⟨(((keepsOthers_below hb1).trans (KeepsOthers.alloc _ _)).trans hO).trans (KeepsOthers.setCell _ _ _), hK2, ⟨v', fun i => if i = pre.length then u else S i, hv5.set v', ?_⟩, hb.trans hK2⟩
  have := hGn.boxed hv5 (by decide) (by decide) v'
  rw [List.map_append, List.length_append]
  exact this
attribute [local go_sem] Oper.semAt_some
set_option maxRecDepth 100000 in
set_option maxHeartbeats 4000000 in
theorem iBlendsOf_yes (b off n c : Nat) (zs : List Int) (wd : Int) (w : World) (h : ISl w w.heap.size (some ⟨b, off, none⟩) n c zs) (hn0 : 0 < n) (hok : blOk zs = true ∧ 0 ≤ wd ∧ wd ≤ 200000) :
    Calls Try.prog 23 #[.slice (some ⟨b, off, none⟩) n c, .int .i64 wd] w (GroupsRes zs wd w) := by
  obtain ⟨i1, hi1, hy0, hy1, hy2⟩ := info_parts ints_info
  have HL := Lib.hid h.len
  have hcap := h.cap
  have hl2 := blOk_len hok.1
  rw [HL.out] at hl2
  have hwd := hok.2
  have HY := Lib.hid hok
  have HR : Hid (∀ i, i < zs.length → 0 ≤ gI zs i ∧ gI zs i ≤ 200000) := fun i hi => by have := blOk_at HY.out.1 hi; unfold okAt at this; omega
  obtain ⟨b', off', he, hbB, hc⟩ := h.mem hn0
  injection he with he
  injection he with he1 he2
  subst he1 he2
  have HIn : Hid (ISl w w.heap.size (some ⟨b, off, none⟩) n c zs) := h
  have HCC := Lib.hid hc
  have hv : blOk zs = true := hok.1
  clear hok hc h
  refine (callsIn_wide (n := 3)).1 ?_
  refine callsIn_of_wp_marks Try.func23 rfl trivial ?_ rfl
  simp only [Try.ntmps23, List.size_toArray, List.length_cons, List.length_nil, Nat.reduceAdd, Nat.reduceSub, Array.replicate_succ, Array.replicate_zero, List.push_toArray, List.append_toArray, List.nil_append, List.cons_append]
  gi_wp2_with (first
    | (refine ⟨trivial, ?_⟩; gi_at_call 31; refine (callsIn_wide.2 (blendListValid_any _ _ _ _ _ _ HIn.out (by omega))).mono ?_; rintro e w' ⟨rfl, rfl⟩; rw [hv])
    | (refine ⟨trivial, ?_⟩; gi_at_call 37; refine (callsIn_wide.2 (cutBlends_any _ _ _ _ _)).mono ?_; rintro e w' ⟨rfl, rfl⟩))
  have bB := Boxed.new w 37 (.slice none 0 0)
  have b1 := Boxed.new (w.alloc (.cells #[.slice none 0 0] 37)) 22 (.slice (some ⟨b, off, none⟩) n c)
  have b2 := Boxed.new ((w.alloc (.cells #[.slice none 0 0] 37)).alloc (.cells #[.slice (some ⟨b, off, none⟩) n c] 22)) 3 (.int .i64 wd)
  simp only [World.size_alloc] at b1 b2
  have bB' := (bB.alloc (.cells #[.slice (some ⟨b, off, none⟩) n c] 22)).alloc (.cells #[.int .i64 wd] 3)
  have b1' := b1.alloc (.cells #[.int .i64 wd] 3)
  have hB0 : Below w.heap.size w (((w.alloc (.cells #[.slice none 0 0] 37)).alloc (.cells #[.slice (some ⟨b, off, none⟩) n c] 22)).alloc (.cells #[.int .i64 wd] 3)) := (((Below.refl _ w).alloc (Nat.le_refl _) _).alloc (by simp) _).alloc (by simp; omega) _
  have hz0 : (((w.alloc (.cells #[.slice none 0 0] 37)).alloc (.cells #[.slice (some ⟨b, off, none⟩) n c] 22)).alloc (.cells #[.int .i64 wd] 3)).heap.size = w.heap.size + 3 := by simp
  generalize ((w.alloc (.cells #[.slice none 0 0] 37)).alloc (.cells #[.slice (some ⟨b, off, none⟩) n c] 22)).alloc (.cells #[.int .i64 wd] 3) = W0 at bB' b1' b2 hB0 hz0 ⊢
  clear bB b1
  have hBz := Lib.hid hB0
  have HZ := Lib.hid hz0
  have hzl : w.heap.size + 3 ≤ W0.heap.size := by omega
  have hcW : ∀ i, i < n → W0.cell? ⟨b, off + i, none⟩ = some (.int .i64 (gI zs i)) := fun i hi => (bcell hB0 _ _ hbB).trans (HCC.out i hi)
  refine wpIn_rangeFunc_ownF rfl (by omega) (gf := 45) (lb := #[.pointer (some ⟨w.heap.size + 1, 0, none⟩), .pointer (some ⟨w.heap.size + 1 + 1, 0, none⟩)]) rfl trivial (enters_of Try.func45 (by kernel_rfl) rfl)
    (encs := encSg b off c) (Kp := KpC (w.heap.size + 3) w.heap.size) (S := fun xs : List (Sg n) => xs.map (fun x => sgOf zs x.1) = gr zs wd n) (Sp := fun _ => True) (N := n) (w0 := W0)
    (fun l J Jx W hW hJ hJx hY h0 => cut_in _ (by omega) l (w.heap.size + 1) (w.heap.size + 1 + 1) (w.heap.size + 3) w.heap.size b off n c zs wd HL.out hn0 hcap hl2 (by omega) (by omega) HR.out hwd J Jx _ hJ hY W
      ((hW.cell (p := ⟨w.heap.size + 1, 0, none⟩) b1'.lt).trans b1'.cell) ((hW.cell (p := ⟨w.heap.size + 1 + 1, 0, none⟩) b2.lt).trans b2.cell) (by omega) (by omega) (by omega) (by omega) (fun i hi => (hW.cell (p := ⟨b, off + i, none⟩) (by show b < _; omega)).trans (hcW i hi)) h0)
    (fun h k => h.trans k) (fun W l o o' hl ho hc _ => KpC.putObj W o' (by omega)) (Below.refl _ _) (fun _ => rfl)
    (RInv zs n (w.heap.size + 3) w.heap.size W0) (fun _ _ _ => False)
    (rInv_own zs n _ _ _ W0 hzl hzl) (fun _ _ _ _ _ hs _ _ => hs)
    ⟨⟨_, fun _ => undef, bB', rfl, OwnR.nil _ _ _ _ _, fun i hi => absurd hi (by simp), fun i j k hi => absurd hi (by simp)⟩, KpC.refl _⟩
    (fun x => { tmps := #[.slice (some ⟨b, off, none⟩) n c, .int .i64 wd, undef, undef, .slice none 0 0, .bool false, .pointer (some ⟨w.heap.size, 0, none⟩), .slice (some ⟨b, off + x.1.1, none⟩) (x.1.2 - x.1.1) (c - x.1.1),
      .slice (some ⟨b, off, none⟩) n c, .bool true, .bool false, .bool false, .int .i64 wd, .bool (decide (wd < 0)), .bool (decide (wd < 0)), .bool (decide (wd < 0)), .int .i64 wd, .bool (decide (200000 < wd)), .bool (decide (wd < 0) || decide (200000 < wd)), .slice (some ⟨b, off, none⟩) n c, .int .i64 wd,
      .func (.func 45) #[] #[.pointer (some ⟨w.heap.size + 1, 0, none⟩), .pointer (some ⟨w.heap.size + 1 + 1, 0, none⟩)], .slice (some ⟨b, off + x.1.1, none⟩) (x.1.2 - x.1.1) (c - x.1.1), undef, undef, undef, undef, undef, undef], defers := [] }) ?assign ?body ?done ?stop
  case assign =>
    intro l x W K hK
    dsimp only [encSg]
    gi_wp2
    exact hK
  case body =>
    rintro l pre ⟨⟨fr, to⟩, hft, htn⟩ W hI hlt
    dsimp only at hft htn ⊢
    obtain ⟨⟨v, S, hv, hG⟩, hKp⟩ := hI
    have hc := hv.cell
    obtain ⟨ys, hyo, hyx⟩ := hG.row
    have hSW := hKp.size
    have hN : Hid (zs.length = n) := HL.out
    have hseg : ISl W.drew W.heap.size (some ⟨b, off + fr, none⟩) (to - fr) (c - fr) (sgOf zs (fr, to)) := by
      refine ⟨sgOf_len HL.out ⟨(fr, to), hft, htn⟩, by omega, fun z hz => ?_, fun hn => ⟨b, off + fr, rfl, by omega, fun i hi => ?_⟩⟩
      · obtain ⟨j, hj, rfl⟩ := List.mem_iff_getElem.1 hz
        rw [← gI_lt hj, sgOf_at (by have := sgOf_len HL.out ⟨(fr, to), hft, htn⟩; dsimp only at this ⊢; omega)]
        have := HR.out (fr + j) (by have := sgOf_len HL.out ⟨(fr, to), hft, htn⟩; rw [HL.out]; dsimp only at this; omega)
        dsimp only
        unfold InI; omega
      · rw [sgOf_at hi]
        have := hKp.cell b (off + (fr + i)) (by omega) (by omega)
        rw [Nat.add_assoc]
        exact this.trans (hcW _ (by omega))
    have HSG := Lib.hid hseg
    have HYX := Lib.hid hyx
    have HYO := Lib.hid hyo
    have hpl : pre.length < 40 := by omega
    have hWn : w.heap.size + 3 ≤ W.heap.size := by omega
    clear hseg hyx hyo
    gi_wp2
    refine wpIn_region_any (by kernel_rfl) ?_
    try (change wpAnyIn _ _ _ _ _ _ _ _ _ (World.drew _))
    -- REGION BEGINS
    refine wpAnyIn_ready (rs := [0, 1]) (by kernel_rfl) (by simp) ?_
    refine (AllReadyIn.cons rfl (fun K hK => ?_) (AllReadyIn.cons rfl (fun K hK => ?_) AllReadyIn.nil))
    · go_simp
      try (refine hK _ _ ?_)
      try (clear hK K)
      refine wpAnyIn_ready (rs := [1]) (by kernel_rfl) (by simp) ?_
      refine AllReadyIn.cons rfl (fun K hK => ?_) AllReadyIn.nil
      go_simp
      try (refine hK _ _ ?_)
      try (clear hK K)
      refine wpAnyIn_ready (rs := [2]) (by kernel_rfl) (by simp) ?_
      refine AllReadyIn.cons rfl (fun K hK => ?_) AllReadyIn.nil
      go_simp
      gi_wp2_with (refine ⟨trivial, ?_⟩; gi_at_call 38; refine (CallsIn.inRound l (callsIn_wide.2 (clone_any _ _ _ _ _ _ _ HSG.out (by omega) (by omega)))).mono ?_; rintro e W1 ⟨g1, c1, rfl, hu, hb1⟩)
      have hc1 : W1.cell? ⟨w.heap.size, 0, none⟩ = some v := (hb1.cell (p := ⟨w.heap.size, 0, none⟩) hv.lt).trans hc
      have hlt1 : w.heap.size < W1.heap.size := cell_lt hc1
      have hca : ∀ o : Obj, (W1.alloc o).cell? ⟨w.heap.size, 0, none⟩ = some v := fun o => (bcell ((Below.refl W1.heap.size W1).alloc (Nat.le_refl _) o) _ _ hlt1).trans hc1
      have HU := Lib.hid (And.intro hu hb1)
      clear hu hb1
      try (refine hK _ _ ?_)
      try (clear hK K)
      refine wpAnyIn_ready (rs := [3]) (by kernel_rfl) (by simp) ?_
      refine AllReadyIn.cons rfl (fun K hK => ?_) AllReadyIn.nil
      go_simp
      try (refine hK _ _ ?_)
      try (clear hK K)
      refine wpAnyIn_ready (rs := [4]) (by kernel_rfl) (by simp) ?_
      refine AllReadyIn.cons rfl (fun K hK => ?_) AllReadyIn.nil
      refine stepIn_append _ rfl (.tmp 23) (.tmp 26) 37 rfl (w.heap.size + 3) 22 i1 (.slice none 0 0) 1 24 Try.underlying37 hi1 hy0 hy1 hy2 rfl (by decide) v pre.length ys rfl ((own_below (w := W.drew) HYO.out HU.out.2).alloc _) ⟨W1.heap.size, 0, none⟩ 1 1 [.slice (some ⟨g1, 0, none⟩) (to - fr) c1] rfl rfl (cell_one_new _ _ _) (by simp [Value.oneCell']) (by unfold maxLen; omega) (by omega) (by have := HU.out.2.size; simp at this ⊢; omega) ?_
      intro v' w5 hown' hgrow
      obtain ⟨g5, c5, rfl⟩ := ownsRow_succ hown'
      have hE := round_end (w := W0) (N := n) (x := ⟨(fr, to), hft, htn⟩) hzl (by omega) hN.out hv hG hKp HYO.out.1 HYX.out (below_undrew HU.out.2) HU.out.1 hown' hgrow
      have hB1 : Boxed W1 w.heap.size 37 v := (HU.out.2.block w.heap.size hv.lt).trans hv
      have hr1 := own_below (w := W.drew) HYO.out HU.out.2
      have h5 : Boxed w5 w.heap.size 37 v := (hB1.alloc _).kept hgrow (hB1.not_row (by decide) hr1)
      have hc5 := h5.cell
      have hf5 := h5.frozen
      have HE := Lib.hid hE
      clear hE hown' hgrow h5 hr1 hB1
      try (refine hK _ _ ?_)
      try (clear hK K)
      refine wpAnyIn_ready (rs := [5]) (by kernel_rfl) (by simp) ?_
      refine AllReadyIn.cons rfl (fun K hK => ?_) AllReadyIn.nil
      go_simp
      try (refine hK _ _ ?_)
      try (clear hK K)
      refine wpAnyIn_done (by kernel_rfl) ?_ _
      gi_wp2
      exact HE.out
    · go_simp
      try (refine hK _ _ ?_)
      try (clear hK K)
      refine wpAnyIn_ready (rs := [0, 2]) (by kernel_rfl) (by simp) ?_
      refine (AllReadyIn.cons rfl (fun K hK => ?_) (AllReadyIn.cons rfl (fun K hK => ?_) AllReadyIn.nil))
      · go_simp
        try (refine hK _ _ ?_)
        try (clear hK K)
        refine wpAnyIn_ready (rs := [2]) (by kernel_rfl) (by simp) ?_
        refine AllReadyIn.cons rfl (fun K hK => ?_) AllReadyIn.nil
        go_simp
        gi_wp2_with (refine ⟨trivial, ?_⟩; gi_at_call 38; refine (CallsIn.inRound l (callsIn_wide.2 (clone_any _ _ _ _ _ _ _ HSG.out (by omega) (by omega)))).mono ?_; rintro e W1 ⟨g1, c1, rfl, hu, hb1⟩)
        have hc1 : W1.cell? ⟨w.heap.size, 0, none⟩ = some v := (hb1.cell (p := ⟨w.heap.size, 0, none⟩) hv.lt).trans hc
        have hlt1 : w.heap.size < W1.heap.size := cell_lt hc1
        have hca : ∀ o : Obj, (W1.alloc o).cell? ⟨w.heap.size, 0, none⟩ = some v := fun o => (bcell ((Below.refl W1.heap.size W1).alloc (Nat.le_refl _) o) _ _ hlt1).trans hc1
        have HU := Lib.hid (And.intro hu hb1)
        clear hu hb1
        try (refine hK _ _ ?_)
        try (clear hK K)
        refine wpAnyIn_ready (rs := [3]) (by kernel_rfl) (by simp) ?_
        refine AllReadyIn.cons rfl (fun K hK => ?_) AllReadyIn.nil
        go_simp
        try (refine hK _ _ ?_)
        try (clear hK K)
        refine wpAnyIn_ready (rs := [4]) (by kernel_rfl) (by simp) ?_
        refine AllReadyIn.cons rfl (fun K hK => ?_) AllReadyIn.nil
        refine stepIn_append _ rfl (.tmp 23) (.tmp 26) 37 rfl (w.heap.size + 3) 22 i1 (.slice none 0 0) 1 24 Try.underlying37 hi1 hy0 hy1 hy2 rfl (by decide) v pre.length ys rfl ((own_below (w := W.drew) HYO.out HU.out.2).alloc _) ⟨W1.heap.size, 0, none⟩ 1 1 [.slice (some ⟨g1, 0, none⟩) (to - fr) c1] rfl rfl (cell_one_new _ _ _) (by simp [Value.oneCell']) (by unfold maxLen; omega) (by omega) (by have := HU.out.2.size; simp at this ⊢; omega) ?_
        intro v' w5 hown' hgrow
        obtain ⟨g5, c5, rfl⟩ := ownsRow_succ hown'
        have hE := round_end (w := W0) (N := n) (x := ⟨(fr, to), hft, htn⟩) hzl (by omega) hN.out hv hG hKp HYO.out.1 HYX.out (below_undrew HU.out.2) HU.out.1 hown' hgrow
        have hB1 : Boxed W1 w.heap.size 37 v := (HU.out.2.block w.heap.size hv.lt).trans hv
        have hr1 := own_below (w := W.drew) HYO.out HU.out.2
        have h5 : Boxed w5 w.heap.size 37 v := (hB1.alloc _).kept hgrow (hB1.not_row (by decide) hr1)
        have hc5 := h5.cell
        have hf5 := h5.frozen
        have HE := Lib.hid hE
        clear hE hown' hgrow h5 hr1 hB1
        try (refine hK _ _ ?_)
        try (clear hK K)
        refine wpAnyIn_ready (rs := [5]) (by kernel_rfl) (by simp) ?_
        refine AllReadyIn.cons rfl (fun K hK => ?_) AllReadyIn.nil
        go_simp
        try (refine hK _ _ ?_)
        try (clear hK K)
        refine wpAnyIn_done (by kernel_rfl) ?_ _
        gi_wp2
        exact HE.out
      · go_simp
        gi_wp2_with (refine ⟨trivial, ?_⟩; gi_at_call 38; refine (CallsIn.inRound l (callsIn_wide.2 (clone_any _ _ _ _ _ _ _ HSG.out (by omega) (by omega)))).mono ?_; rintro e W1 ⟨g1, c1, rfl, hu, hb1⟩)
        have hc1 : W1.cell? ⟨w.heap.size, 0, none⟩ = some v := (hb1.cell (p := ⟨w.heap.size, 0, none⟩) hv.lt).trans hc
        have hlt1 : w.heap.size < W1.heap.size := cell_lt hc1
        have hca : ∀ o : Obj, (W1.alloc o).cell? ⟨w.heap.size, 0, none⟩ = some v := fun o => (bcell ((Below.refl W1.heap.size W1).alloc (Nat.le_refl _) o) _ _ hlt1).trans hc1
        have HU := Lib.hid (And.intro hu hb1)
        clear hu hb1
        try (refine hK _ _ ?_)
        try (clear hK K)
        refine wpAnyIn_ready (rs := [0, 3]) (by kernel_rfl) (by simp) ?_
        refine (AllReadyIn.cons rfl (fun K hK => ?_) (AllReadyIn.cons rfl (fun K hK => ?_) AllReadyIn.nil))
        · go_simp
          try (refine hK _ _ ?_)
          try (clear hK K)
          refine wpAnyIn_ready (rs := [3]) (by kernel_rfl) (by simp) ?_
          refine AllReadyIn.cons rfl (fun K hK => ?_) AllReadyIn.nil
          go_simp
          try (refine hK _ _ ?_)
          try (clear hK K)
          refine wpAnyIn_ready (rs := [4]) (by kernel_rfl) (by simp) ?_
          refine AllReadyIn.cons rfl (fun K hK => ?_) AllReadyIn.nil
          refine stepIn_append _ rfl (.tmp 23) (.tmp 26) 37 rfl (w.heap.size + 3) 22 i1 (.slice none 0 0) 1 24 Try.underlying37 hi1 hy0 hy1 hy2 rfl (by decide) v pre.length ys rfl ((own_below (w := W.drew) HYO.out HU.out.2).alloc _) ⟨W1.heap.size, 0, none⟩ 1 1 [.slice (some ⟨g1, 0, none⟩) (to - fr) c1] rfl rfl (cell_one_new _ _ _) (by simp [Value.oneCell']) (by unfold maxLen; omega) (by omega) (by have := HU.out.2.size; simp at this ⊢; omega) ?_
          intro v' w5 hown' hgrow
          obtain ⟨g5, c5, rfl⟩ := ownsRow_succ hown'
          have hE := round_end (w := W0) (N := n) (x := ⟨(fr, to), hft, htn⟩) hzl (by omega) hN.out hv hG hKp HYO.out.1 HYX.out (below_undrew HU.out.2) HU.out.1 hown' hgrow
          have hB1 : Boxed W1 w.heap.size 37 v := (HU.out.2.block w.heap.size hv.lt).trans hv
          have hr1 := own_below (w := W.drew) HYO.out HU.out.2
          have h5 : Boxed w5 w.heap.size 37 v := (hB1.alloc _).kept hgrow (hB1.not_row (by decide) hr1)
          have hc5 := h5.cell
          have hf5 := h5.frozen
          have HE := Lib.hid hE
          clear hE hown' hgrow h5 hr1 hB1
          try (refine hK _ _ ?_)
          try (clear hK K)
          refine wpAnyIn_ready (rs := [5]) (by kernel_rfl) (by simp) ?_
          refine AllReadyIn.cons rfl (fun K hK => ?_) AllReadyIn.nil
          go_simp
          try (refine hK _ _ ?_)
          try (clear hK K)
          refine wpAnyIn_done (by kernel_rfl) ?_ _
          gi_wp2
          exact HE.out
        · go_simp
          try (refine hK _ _ ?_)
          try (clear hK K)
          refine wpAnyIn_ready (rs := [0]) (by kernel_rfl) (by simp) ?_
          refine AllReadyIn.cons rfl (fun K hK => ?_) AllReadyIn.nil
          go_simp
          try (refine hK _ _ ?_)
          try (clear hK K)
          refine wpAnyIn_ready (rs := [4]) (by kernel_rfl) (by simp) ?_
          refine AllReadyIn.cons rfl (fun K hK => ?_) AllReadyIn.nil
          refine stepIn_append _ rfl (.tmp 23) (.tmp 26) 37 rfl (w.heap.size + 3) 22 i1 (.slice none 0 0) 1 24 Try.underlying37 hi1 hy0 hy1 hy2 rfl (by decide) v pre.length ys rfl ((own_below (w := W.drew) HYO.out HU.out.2).alloc _) ⟨W1.heap.size, 0, none⟩ 1 1 [.slice (some ⟨g1, 0, none⟩) (to - fr) c1] rfl rfl (cell_one_new _ _ _) (by simp [Value.oneCell']) (by unfold maxLen; omega) (by omega) (by have := HU.out.2.size; simp at this ⊢; omega) ?_
          intro v' w5 hown' hgrow
          obtain ⟨g5, c5, rfl⟩ := ownsRow_succ hown'
          have hE := round_end (w := W0) (N := n) (x := ⟨(fr, to), hft, htn⟩) hzl (by omega) hN.out hv hG hKp HYO.out.1 HYX.out (below_undrew HU.out.2) HU.out.1 hown' hgrow
          have hB1 : Boxed W1 w.heap.size 37 v := (HU.out.2.block w.heap.size hv.lt).trans hv
          have hr1 := own_below (w := W.drew) HYO.out HU.out.2
          have h5 : Boxed w5 w.heap.size 37 v := (hB1.alloc _).kept hgrow (hB1.not_row (by decide) hr1)
          have hc5 := h5.cell
          have hf5 := h5.frozen
          have HE := Lib.hid hE
          clear hE hown' hgrow h5 hr1 hB1
          try (refine hK _ _ ?_)
          try (clear hK K)
          refine wpAnyIn_ready (rs := [5]) (by kernel_rfl) (by simp) ?_
          refine AllReadyIn.cons rfl (fun K hK => ?_) AllReadyIn.nil
          go_simp
          try (refine hK _ _ ?_)
          try (clear hK K)
          refine wpAnyIn_done (by kernel_rfl) ?_ _
          gi_wp2
          exact HE.out
    -- REGION ENDS
  case done =>
    rintro D xs W hD hS ⟨⟨v, S, hv, hG⟩, hKp⟩ hDD
    have hc := hv.cell
    obtain ⟨A7, c7, rfl⟩ := hG.form
    have hlen := hG.len
    rw [hS] at hG hlen
    have HB := Lib.hid (hBz.out.trans (hKp.below (by omega)))
    have HG : Hid (GOwn (W.putObj D (.deferred none)) w.heap.size (.slice A7 xs.length c7) xs.length (gr zs wd zs.length)) := by
      refine ⟨S, ?_⟩
      rw [HL.out]
      exact (hG.others (grownBy_putObj' W D (.deferred none)) (fun r e => by cases e; exact ⟨_, hDD, rfl⟩)).map fun _ _ _ _ h => own_base h (by omega)
    clear hG hlen
    gi_wp2
    refine ⟨by simp, .inl ⟨_, _, rfl, run_takeDeferred hDD, ?_⟩⟩
    exact ⟨_, results_tmp2 rfl _ _ _, groupsRes_yes HY.out rfl HG.out (HB.out.trans ((KpC.putObj (n₁ := w.heap.size + 3) (B := w.heap.size) W (.deferred none) (by omega)).below (by omega)))⟩
  case stop =>
    rintro D c pre W _ _ h _
    exact h.elim
end Go.Proofs.Ytpfbjpognmjmmaa
