/- The walk of the program's SchemeLines. -/
import Derived.Test.YtpkfpegilhadfaaMtLess
import Derived.Deep.Cut
set_option linter.unusedVariables false
namespace Go.Proofs.Ytpkfpegilhadfaa
open Go.RowKit Lk Mt

/-- what SchemeLines leaves: the lines in their order, in memory of its own -/
def LinesRes (s : List Nd) (w : World) (e : Ending) (w' : World) : Prop :=
  ∃ (A : Option Addr) (n c : Nat), e = .returned (.slice A n c) ∧ LOwn w' w.heap.size 57 (.slice A n c) n ((lines s).map lm) ∧ Below w.heap.size w w'
theorem line_info : (Try.prog.info? 57).map (fun i => (i.zero, i.size, i.bytes)) = some (some (.agg #[.int .i64 0, .int .i64 0, .int .i64 0]), 3, 24) := by kernel_rfl
theorem lines_no {s : List Nd} (h : sOk s = false) : lines s = [] := by unfold lines; rw [h]; rfl
theorem row_succ (s : List Nd) (u k : Nat) : row s u (k + 1) = row s u k ++ if allowed (gN s u) (gN s k) = true then [mkL s u k] else [] := rfl
theorem raw_succ (s : List Nd) (m : Nat) : raw s (m + 1) = raw s m ++ row s m m := rfl
theorem lm_snoc (L : List Line) (x : Line) : L.map lm ++ [lm x] = (L ++ [x]).map lm := by simp
theorem lm_snoc_len (L : List Line) (x : Line) : (L ++ [x]).length = L.length + 1 := by simp
theorem LOwn.nil (w : World) (base : Nat) (E : TypeId) : LOwn w base E (.slice none 0 0) 0 [] := ⟨rfl, OwnR.nil _ _ _ _ _⟩
/-- a node in a block of its own -/
structure Box (w : World) (B : Nat) (x : Nd) : Prop where
  lt : B < w.heap.size
  obj : w.heap[B]? = some (.cells #[.int .i64 x.e, .int .i64 x.j, .bool x.o] 63 (0, 0))
theorem Box.new (w : World) (x : Nd) : Box (w.alloc (.cells #[.int .i64 x.e, .int .i64 x.j, .bool x.o] 63)) w.heap.size x := ⟨by simp, heap_alloc_new w _⟩
theorem Box.below {w w' : World} {B : Nat} {x : Nd} (h : Box w B x) (hb : Below w.heap.size w w') : Box w' B x := ⟨Nat.lt_of_lt_of_le h.lt hb.size, (hb.block B h.lt).trans h.obj⟩
theorem Box.grown {w w' : World} {B : Nat} {x : Nd} {base size n : Nat} {v : Value} {xs : List Value} (h : Box w B x) (ho : w.ownsRow base 57 size v n xs) (hg : w.grownBy w' v.ownBlock) : Box w' B x := by
  refine ⟨Nat.lt_of_lt_of_le h.lt hg.size, (hg.block B h.lt (fun e => ?_)).trans h.obj⟩
  rcases ho.2 with ⟨rfl, _⟩ | ⟨g, cap, cur, rfl, _, hh, _⟩
  · cases e
  · injection e with e
    rw [show g = B from e.symm, h.obj] at hh
    injection hh with hh
    injection hh with _ ht
    revert ht; decide
theorem Box.cells {w : World} {B : Nat} {x : Nd} (h : Box w B x) : w.cell? ⟨B, 0, none⟩ = some (.int .i64 x.e) ∧ w.cell? ⟨B, 1, none⟩ = some (.int .i64 x.j) ∧ w.cell? ⟨B, 2, none⟩ = some (.bool x.o) := by
  refine ⟨?_, ?_, ?_⟩ <;> (rw [cell_of_row _ _ _ _ _ _ h.obj]; rfl)
def ORel (n : Nat) (s : List Nd) (w : World) (l i : Value) (wr : World) : Prop :=
  ∃ (k : Nat) (L : List Line) (A' : Option Addr) (c' : Nat), k ≤ n ∧ i = .int .i64 k ∧ l = .slice A' L.length c' ∧ Hid (L = raw s k) ∧ LOwn wr w.heap.size 57 (.slice A' L.length c') L.length (L.map lm) ∧ L.length ≤ 12 * k ∧ Below w.heap.size w wr
def IRel (k : Nat) (s : List Nd) (w : World) (B : Nat) (X : Nd) (l i : Value) (wr : World) : Prop :=
  ∃ (j : Nat) (M : List Line) (A2 : Option Addr) (c2 : Nat), j ≤ k ∧ i = .int .i64 j ∧ l = .slice A2 M.length c2 ∧ Hid (M = raw s k ++ row s k j) ∧ LOwn wr w.heap.size 57 (.slice A2 M.length c2) M.length (M.map lm) ∧ M.length ≤ 12 * k + j ∧ Below w.heap.size w wr ∧ Box wr B X
set_option maxRecDepth 100000 in
set_option maxHeartbeats 8000000 in
theorem iSchemeLines_any (A : Option Addr) (n c : Nat) (s : List Nd) (w : World) (h : NSl w w.heap.size A n c s) :
    Calls Try.prog 14 #[.slice A n c] w (LinesRes s w) := by
  obtain ⟨i0, hi, hz0, hz1, hz2⟩ := info_parts line_info
  have HL := Lib.hid h.len
  have hcap := h.cap
  go_enter Try.func14, Try.ntmps14
  go_wp2_with fail
  refine (iSchemeValid_any _ _ _ s _ h).mono ?_
  rintro e w1 ⟨rfl, hb1⟩
  rcases hv : sOk s with _ | _
  · have HV := Lib.hid hv
    go_wp2
    go_ret
    exact ⟨_, _, _, rfl, by rw [lines_no HV.out]; exact LOwn.nil _ _ _, hb1⟩
  have HV := Lib.hid hv
  have hn12 : n ≤ 12 := by have := sOk_bd hv; rw [HL.out] at this; omega
  have HNO : Hid (∀ i, i < n → nOk s i) := fun i hi => sOk_at HV.out (by rw [HL.out]; exact hi)
  clear hv
  go_wp2
  go_loopw [3, 13] (fun l i wr => ORel n s w l i wr) (fun _ i _ => n - (intOf i).toNat)
  case atStart => exact ⟨0, [], none, 0, Nat.zero_le _, rfl, rfl, rfl, LOwn.nil _ _ _, Nat.le_refl _, hb1⟩
  case round =>
    generalize wr = wo at hrel ⊢
    obtain ⟨k, L, A', c', hk, rfl, rfl, hL, hown, hlen, hb⟩ := hrel
    by_cases hlt : k < n
    · obtain ⟨b, off, rfl, hbB, hkz, hc⟩ := h.at_ hlt
      have HC := Lib.hid hc
      obtain ⟨q1, q2, q3⟩ := hc k hlt
      have p1 := (bcell hb _ _ hbB).trans q1
      have p2 := (bcell hb _ _ hbB).trans q2
      have p3 := (bcell hb _ _ hbB).trans q3
      have hok := HNO.out k hlt
      have HOK := Lib.hid hok
      clear q1 q2 q3 hc hok
      obtain ⟨X, hX⟩ : ∃ X, gN s k = X := ⟨_, rfl⟩
      rw [hX] at p1 p2 p3
      obtain ⟨xe, xj, xo⟩ := X
      dsimp only at p1 p2 p3
      have HX := Lib.hid hX
      clear hX
      have HBX := Lib.hid (Box.new wo ⟨xe, xj, xo⟩)
      have hbx : Below w.heap.size w (wo.alloc (.cells #[.int .i64 xe, .int .i64 xj, .bool xo] 63)) := hb.alloc hb.size _
      have hox : LOwn (wo.alloc (.cells #[.int .i64 xe, .int .i64 xj, .bool xo] 63)) w.heap.size 57 (.slice A' L.length c') L.length (L.map lm) := hown.alloc _
      clear hown hb
      go_wp2
      go_loopw [3, 22] (fun l i wr => IRel k s w wo.heap.size ⟨xe, xj, xo⟩ l i wr) (fun _ i _ => k - (intOf i).toNat)
      case atStart => exact ⟨0, L, A', c', Nat.zero_le _, rfl, rfl, (by show _ = _; rw [hL.out]; simp [row]), hox, hlen, hbx, HBX.out⟩
      case round =>
        obtain ⟨j, M, A2, c2, hj, rfl, rfl, hM, hown, hlen2, hb, hbox⟩ := hrel
        clear hox hbx
        by_cases hjk : j < k
        · obtain ⟨q1, q2, q3⟩ := HC.out j (by omega)
          have p4 := (bcell hb _ _ hbB).trans q1
          have p5 := (bcell hb _ _ hbB).trans q2
          have p6 := (bcell hb _ _ hbB).trans q3
          obtain ⟨Y, hY⟩ : ∃ Y, gN s j = Y := ⟨_, rfl⟩
          rw [hY] at p4 p5 p6
          obtain ⟨ye, yj, yo⟩ := Y
          dsimp only at p4 p5 p6
          have HY := Lib.hid hY
          have hokj := HNO.out j (by omega)
          have hokk := HNO.out k hlt
          unfold nOk at hokj hokk
          rw [HX.out] at hokk
          rw [hY] at hokj
          dsimp only at hokj hokk
          clear hY q1 q2 q3
          have hXj : 0 ≤ xj ∧ xj ≤ 24 := by omega
          have hYj : 0 ≤ yj ∧ yj ≤ 24 := by omega
          have hXe : 0 ≤ xe ∧ xe ≤ 200000 := by omega
          have hYe : 0 ≤ ye ∧ ye ≤ 200000 := by omega
          obtain ⟨x1, x2⟩ := hXj
          obtain ⟨x3, x4⟩ := hYj
          obtain ⟨x5, x6⟩ := hXe
          obtain ⟨x7, x8⟩ := hYe
          clear hokj hokk
          have hbx2 : ∀ o, Box (wr.alloc o) wo.heap.size ⟨xe, xj, xo⟩ := fun o => hbox.below ((Below.refl _ _).alloc (Nat.le_refl _) o)
          have HBX2 := Lib.hid hbx2
          have d4 : ∀ o : Obj, (wr.alloc o).cell? ⟨wo.heap.size, 0, none⟩ = some (.int .i64 xe) := fun o => (HBX2.out o).cells.1
          have d5 : ∀ o : Obj, (wr.alloc o).cell? ⟨wo.heap.size, 1, none⟩ = some (.int .i64 xj) := fun o => (HBX2.out o).cells.2.1
          have d6 : ∀ o : Obj, (wr.alloc o).cell? ⟨wo.heap.size, 2, none⟩ = some (.bool xo) := fun o => (HBX2.out o).cells.2.2
          have hlt5 := hbox.lt
          have hrow1 : Hid (allowed ⟨xe, xj, xo⟩ ⟨ye, yj, yo⟩ = false → M = raw s k ++ row s k (j + 1)) := fun ha => by rw [hM.out, row_succ, HX.out, HY.out, ha]; simp
          have hrow2 : Hid (allowed ⟨xe, xj, xo⟩ ⟨ye, yj, yo⟩ = true → M ++ [⟨k, j, xe - ye⟩] = raw s k ++ row s k (j + 1)) := fun ha => by rw [hM.out, row_succ]; unfold mkL; rw [HX.out, HY.out, ha]; simp
          clear hcap
          by_cases ho : xo = yo
          · have hne : (xo != yo) = false := by simpa using ho
            have hne2 : (xo == yo) = true := by simpa using ho
            have ha : allowed ⟨xe, xj, xo⟩ ⟨ye, yj, yo⟩ = false := by rw [allowed_near]; simp [ho]
            have hR := Lib.hid (hrow1.out ha)
            have hend : ∀ o, LOwn (wr.alloc o) w.heap.size 57 (.slice A2 M.length c2) M.length (M.map lm) ∧ Below w.heap.size w (wr.alloc o) := fun o => ⟨hown.alloc o, hb.alloc hb.size o⟩
            have HEND := Lib.hid hend
            clear ho ha hend hown hb hbox hbx2
            go_wp2
            go_roundw
            case rel => exact ⟨j + 1, M, A2, c2, by omega, by go_num, rfl, hR.out, (HEND.out _).1, by omega, (HEND.out _).2, HBX2.out _⟩
            case measure => simp [intOf]; omega
          have hne : (xo != yo) = true := by simpa using ho
          have hne2 : (xo == yo) = false := by simpa using ho
          have HO := Lib.hid ho
          clear ho
          have hcall := fun W => stepsBy_any xj yj W x1 x2 x3 x4
          rcases hnj : nearJ xj yj with _ | _
          · simp only [hnj] at hcall
            have ha : allowed ⟨xe, xj, xo⟩ ⟨ye, yj, yo⟩ = false := by rw [allowed_near, hnj]; simp
            have hR := Lib.hid (hrow1.out ha)
            have hend : ∀ o, LOwn (wr.alloc o) w.heap.size 57 (.slice A2 M.length c2) M.length (M.map lm) ∧ Below w.heap.size w (wr.alloc o) := fun o => ⟨hown.alloc o, hb.alloc hb.size o⟩
            have HEND := Lib.hid hend
            clear ha hend hown hb hbox hbx2 hnj
            go_wp2_with (go_at_call 42; refine (hcall _).mono ?_; rintro e w' ⟨rfl, rfl⟩)
            go_roundw
            case rel => exact ⟨j + 1, M, A2, c2, by omega, by go_num, rfl, hR.out, (HEND.out _).1, by omega, (HEND.out _).2, HBX2.out _⟩
            case measure => simp [intOf]; omega
          · simp only [hnj] at hcall
            have ha : allowed ⟨xe, xj, xo⟩ ⟨ye, yj, yo⟩ = true := by rw [allowed_near, hnj]; simp [HO.out]
            have hR := Lib.hid (hrow2.out ha)
            obtain ⟨xs, hxo, hxx⟩ := hown.row
            have HXX := Lib.hid hxx
            have HXL := Lib.hid hxo.1
            have hsz := hb.size
            have u1 : IntKind.i64.wrap (xe - ye) = xe - ye := IntWalk.i64_in _ (by omega)
            clear ha hnj hxx hbx2 hbox hown
            go_upto_region 11 with (go_at_call 42; refine (hcall _).mono ?_; rintro e w' ⟨rfl, rfl⟩)
            go_wp2_with (at_builtin; refine wpList_append_own _ rfl _ _ 30 rfl w.heap.size 57 i0 _ 3 24 Try.underlying30 hi hz0 hz1 hz2 rfl (by decide) _ _ _ rfl ((hxo.alloc _).alloc _) ⟨wr.heap.size + 1, 0, none⟩ 1 1 [.int .i64 k, .int .i64 j, .int .i64 (xe - ye)] rfl rfl ?c1 ?c2 ?c3 ?c4 ?c5 ?_)
            case c1 => exact cell3_new _ _ _ _ _ (by simp)
            case c2 => intro u hu; simp at hu; rcases hu with rfl | rfl | rfl <;> rfl
            case c3 => unfold maxLen; omega
            case c4 => omega
            case c5 => simp; omega
            intro v' w5 hown' hgrow _
            have hb5 : Below w.heap.size w w5 := ((hb.alloc hsz _).alloc (by simp; omega) _).grown hgrow (by simp; omega) (fun q hq => (hxo.lt q hq).1)
            have hbox5 : Box w5 wo.heap.size ⟨xe, xj, xo⟩ := ((HBX2.out _).below ((Below.refl _ _).alloc (Nat.le_refl _) _)).grown ((hxo.alloc _).alloc _) hgrow
            obtain ⟨A5, c5, rfl⟩ := own_form hown'
            have hL5 := LOwn.snoc (l := lm ⟨k, j, xe - ye⟩) HXX.out (by simp) HXL.out hown'
            rw [lm_snoc, ← lm_snoc_len M ⟨k, j, xe - ye⟩] at hL5
            have HL5 := Lib.hid hL5
            have hln : (M ++ [(⟨k, j, xe - ye⟩ : Line)]).length = M.length + 1 := lm_snoc_len _ _
            have HLN := Lib.hid hln
            clear hL5 hown' hgrow hxo hb hln hcall d4 d5 d6 u1
            go_wp2
            go_roundw
            case rel => exact ⟨j + 1, _, A5, c5, by omega, by go_num, by rw [HLN.out], hR.out, HL5.out, by rw [HLN.out]; omega, hb5, hbox5⟩
            case measure => simp [intOf]; omega
        · obtain rfl : j = k := by omega
          have hr : Hid (M = raw s (j + 1)) := by show _ = _; rw [hM.out, raw_succ]
          have hO := Lib.hid (And.intro hown hb)
          clear hown hb hbox
          go_wp2
          go_roundw
          case rel => exact ⟨j + 1, M, A2, c2, by omega, by go_num, rfl, hr.out, hO.out.1, by omega, hO.out.2⟩
          case measure => simp [intOf]; omega
    · obtain rfl : k = n := by omega
      have HLN : Hid (lines s = puts L) := by show _ = _; unfold lines; rw [HV.out, hL.out, HL.out]; rfl
      have hL144 : L.length ≤ 144 := by omega
      rcases Nat.eq_zero_or_pos L.length with h0 | h0
      · have hL0 : L = [] := List.eq_nil_of_length_eq_zero h0
        subst hL0
        have HO := Lib.hid (And.intro hown hb)
        clear hown hb
        go_wp2_with (go_at_call 43; refine (sort_none _ _ _).mono ?_; rintro e w' ⟨rfl, rfl⟩)
        go_ret
        exact ⟨_, _, _, rfl, by rw [HLN.out]; exact HO.out.1, HO.out.2⟩
      · obtain ⟨g, rfl, hg1, hg2⟩ := hown.at_ h0
        have hcon := sort_any w.heap.size g L.length c' L wo hown (by omega)
        have hbs := hb.size
        have HB := Lib.hid hb
        clear hown hb
        go_wp2_with (go_at_call 43; refine hcon.mono ?_; rintro e w5 ⟨rfl, hown5, hgrow⟩)
        have HO := Lib.hid (And.intro hown5 hgrow)
        clear hown5 hgrow hcon
        go_wp2
        go_ret
        exact ⟨_, _, _, rfl, by rw [HLN.out]; exact HO.out.1, HB.out.grown HO.out.2 hbs (fun q e => by injection e; omega)⟩
end Go.Proofs.Ytpkfpegilhadfaa
