/- The walk of the reference's l31Put: a line put at its place. -/
import Derived.Test.YtpkfpegilhadfaaMtLinesI
import Derived.Test.YtpkfpegilhadfaaLkAny
set_option linter.unusedVariables false
namespace Go.Proofs.Ytpkfpegilhadfaa
open Go.RowKit Lk Mt

theorem line_lit1 (w : World) (E : TypeId) (l : Link) (hl : InL l) : LSl (w.alloc (.cells #[.int .i64 l.f, .int .i64 l.t, .int .i64 l.d] E)) (w.heap.size + 1) (some ⟨w.heap.size, 0, none⟩) 1 1 [l] := by
  obtain ⟨h1, h2, h3⟩ := three_new w (.int .i64 l.f) (.int .i64 l.t) (.int .i64 l.d) E
  refine ⟨rfl, fun x hx => by rw [List.mem_singleton.1 hx]; exact hl, ⟨Nat.le_refl _, fun _ => ⟨w.heap.size, 0, rfl, by omega, fun i j hi hj => ?_⟩⟩, by unfold maxLen; omega⟩
  obtain rfl : i = 0 := by omega
  match j, hj with
  | 0, _ => exact h1
  | 1, _ => exact h2
  | 2, _ => exact h3
theorem add_spot (b off k : Nat) : (⟨b, off, none⟩ : Addr).add k = ⟨b, off + k, none⟩ := by unfold Addr.add; split <;> simp_all
theorem spot_step {L : List Line} {x : Line} {k : Nat} (hk : 0 < k) (h : Mt.ahead x (gX L (k - 1)) = true) : spot L x k = spot L x (k - 1) := by
  obtain ⟨k, rfl⟩ : ∃ q, k = q + 1 := ⟨k - 1, by omega⟩
  rw [Nat.add_sub_cancel] at *
  show (if Mt.ahead x (gX L k) = true then spot L x k else k + 1) = _
  rw [if_pos h]
theorem spot_stop {L : List Line} {x : Line} {k : Nat} (hk : 0 < k) (h : Mt.ahead x (gX L (k - 1)) = false) : spot L x k = k := by
  obtain ⟨k, rfl⟩ : ∃ q, k = q + 1 := ⟨k - 1, by omega⟩
  rw [Nat.add_sub_cancel] at h
  show (if Mt.ahead x (gX L k) = true then spot L x k else k + 1) = _
  rw [h]; simp
theorem put_len {L : List Line} {x : Line} : (put L x).length = L.length + 1 := by rw [(put_perm L x).length_eq]; simp
theorem put_at {L : List Line} {x : Line} {k : Nat} (h : spot L x L.length = k) : put L x = L.take k ++ [x] ++ L.drop k := by unfold put; rw [h]; simp
/-- what l31Put leaves -/
def PutRes (L : List Line) (x : Line) (n : Nat) (w : World) (e : Ending) (w' : World) : Prop :=
  ∃ (A : Option Addr) (c : Nat), e = .returned (.slice A (n + 1) c) ∧ LOwn w' w.heap.size 57 (.slice A (n + 1) c) (n + 1) ((put L x).map lm) ∧ Below w.heap.size w w'
def PRel (n : Nat) (L : List Line) (x : Line) (W w1 : World) (i : Value) (wr : World) : Prop :=
  ∃ k : Nat, k ≤ n ∧ i = .int .i64 k ∧ Hid (spot L x n = spot L x k) ∧ Below (W.heap.size + 1) w1 wr
set_option maxRecDepth 100000 in
set_option maxHeartbeats 8000000 in
theorem l31Put_any (A : Option Addr) (n c : Nat) (L : List Line) (x : Line) (w : World) (h : LSl w w.heap.size A n c (L.map lm)) (hn : n ≤ 900) (hx : InL (lm x)) :
    Calls Try.prog 57 #[.slice A n c, .agg #[.int .i64 x.u, .int .i64 x.l, .int .i64 x.n]] w (PutRes L x n w) := by
  obtain ⟨i0, hi, hz0, hz1, hz2⟩ := info_parts line_info
  have HL : Hid (L.length = n) := by show _ = _; have := h.len; simpa using this
  have hcap := h.cap
  have hcall := fun (y : Line) W => l31Ahead_any x y W
  obtain ⟨x1, x2, x3⟩ := x
  dsimp only at *
  go_enter Try.func57, Try.ntmps57
  go_wp2
  go_loopw [5] (fun i wr => PRel n L ⟨x1, x2, x3⟩ w (w.alloc (.cells #[.int .i64 x1, .int .i64 x2, .int .i64 x3] 57)) i wr) (fun i _ => (intOf i).toNat)
  case atStart => exact ⟨n, Nat.le_refl _, rfl, rfl, Below.refl _ _⟩
  case round =>
    obtain ⟨k, hk, rfl, hsp, hb⟩ := hrel
    obtain ⟨b1, b2, b3⟩ := three_new w (.int .i64 x1) (.int .i64 x2) (.int .i64 x3) 57
    have hs1 : w.heap.size + 1 ≤ (w.alloc (.cells #[.int .i64 x1, .int .i64 x2, .int .i64 x3] 57)).heap.size := by simp
    have hba0 : Below w.heap.size w (w.alloc (.cells #[.int .i64 x1, .int .i64 x2, .int .i64 x3] 57)) := (Below.refl _ _).alloc (Nat.le_refl _) _
    have e1 : ∀ g : Gw (w.heap.size + 1) (w.alloc (.cells #[.int .i64 x1, .int .i64 x2, .int .i64 x3] 57)), g.W.cell? ⟨w.heap.size, 0, none⟩ = some (.int .i64 x1) := fun g => g.cell (by omega) b1
    have e2 : ∀ g : Gw (w.heap.size + 1) (w.alloc (.cells #[.int .i64 x1, .int .i64 x2, .int .i64 x3] 57)), g.W.cell? ⟨w.heap.size, 1, none⟩ = some (.int .i64 x2) := fun g => g.cell (by omega) b2
    have e3 : ∀ g : Gw (w.heap.size + 1) (w.alloc (.cells #[.int .i64 x1, .int .i64 x2, .int .i64 x3] 57)), g.W.cell? ⟨w.heap.size, 2, none⟩ = some (.int .i64 x3) := fun g => g.cell (by omega) b3
    go_upto_region 2 with (fail)
    by_cases hk0 : k = 0
    · have g0 : decide ((0 : Int) < (k : Int)) = false := by simp; omega
      have g0n : decide (0 < k) = false := by simp; omega
      have HSP : Hid (spot L ⟨x1, x2, x3⟩ n = k) := by show _ = _; rw [hsp.out, hk0]; rfl
      clear hk0 hcall
      have hnonempty := Gw.ne hs1 hb
      refine wp_region_gw hs1 hb (by kernel_rfl) (by kernel_rfl) ?_
      repeat (go_big_quiet_step ((fail)))
      refine wpQuiet_nil ?_
      intro wq hw'
      have hq := Gw.out hw'
      clear hw' hnonempty
      clear g0 g0n hs1 hb
      have hba : Below w.heap.size w wq := ((Below.refl _ _).alloc (Nat.le_refl _) _).trans (hq.mono (by omega))
      have hsz0 := hq.size
      have hcut : LSl (wq.alloc (.cells #[] 57)) w.heap.size A k c ((L.take k).map lm) := by have := (h.below (hba.alloc hba.size (.cells #[] 57))).cut hk; rwa [← List.map_take] at this
      have HCUT := Lib.hid hcut
      have HTL := Lib.hid (LSl.tail (h.below hba) hk)
      have f1 := (bcell hq _ _ (Nat.lt_succ_self _)).trans b1
      have f2 := (bcell hq _ _ (Nat.lt_succ_self _)).trans b2
      have f3 := (bcell hq _ _ (Nat.lt_succ_self _)).trans b3
      have HO3 := Lib.hid (own_lit3 wq 57)
      clear hcut e1 e2 e3
      have hszq : w.heap.size < wq.heap.size := by simp at hsz0; omega
      go_upto_region 5 with (at_builtin; refine list_links rfl _ _ _ _ rfl wq.heap.size 57 i0 _ Try.underlying30 hi hz0 hz1 hz2 rfl (.slice (some ⟨wq.heap.size, 0, none⟩) 0 0) 0 [] rfl HO3.out w.heap.size A k c ((L.take k).map lm) rfl HCUT.out k ((L.take k).map lm) (by omega) rfl (by omega) (by simp) ?_; intro va wa hva hga; obtain ⟨Aa, ca, rfl⟩ := own_form hva)
      have hbA : Below wq.heap.size wq wa := ((Below.refl _ _).alloc (Nat.le_refl _) _).grown hga (by simp) (by intro g e; simp [Value.ownBlock] at e; omega)
      replace f1 := (bcell hbA _ _ hszq).trans f1
      replace f2 := (bcell hbA _ _ hszq).trans f2
      replace f3 := (bcell hbA _ _ hszq).trans f3
      have HLIT := Lib.hid (line_lit1 wa 57 (lm ⟨x1, x2, x3⟩) hx)
      have hszA := hbA.size
      clear hga
      go_upto_region 6 with (at_builtin; refine list_links rfl _ _ _ _ rfl wq.heap.size 57 i0 _ Try.underlying30 hi hz0 hz1 hz2 rfl (.slice Aa k ca) k ((L.take k).map lm) rfl (hva.alloc _) _ _ 1 1 [lm ⟨x1, x2, x3⟩] rfl HLIT.out (k + 1) ((L.take k).map lm ++ [lm ⟨x1, x2, x3⟩]) (by omega) rfl (by omega) (by simp; omega) ?_; intro vb wb hvb hgb; obtain ⟨Ab, cb, rfl⟩ := own_form hvb)
      have hbB : Below wq.heap.size wq wb := (hbA.alloc hszA _).grown hgb (by simp; omega) (fun q hq => (hva.lt q hq).1)
      have HTB := Lib.hid (HTL.out.below (hbB.mono hba.size))
      clear hgb hva f1 f2 f3
      go_wp2_with (at_builtin; refine list_links rfl _ _ _ _ rfl wq.heap.size 57 i0 _ Try.underlying30 hi hz0 hz1 hz2 rfl (.slice Ab (k + 1) cb) (k + 1) ((L.take k).map lm ++ [lm ⟨x1, x2, x3⟩]) rfl hvb w.heap.size _ (n - k) _ ((L.map lm).drop k) rfl HTB.out (n + 1) ((L.take k).map lm ++ [lm ⟨x1, x2, x3⟩] ++ (L.map lm).drop k) (by omega) rfl (by omega) hbB.size ?_; intro vc wc hvc hgc; obtain ⟨Ac, cc, rfl⟩ := own_form hvc)
      all_goals
        have HEND : Hid (LOwn wc w.heap.size 57 (.slice Ac (n + 1) cc) (n + 1) ((put L ⟨x1, x2, x3⟩).map lm) ∧ Below w.heap.size w wc) := by
          refine ⟨?_, hba.trans ((hbB.grown hgc hbB.size (fun q hq => (hvb.lt q hq).1)).mono hba.size)⟩
          have he : (L.take k).map lm ++ [lm ⟨x1, x2, x3⟩] ++ (L.map lm).drop k = (put L ⟨x1, x2, x3⟩).map lm := by
            rw [put_at (k := k) (by rw [HL.out]; exact HSP.out)]; simp
          rw [he] at hvc
          exact (LOwn.of_cells hvc).base_ hba.size
        clear hvc hgc hvb hbB hbA hba
        go_ret
        exact ⟨_, _, rfl, HEND.out.1, HEND.out.2⟩
    have g0 : decide ((0 : Int) < (k : Int)) = true := by simp; omega
    have g0n : decide (0 < k) = true := by simp; omega
    have hkp : 0 < k := by omega
    obtain ⟨b, off, rfl, hbB, hkz, hc⟩ := h.at_ (k := k - 1) (by omega)
    obtain ⟨q1, q2, q3⟩ := hc (k - 1) (by omega)
    rw [gL_lm] at q1 q2 q3
    obtain ⟨Y, hY⟩ : ∃ Y, gX L (k - 1) = Y := ⟨_, rfl⟩
    have HY := Lib.hid hY
    rw [hY] at q1 q2 q3
    clear hc hY
    obtain ⟨y1, y2, y3⟩ := Y
    unfold lm at q1 q2 q3
    dsimp only at q1 q2 q3
    have hbB1 : b < w.heap.size + 1 := by omega
    have p1 : ∀ g : Gw (w.heap.size + 1) (w.alloc (.cells #[.int .i64 x1, .int .i64 x2, .int .i64 x3] 57)), g.W.cell? ⟨b, off + (k - 1) * 3, none⟩ = some (.int .i64 y1) := fun g => g.cell hbB1 ((bcell hba0 _ _ hbB).trans q1)
    have p2 : ∀ g : Gw (w.heap.size + 1) (w.alloc (.cells #[.int .i64 x1, .int .i64 x2, .int .i64 x3] 57)), g.W.cell? ⟨b, off + (k - 1) * 3 + 1, none⟩ = some (.int .i64 y2) := fun g => g.cell hbB1 ((bcell hba0 _ _ hbB).trans q2)
    have p3 : ∀ g : Gw (w.heap.size + 1) (w.alloc (.cells #[.int .i64 x1, .int .i64 x2, .int .i64 x3] 57)), g.W.cell? ⟨b, off + (k - 1) * 3 + 2, none⟩ = some (.int .i64 y3) := fun g => g.cell hbB1 ((bcell hba0 _ _ hbB).trans q3)
    have u1 : IntKind.i64.wrap ((k : Int) - 1) = (k : Int) - 1 := IntWalk.i64_in _ (by omega)
    have u2 : ((k : Int) - 1).toNat = k - 1 := by omega
    have u3 : (0 : Int) ≤ (k : Int) - 1 := by omega
    have u4 : (k : Int) - 1 < (n : Int) := by omega
    have hcl := hcall ⟨y1, y2, y3⟩
    dsimp only at hcl
    clear q1 q2 q3 hcall
    rcases hA : Mt.ahead ⟨x1, x2, x3⟩ ⟨y1, y2, y3⟩ with _ | _
    · simp only [hA] at hcl
      have HSP : Hid (spot L ⟨x1, x2, x3⟩ n = k) := by show _ = _; rw [hsp.out]; exact spot_stop hkp (by rw [HY.out]; exact hA)
      clear hA hk0
      have hnonempty := Gw.ne hs1 hb
      refine wp_region_gw hs1 hb (by kernel_rfl) (by kernel_rfl) ?_
      repeat (go_big_quiet_step ((go_at_call 77; exact Gw.of (hcl _))))
      refine wpQuiet_nil ?_
      intro wq hw'
      have hq := Gw.out hw'
      clear hw' hnonempty
      clear g0 g0n hs1 hb p1 p2 p3 u1 u2 u3 u4 hcl
      have hba : Below w.heap.size w wq := ((Below.refl _ _).alloc (Nat.le_refl _) _).trans (hq.mono (by omega))
      have hsz0 := hq.size
      have hcut : LSl (wq.alloc (.cells #[] 57)) w.heap.size (some ⟨b, off, none⟩) k c ((L.take k).map lm) := by have := (h.below (hba.alloc hba.size (.cells #[] 57))).cut hk; rwa [← List.map_take] at this
      have HCUT := Lib.hid hcut
      have htl := LSl.tail (h.below hba) hk
      rw [Option.map_some, add_spot] at htl
      have HTL := Lib.hid htl
      clear htl
      have f1 := (bcell hq _ _ (Nat.lt_succ_self _)).trans b1
      have f2 := (bcell hq _ _ (Nat.lt_succ_self _)).trans b2
      have f3 := (bcell hq _ _ (Nat.lt_succ_self _)).trans b3
      have HO3 := Lib.hid (own_lit3 wq 57)
      clear hcut e1 e2 e3
      have hszq : w.heap.size < wq.heap.size := by simp at hsz0; omega
      go_upto_region 5 with (at_builtin; refine list_links rfl _ _ _ _ rfl wq.heap.size 57 i0 _ Try.underlying30 hi hz0 hz1 hz2 rfl (.slice (some ⟨wq.heap.size, 0, none⟩) 0 0) 0 [] rfl HO3.out w.heap.size (some ⟨b, off, none⟩) k c ((L.take k).map lm) rfl HCUT.out k ((L.take k).map lm) (by omega) rfl (by omega) (by simp) ?_; intro va wa hva hga; obtain ⟨Aa, ca, rfl⟩ := own_form hva)
      have hbA : Below wq.heap.size wq wa := ((Below.refl _ _).alloc (Nat.le_refl _) _).grown hga (by simp) (by intro g e; simp [Value.ownBlock] at e; omega)
      replace f1 := (bcell hbA _ _ hszq).trans f1
      replace f2 := (bcell hbA _ _ hszq).trans f2
      replace f3 := (bcell hbA _ _ hszq).trans f3
      have HLIT := Lib.hid (line_lit1 wa 57 (lm ⟨x1, x2, x3⟩) hx)
      have hszA := hbA.size
      clear hga
      go_upto_region 6 with (at_builtin; refine list_links rfl _ _ _ _ rfl wq.heap.size 57 i0 _ Try.underlying30 hi hz0 hz1 hz2 rfl (.slice Aa k ca) k ((L.take k).map lm) rfl (hva.alloc _) _ _ 1 1 [lm ⟨x1, x2, x3⟩] rfl HLIT.out (k + 1) ((L.take k).map lm ++ [lm ⟨x1, x2, x3⟩]) (by omega) rfl (by omega) (by simp; omega) ?_; intro vb wb hvb hgb; obtain ⟨Ab, cb, rfl⟩ := own_form hvb)
      have hbB : Below wq.heap.size wq wb := (hbA.alloc hszA _).grown hgb (by simp; omega) (fun q hq => (hva.lt q hq).1)
      have HTB := Lib.hid (HTL.out.below (hbB.mono hba.size))
      clear hgb hva f1 f2 f3
      go_wp2_with (at_builtin; refine list_links rfl _ _ _ _ rfl wq.heap.size 57 i0 _ Try.underlying30 hi hz0 hz1 hz2 rfl (.slice Ab (k + 1) cb) (k + 1) ((L.take k).map lm ++ [lm ⟨x1, x2, x3⟩]) rfl hvb w.heap.size _ (n - k) _ ((L.map lm).drop k) rfl HTB.out (n + 1) ((L.take k).map lm ++ [lm ⟨x1, x2, x3⟩] ++ (L.map lm).drop k) (by omega) rfl (by omega) hbB.size ?_; intro vc wc hvc hgc; obtain ⟨Ac, cc, rfl⟩ := own_form hvc)
      all_goals
        have HEND : Hid (LOwn wc w.heap.size 57 (.slice Ac (n + 1) cc) (n + 1) ((put L ⟨x1, x2, x3⟩).map lm) ∧ Below w.heap.size w wc) := by
          refine ⟨?_, hba.trans ((hbB.grown hgc hbB.size (fun q hq => (hvb.lt q hq).1)).mono hba.size)⟩
          have he : (L.take k).map lm ++ [lm ⟨x1, x2, x3⟩] ++ (L.map lm).drop k = (put L ⟨x1, x2, x3⟩).map lm := by
            rw [put_at (k := k) (by rw [HL.out]; exact HSP.out)]; simp
          rw [he] at hvc
          exact (LOwn.of_cells hvc).base_ hba.size
        clear hvc hgc hvb hbB hbA hba
        go_ret
        exact ⟨_, _, rfl, HEND.out.1, HEND.out.2⟩
    · simp only [hA] at hcl
      have HSP : Hid (spot L ⟨x1, x2, x3⟩ n = spot L ⟨x1, x2, x3⟩ (k - 1)) := by show _ = _; rw [hsp.out]; exact spot_step hkp (by rw [HY.out]; exact hA)
      clear hA hk0
      have hnonempty := Gw.ne hs1 hb
      refine wp_region_gw hs1 hb (by kernel_rfl) (by kernel_rfl) ?_
      repeat (go_big_quiet_step ((go_at_call 77; exact Gw.of (hcl _))))
      refine wpQuiet_nil ?_
      intro wq hw'
      have hq := Gw.out hw'
      clear hw' hnonempty
      have HQ := Lib.hid hq
      clear g0 g0n hs1 hb p1 p2 p3 u1 u2 u3 u4 hcl hq e1 e2 e3
      go_wp2
      go_roundw
      case rel => exact ⟨k - 1, by omega, by go_num, HSP.out, HQ.out⟩
      case measure => simp [intOf]; omega
end Go.Proofs.Ytpkfpegilhadfaa
