/- The walk of the law FnGap. -/
import Derived.Test.YtaefojbgialiaaaLkDraw2
import Derived.Test.YtaefojbgialiaaaLkGap
set_option linter.unusedVariables false
namespace Go.Proofs.Ytaefojbgialiaaa
open Go.RowKit Lk

/-- all energies one higher -/
def up1 (es : List Int) : List Int := es.map (· + 1)
theorem up1_len (es : List Int) : (up1 es).length = es.length := by simp [up1]
theorem up1_at {es : List Int} {i : Nat} (h : i < es.length) : gI (up1 es) i = gI es i + 1 := by simp [gI, up1, h]
theorem up1_take {es : List Int} {k : Nat} (h : k < es.length) : (up1 es).take k ++ [gI es k + 1] = (up1 es).take (k + 1) := by
  rw [take_snoc (by rw [up1_len]; exact h), up1_at h]
theorem gap_up1 {ls : List Link} {es : List Int} (h : ∀ l ∈ ls, In es.length l) : gapF ls (up1 es) = gapF ls es := by
  have : ∀ k, k ≤ ls.length → gp ls (up1 es) k = gp ls es k := fun k hk => by
    induction k with
    | zero => rfl
    | succ k ih =>
      have hin := h _ (gL_mem (show k < ls.length by omega))
      have e : offL (up1 es) (gL ls k) = offL es (gL ls k) := by unfold offL; rw [up1_at hin.1, up1_at hin.2]; omega
      unfold gp
      rw [ih (by omega), e]
  exact this _ (Nat.le_refl _)

theorem fnd_true {ls : List Link} {es : List Int} {m j : Nat} {out : Int} (h : m ≤ 0 ∨ ∃ i, i < j ∧ ((offL es (gL ls i)).natAbs : Int) = out) : true = true ↔ (m ≤ 0 ∨ ∃ i, i < j + 1 ∧ ((offL es (gL ls i)).natAbs : Int) = out) :=
  ⟨fun _ => by
    rcases h with h | ⟨i, h1, h2⟩
    · exact .inl h
    · exact .inr ⟨i, by omega, h2⟩, fun _ => rfl⟩
theorem fnd_here {ls : List Link} {es : List Int} {m j : Nat} {out : Int} (h : ((offL es (gL ls j)).natAbs : Int) = out) : true = true ↔ (m ≤ 0 ∨ ∃ i, i < j + 1 ∧ ((offL es (gL ls i)).natAbs : Int) = out) :=
  ⟨fun _ => .inr ⟨j, by omega, h⟩, fun _ => rfl⟩
theorem fnd_no {ls : List Link} {es : List Int} {m j : Nat} {out : Int} (h : ¬ (m ≤ 0 ∨ ∃ i, i < j ∧ ((offL es (gL ls i)).natAbs : Int) = out)) (h2 : ¬ ((offL es (gL ls j)).natAbs : Int) = out) : false = true ↔ (m ≤ 0 ∨ ∃ i, i < j + 1 ∧ ((offL es (gL ls i)).natAbs : Int) = out) :=
  ⟨(fun h => by cases h), fun hh => by
    exfalso
    rcases hh with hh | ⟨i, k1, k2⟩
    · exact h (.inl hh)
    · by_cases e : i = j
      · rw [e] at k2; exact h2 k2
      · exact h (.inr ⟨i, by omega, k2⟩)⟩
set_option maxRecDepth 100000 in
set_option maxHeartbeats 4000000 in
theorem fnGap_walk (A : Option Addr) (n c : Nat) (bs : List Int) (w : World) (h : BSl w w.heap.size A n c bs) :
    Calls Try.prog 6 #[.slice A n c] w fun e w' => e = .returned (.bool true) ∧ Below w.heap.size w w' := by
  by_cases hbig : 1048576 < n
  · go_enter Try.func6, Try.ntmps6
    go_wp2
    go_ret
    exact ⟨rfl, Below.refl _ _⟩
  obtain ⟨i0, hi, hz0, hz1, hz2⟩ := info_parts int_info
  go_enter Try.func6, Try.ntmps6
  go_wp2_with fail
  refine (DrawLinksGap_any _ _ _ _ _ h (by omega)).mono ?_
  rintro e w1 ⟨many, A1, m, c1, ls, A2, m2, c2, es, rfl, hD, hE, hm2, hes, hb1⟩
  have hm9 := hD.few
  have hp := hD.pos
  have hp6 := hD.six
  have i1 := LSl.of_own hD.own hD.inL
  have j1 := ISl.of_own hE (fun z hz => by have := hes z hz; unfold InI; omega)
  have HSM := Lib.hid hes
  clear hD hE hes
  go_wp2_with fail
  refine (iLinksGap_any _ _ _ _ _ _ _ _ _ _ i1 j1 (by omega) (by omega)).mono ?_
  rintro e w2 ⟨rfl, hb2⟩
  have hT2 := Below.step hb1 hb2
  have i2 := (i1.below hb2).more hb2.size
  have j2 := (j1.below hb2).more hb2.size
  clear i1 j1 hb2
  obtain ⟨out, ho⟩ : ∃ x, linksGap (many : Int) ls es = x := ⟨_, rfl⟩
  have HO := Lib.hid ho
  rw [ho]
  go_wp2_with fail
  refine (sLinksGap_any _ _ _ _ _ _ _ _ _ _ i2 j2 (by omega) (by omega)).mono ?_
  rintro e w3 ⟨rfl, hb3⟩
  have hT3 := Below.step hT2 hb3
  have i3 := (i2.below hb3).more hb3.size
  have j3 := (j2.below hb3).more hb3.size
  rw [ho]
  clear i2 j2 hb3 ho
  have hne : (out != out) = false := by simp
  by_cases hneg : out < 0
  · go_wp2
    go_ret
    exact ⟨ret_bool (by simp), hT3⟩
  obtain ⟨k1, k2, k3, k4⟩ := linksGap_parts (many := many) (ls := ls) (e := es) (by rw [HO.out]; omega)
  rw [HO.out] at k4
  have hel : m2 = many := by have := j3.len; omega
  subst hel
  have HL := Lib.hid i3.len
  have HLE := Lib.hid j3.len
  have HG := Lib.hid k4
  have HIN : Hid (∀ i, i < ls.length → (0 ≤ (gL ls i).f ∧ (gL ls i).f < (m2 : Int)) ∧ (0 ≤ (gL ls i).t ∧ (gL ls i).t < (m2 : Int)) ∧ (-200000 ≤ (gL ls i).d ∧ (gL ls i).d ≤ 200000)) := fun i hi => by have := lsOk_at k1 hi; unfold lOk at this; omega
  have HE : Hid (∀ i, i < m2 → -10000000 ≤ gI es i ∧ gI es i ≤ 10000000) := fun i hi => k3 i (by rw [HLE.out]; exact hi)
  have HOK := Lib.hid k1
  have HX : Hid (linksGap (m2 : Int) ls (up1 es) = out ∨ linksGap (m2 : Int) ls (up1 es) = -1) := by
    by_cases he : eOk (up1 es)
    · left; rw [linksGap_yes k1 (by rw [up1_len]; exact k2) he, gap_up1 (by rw [HLE.out]; exact in_of_ok k1 rfl), k4]
    · right; exact linksGap_no (fun hh => he hh.2.2)
  have hnn : 0 ≤ out := by omega
  clear hneg k1 k2 k3 k4
  have hs3 := hT3.size
  have hc : (((m : Int) == 0) = true ∧ (out == 0) = true ∧ m ≤ 0) ∨ (((m : Int) == 0) = false ∧ 0 < m) := by
    by_cases h0 : m = 0
    · left
      refine ⟨by simp [h0], ?_, by omega⟩
      have := HG.out
      unfold gapF at this
      rw [HL.out, h0] at this
      rw [this]; rfl
    · right; exact ⟨by simp; omega, by omega⟩
  have HMET : Hid (m ≤ 0 ∨ ∃ i, i < m ∧ ((offL es (gL ls i)).natAbs : Int) = out) := by
    by_cases h0 : m = 0
    · left; omega
    · right
      obtain ⟨i, h1, h2⟩ := gp_met (ls := ls) (e := es) (k := ls.length) (by rw [HL.out]; omega)
      exact ⟨i, by rw [HL.out] at h1; exact h1, by rw [h2]; exact HG.out.symm⟩
  rcases hc with ⟨z1, z2, z3⟩ | ⟨z1, z3⟩
  all_goals
    have ho0 : (w3.alloc (.cells #[] 3)).ownsRow w3.heap.size 3 1 (.slice (some ⟨w3.heap.size, 0, none⟩) 0 0) 0 (((up1 es).take 0).map (Value.int .i64)) := own_lit0 w3 3
    have hba : Below w3.heap.size w3 (w3.alloc (.cells #[] 3)) := (Below.refl _ _).alloc (Nat.le_refl _) _
    go_wp2
    go_loopw [9, 10] (fun v i wr => ∃ k : Nat, k ≤ m2 ∧ i = .int .i64 k ∧ wr.ownsRow w3.heap.size 3 1 v k (((up1 es).take k).map (Value.int .i64)) ∧ Below w3.heap.size w3 wr) (fun _ i _ => m2 - (intOf i).toNat)
    case atStart => exact ⟨0, Nat.zero_le _, rfl, ho0, hba⟩
    case round =>
      obtain ⟨k, hk, rfl, hown, hb⟩ := hrel
      clear ho0 hba
      by_cases hlt : k < m2
      · obtain ⟨b, off, rfl, hbB, hkz, hc⟩ := j3.at_ hlt
        have r1 := (bcell hb _ _ hbB).trans (hc k hlt)
        have e1 := HE.out k hlt
        have HUP := Lib.hid (up1_take hkz)
        have hsz := hb.size
        clear hc hkz
        generalize gI es k = x at *
        go_wp2_with (at_builtin; refine wpList_append_own _ rfl _ _ 29 rfl w3.heap.size 3 i0 (.int .i64 0) 1 8 Try.underlying29 hi hz0 hz1 hz2 rfl (by decide) _ _ _ rfl (hown.alloc _) ⟨wr.heap.size, 0, none⟩ 1 1 [.int .i64 (x + 1)] rfl rfl (cell_one_new _ _ _) (by intro u hu; simp at hu; subst hu; rfl) (by unfold maxLen; omega) (by omega) (by simp; omega) ?_; intro v' w5 hown' hgrow _)
        rw [ints_snoc, HUP.out] at hown'
        have hb5 := (hb.alloc hsz (.cells #[.int .i64 (x + 1)] 3)).grown hgrow (by simp; omega) (fun g hg => (hown.lt g hg).1)
        clear hgrow hown
        go_wp2
        go_roundw
        case rel => exact ⟨k + 1, by omega, by go_num, hown', hb5⟩
        case measure => simp [intOf]; omega
      · obtain rfl : k = m2 := by omega
        obtain ⟨NA, nc, rfl⟩ := own_form hown
        have hbb := hb
        obtain ⟨wo, rfl⟩ : ∃ wo : World, wo = wr := ⟨_, rfl⟩
        go_wp2
        go_loopw [8, 11] (fun f i wr => ∃ (j : Nat) (b : Bool), j ≤ m ∧ i = .int .i64 j ∧ f = .bool b ∧ Hid (b = true ↔ (m ≤ 0 ∨ ∃ i, i < j ∧ ((offL es (gL ls i)).natAbs : Int) = out)) ∧ Below wo.heap.size wo wr) (fun _ i _ => m - (intOf i).toNat)
        case atStart =>
          first
            | exact ⟨0, true, Nat.zero_le _, rfl, rfl, (⟨fun _ => .inl z3, fun _ => rfl⟩ : (true = true ↔ _)), Below.refl _ _⟩
            | exact ⟨0, false, Nat.zero_le _, rfl, rfl, (⟨(fun h => by cases h), (fun h => by rcases h with h | ⟨i, h, _⟩ <;> omega)⟩ : (false = true ↔ _)), Below.refl _ _⟩
        case round =>
          obtain ⟨j, b, hj, rfl, rfl, HF, hb2⟩ := hrel
          have hb3 := hb.trans (hb2.mono hb.size)
          by_cases hltj : j < m
          · obtain ⟨bb, off, rfl, hbB, hkz, hc⟩ := i3.at_ hltj
            obtain ⟨q1, q2, q3⟩ := hc j hltj
            have p1 := (bcell hb3 _ _ hbB).trans q1
            have p2 := (bcell hb3 _ _ hbB).trans q2
            have p3 := (bcell hb3 _ _ hbB).trans q3
            obtain ⟨⟨a1, a2⟩, ⟨a3, a4⟩, a5, a6⟩ := HIN.out j hkz
            obtain ⟨b', off', rfl, hbB', _, hc'⟩ := j3.at_ (show 0 < k by omega)
            have r1 := (bcell hb3 _ _ hbB').trans (hc' (gL ls j).f.toNat (by omega))
            have r2 := (bcell hb3 _ _ hbB').trans (hc' (gL ls j).t.toNat (by omega))
            have e1 := HE.out (gL ls j).f.toNat (by omega)
            have e2 := HE.out (gL ls j).t.toNat (by omega)
            have hle : ((offL es (gL ls j)).natAbs : Int) ≤ out := by rw [HG.out]; exact gp_ge hkz
            obtain ⟨X, hX⟩ : ∃ X, offL es (gL ls j) = X := ⟨_, rfl⟩
            have HXX := Lib.hid hX
            rw [hX] at hle
            unfold offL at hX
            have u1 : IntKind.i64.wrap (gI es (gL ls j).t.toNat - gI es (gL ls j).f.toNat) = gI es (gL ls j).t.toNat - gI es (gL ls j).f.toNat := IntWalk.i64_in _ (by omega)
            have u2 : IntKind.i64.wrap (gI es (gL ls j).t.toNat - gI es (gL ls j).f.toNat - (gL ls j).d) = X := by rw [IntWalk.i64_in _ (by omega), hX]
            have x1 : -100000000 ≤ X := by omega
            have x2 : X ≤ 100000000 := by omega
            have hjI : (j : Int) < (m : Int) := by omega
            clear q1 q2 q3 hc hc' hX
            go_wp2
            go_quiet (fail)
            clear u1 u2
            have hsgn : (0 ≤ X ∧ X ≤ out) ∨ (X < 0 ∧ 0 - X ≤ out) := by omega
            rcases b with _ | _
            all_goals
              by_cases heq : (X.natAbs : Int) = out
            all_goals
              have HEQ := Lib.hid heq
              clear heq
              rcases hsgn with ⟨s1, s2⟩ | ⟨s1, s2⟩
            all_goals
              first
                | (have t1 : (X == out) = true := by have := HEQ.out; simp; omega)
                | (have t1 : (0 - X == out) = true := by have := HEQ.out; simp; omega
                   have t3 : (-X == out) = true := by have := HEQ.out; simp; omega)
                | (have t1 : (X == out) = false := by have := HEQ.out; simp; omega
                   have t2 : (0 - X == out) = false := by have := HEQ.out; simp; omega
                   have t3 : (-X == out) = false := by have := HEQ.out; simp; omega)
            all_goals (go_wp2)
            all_goals
              go_roundw
              case rel =>
                first
                  | exact ⟨j + 1, true, by omega, by go_num, rfl, fnd_true (HF.out.1 rfl), below_drewN hb2 _⟩
                  | exact ⟨j + 1, true, by omega, by go_num, rfl, fnd_here (by rw [HXX.out]; exact HEQ.out), below_drewN hb2 _⟩
                  | exact ⟨j + 1, false, by omega, by go_num, rfl, fnd_no (fun h => by have := HF.out.2 h; cases this) (by rw [HXX.out]; exact HEQ.out), below_drewN hb2 _⟩
              case measure => simp [intOf]; omega
          · obtain rfl : j = m := by omega
            have hbt : b = true := HF.out.2 HMET.out
            subst hbt
            have hnx := own_below hown hb2
            have i5 := (i3.below hb3).more hb3.size
            have hT5 := Below.step hT3 hb3
            have j5 := ISl.of_own hnx (fun z hz => by
              rw [List.take_of_length_le (by rw [up1_len, HLE.out]; exact Nat.le_refl _)] at hz
              unfold up1 at hz
              obtain ⟨y, hy, rfl⟩ := List.mem_map.1 hz
              have := HSM.out y hy
              unfold InI; omega)
            rw [List.take_of_length_le (by rw [up1_len, HLE.out]; exact Nat.le_refl _)] at j5
            go_wp2_with fail
            refine (iLinksGap_any _ _ _ _ _ _ _ _ _ _ i5 j5 (by omega) (by omega)).mono ?_
            rintro e w7 ⟨rfl, hb7⟩
            have hT7 := Below.step hT5 hb7
            rcases HX.out with hx | hx
            · rw [hx]
              have hoo : (out == out) = true := by simp
              go_wp2
              go_ret
              exact ⟨rfl, hT7⟩
            · rw [hx]
              have hoo : ((-1 : Int) == out) = false := by simp; omega
              go_wp2
              go_ret
              exact ⟨rfl, hT7⟩
end Go.Proofs.Ytaefojbgialiaaa
