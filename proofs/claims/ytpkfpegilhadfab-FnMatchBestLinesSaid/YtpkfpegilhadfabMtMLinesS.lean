/- The walk of the reference's MatchLines. -/
import Derived.Test.YtpkfpegilhadfabMtBestS
set_option linter.unusedVariables false
namespace Go.Proofs.Ytpkfpegilhadfab
open Go.RowKit Lk Mt

theorem nearL_snoc {L : List Line} {seen tol : Int} {k : Nat} (h : k < L.length) : nearL (L.take (k + 1)) seen tol = nearL (L.take k) seen tol ++ if off L seen k ≤ tol then [gX L k] else [] := by
  unfold nearL
  rw [take_snocX h, List.filter_append]
  congr 1
  unfold off
  by_cases c : (((gX L k).n - seen).natAbs : Int) ≤ tol
  · rw [if_pos c, List.filter_cons, if_pos (by simpa using c)]; rfl
  · rw [if_neg c, List.filter_cons, if_neg (by simpa using c)]; rfl
theorem nearL_len (L : List Line) (seen tol : Int) : (nearL L seen tol).length ≤ L.length := List.length_filter_le _ _
theorem matchLines_no {s : List Nd} {seen tol : Int} (h : (sOk s && mOk seen tol) = false) : matchLines s seen tol = [] := by
  unfold matchLines; rw [if_neg]; intro hh; rw [hh.1, hh.2] at h; cases h
theorem matchLines_yes {s : List Nd} {seen tol : Int} (h : sOk s = true) (h2 : mOk seen tol = true) : matchLines s seen tol = nearL (lines s) seen tol := by
  unfold matchLines; rw [if_pos ⟨h, h2⟩]
theorem matchLines_len (s : List Nd) (seen tol : Int) : (matchLines s seen tol).length ≤ 144 := by
  unfold matchLines; split
  · exact Nat.le_trans (nearL_len _ _ _) (lines_len s)
  · simp
theorem matchLines_inL (s : List Nd) (seen tol : Int) : ∀ l ∈ (matchLines s seen tol).map lm, InL l := by
  intro l hl
  obtain ⟨x, hx, rfl⟩ := List.mem_map.1 hl
  unfold matchLines at hx
  split at hx
  · exact lines_inL _ (List.mem_map.2 ⟨x, (List.mem_filter.1 hx).1, rfl⟩)
  · cases hx
/-- what MatchLines leaves -/
def NearRes (s : List Nd) (seen tol : Int) (w : World) (e : Ending) (w' : World) : Prop :=
  ∃ (A : Option Addr) (n c : Nat), e = .returned (.slice A n c) ∧ LOwn w' w.heap.size 42 (.slice A n c) n ((matchLines s seen tol).map lm) ∧ Below w.heap.size w w'
def MLRel (L : List Line) (seen tol : Int) (n B B1 : Nat) (vl : Value) (W : World) (o i : Value) (wr : World) : Prop :=
  ∃ (k : Nat) (M : List Line) (A : Option Addr) (c : Nat), k ≤ n ∧ i = .int .i64 k ∧ o = .slice A M.length c ∧ Hid (M = nearL (L.take k) seen tol) ∧ M.length ≤ k ∧ LOwn wr B 42 (.slice A M.length c) M.length (M.map lm) ∧
    LOwn wr B1 42 vl n (L.map lm) ∧ (vl.ownBlock = none ∨ vl.ownBlock ≠ (Value.slice A M.length c).ownBlock) ∧ Below W.heap.size W wr
theorem LOwn.kept {w w' : World} {base n : Nat} {E : TypeId} {v : Value} {ls : List Link} {row : Option Nat} (h : LOwn w base E v n ls) (hg : w.grownBy w' row) (hne : v.ownBlock = none ∨ v.ownBlock ≠ row) : LOwn w' base E v n ls :=
  ⟨h.len, h.row.map fun _ h => h.kept hg hne⟩
set_option maxRecDepth 100000 in
set_option maxHeartbeats 8000000 in
theorem sMatchLines_any (A : Option Addr) (n c : Nat) (s : List Nd) (seen tol : Int) (w : World) (h : NSl w w.heap.size A n c s) :
    Calls Try.prog 21 #[.slice A n c, .int .i64 seen, .int .i64 tol] w (NearRes s seen tol w) := by
  obtain ⟨i0, hi, hz0, hz1, hz2⟩ := info_parts line_info
  have hlit : LOwn (w.alloc (.cells #[] 42)) w.heap.size 42 (.slice (some ⟨w.heap.size, 0, none⟩) 0 0) 0 [] := LOwn.lit0 w 42
  have hb0 : Below w.heap.size w (w.alloc (.cells #[] 42)) := (Below.refl _ _).alloc (Nat.le_refl _) _
  have h0 := (h.below hb0).more hb0.size
  go_enter Try.func21, Try.ntmps21
  go_wp2_with fail
  refine (l33Ok_any _ _ _ s _ _ _ h0).mono ?_
  rintro e w1 ⟨rfl, hb1⟩
  have hown1 := hlit.below hb1
  have hbt := Below.step hb0 hb1
  have hw0 : w.heap.size ≤ w1.heap.size := hbt.size
  clear hb0 hb1 hlit h0
  rcases hv : (sOk s && mOk seen tol) with _ | _
  · have HV := Lib.hid (matchLines_no hv)
    have HO := Lib.hid (And.intro hown1 hbt)
    clear hown1 hbt
    go_wp2
    go_ret
    exact ⟨_, _, _, rfl, by rw [HV.out]; exact HO.out.1, HO.out.2⟩
  simp only [Bool.and_eq_true] at hv
  have HV := Lib.hid hv.1
  have HM := Lib.hid (matchLines_yes hv.1 hv.2)
  obtain ⟨m1, m2, m3, m4⟩ := mOk_iff.1 hv.2
  clear hv
  have h1 := (h.below hbt).more hbt.size
  go_wp2_with fail
  refine (sSchemeLines_any _ _ _ s _ h1).mono ?_
  rintro e w2 ⟨A2, n2, c2, rfl, hown2, hb2⟩
  have HL : Hid ((lines s).length = n2) := by show _ = _; have := hown2.len; simpa using this
  have HIN : Hid (∀ i, i < n2 → 0 < (gX (lines s) i).n ∧ (gX (lines s) i).n ≤ 200000) := fun i hi => by
    have := lines_in HV.out (gX_mem (s := lines s) (i := i) (by rw [HL.out]; exact hi)); omega
  have HINL := Lib.hid (lines_inL (s := s))
  have hown := hown1.below hb2
  have hfew : n2 ≤ 144 := by rw [← HL.out]; exact lines_len s
  have HB2 := Lib.hid (Below.step hbt hb2)
  have hne : (Value.slice A2 n2 c2).ownBlock = none ∨ (Value.slice A2 n2 c2).ownBlock ≠ (Value.slice (some ⟨w.heap.size, 0, none⟩) 0 0).ownBlock := by
    rcases hq : (Value.slice A2 n2 c2).ownBlock with _ | g
    · exact .inl rfl
    · right
      have := (hown2.row.lt g hq).1
      intro e
      have e2 : g = w.heap.size := by simpa [Value.ownBlock] using e
      have h3 : w.heap.size < w1.heap.size := (hown1.row.lt w.heap.size rfl).2
      omega
  clear hown1 hbt hb2 h1
  go_wp2
  generalize lines s = L at *
  go_loopw [7, 9] (fun o i wr => MLRel L seen tol n2 w.heap.size w1.heap.size (.slice A2 n2 c2) w o i wr) (fun _ i _ => n2 - (intOf i).toNat)
  case atStart => exact ⟨0, [], _, 0, Nat.zero_le _, rfl, rfl, rfl, Nat.le_refl _, hown, hown2, hne, HB2.out⟩
  case round =>
    obtain ⟨k, M, Ao, co, hk, rfl, rfl, hM, hlen, hownM, hownL, hneM, hb⟩ := hrel
    clear hown hown2 hne
    by_cases hlt : k < n2
    · obtain ⟨b, off, rfl, hbB, hkz, hc⟩ := (LSl.of_own hownL HINL.out).at_ hlt
      obtain ⟨q1, q2, q3⟩ := hc k hlt
      rw [gL_lm] at q1 q2 q3
      have hx := HIN.out k hlt
      have HSN := Lib.hid (nearL_snoc (L := L) (seen := seen) (tol := tol) (k := k) (by rw [HL.out]; exact hlt))
      obtain ⟨F, hF⟩ : ∃ F, Mt.off L seen k = F := ⟨_, rfl⟩
      have hF2 := hF
      unfold Mt.off at hF2
      obtain ⟨X, hX⟩ : ∃ X, gX L k = X := ⟨_, rfl⟩
      have HF := Lib.hid (And.intro hF hX)
      rw [hX] at q1 q2 q3 hx hF2
      clear hc hF hX
      obtain ⟨xu, xl, X⟩ := X
      unfold lm at q1 q2 q3
      dsimp only at q1 q2 q3 hx hF2
      have hc1 := fun W => l1Abs_any (X - seen) W (by omega) (by omega)
      simp only [hF2] at hc1
      have hFb : 0 ≤ F ∧ F ≤ 400000 := by omega
      obtain ⟨f1, f2⟩ := hFb
      obtain ⟨x1, x2⟩ := hx
      have u1 : IntKind.i64.wrap (X - seen) = X - seen := IntWalk.i64_in _ (by omega)
      clear hF2
      have hsz := hb.size
      by_cases hft : F ≤ tol
      · obtain ⟨xs, hxo, hxx⟩ := hownM.row
        have HXX := Lib.hid hxx
        have HXL := Lib.hid hxo.1
        have HR : Hid (M ++ [⟨xu, xl, X⟩] = nearL (L.take (k + 1)) seen tol) := by
          show _ = _
          rw [hM.out, HSN.out, HF.out.1, if_pos hft, HF.out.2]
        clear hxx hownM
        go_wp2_with (first
          | (go_at_call 56; (with_reducible refine (hc1 _).mono ?_); rintro e w' ⟨rfl, rfl⟩)
          | (at_builtin; refine wpList_append_own_at _ rfl _ _ 25 rfl w.heap.size 42 i0 _ 3 24 Try.underlying25 hi hz0 hz1 hz2 rfl (by decide) _ _ _ rfl (hxo.alloc _) ⟨wr.heap.size, 0, none⟩ 1 1 [.int .i64 xu, .int .i64 xl, .int .i64 X] rfl rfl ?c1 ?c2 ?c3 ?c4 ?c5 ?_))
        case c1 => exact cell3_new _ _ _ _ _ rfl
        case c2 => intro u hu; simp at hu; rcases hu with rfl | rfl | rfl <;> rfl
        case c3 => unfold maxLen; omega
        case c4 => omega
        case c5 => simp; omega
        intro v' w5 hown' hgrow _ hat
        have hb5 : Below w.heap.size w w5 := (hb.alloc hsz _).grown hgrow (by simp; omega) (fun q hq => (hxo.lt q hq).1)
        have hL5 := (hownL.alloc (.cells #[.int .i64 xu, .int .i64 xl, .int .i64 X] 42)).kept hgrow hneM
        obtain ⟨A5, c5, rfl⟩ := own_form hown'
        have hne5 : (Value.slice (some ⟨b, off, none⟩) n2 c2).ownBlock = none ∨ (Value.slice (some ⟨b, off, none⟩) n2 c2).ownBlock ≠ (Value.slice A5 (M.length + 1) c5).ownBlock := by
          rcases hat with hat | hat
          · rw [hat]; exact hneM
          · right
            rw [hat]
            intro e
            have h3 := (hownL.row.lt _ e).2
            have h4 : wr.heap.size ≤ (wr.alloc (.cells #[.int .i64 xu, .int .i64 xl, .int .i64 X] 42)).heap.size := by simp
            omega
        have hM5 := LOwn.snoc (l := lm ⟨xu, xl, X⟩) HXX.out (by simp) HXL.out hown'
        rw [lm_snoc, ← lm_snoc_len M ⟨xu, xl, X⟩] at hM5
        rw [← lm_snoc_len M ⟨xu, xl, X⟩] at hne5
        have hln : (M ++ [(⟨xu, xl, X⟩ : Line)]).length = M.length + 1 := lm_snoc_len _ _
        have HO := Lib.hid (And.intro hM5 (And.intro hL5 (And.intro hne5 (And.intro hb5 hln))))
        clear hM5 hL5 hne5 hb5 hln hown' hgrow hat hxo hownL hneM hb hc1 q1 q2 q3 u1
        go_wp2
        go_roundw
        case rel => exact ⟨k + 1, _, A5, c5, by omega, by go_num, by rw [HO.out.2.2.2.2], HR.out, by rw [HO.out.2.2.2.2]; omega, HO.out.1, HO.out.2.1, HO.out.2.2.1, HO.out.2.2.2.1⟩
        case measure => simp [intOf]; omega
      · have HR : Hid (M = nearL (L.take (k + 1)) seen tol) := by
          show _ = _
          rw [hM.out, HSN.out, HF.out.1, if_neg hft, List.append_nil]
        have HO := Lib.hid (And.intro hownM (And.intro hownL (And.intro hneM hb)))
        clear hownM hownL hneM hb
        go_wp2_with (go_at_call 56; (with_reducible refine (hc1 _).mono ?_); rintro e w' ⟨rfl, rfl⟩)
        go_roundw
        case rel => exact ⟨k + 1, M, Ao, co, by omega, by go_num, rfl, HR.out, by omega, HO.out.1, HO.out.2.1, HO.out.2.2.1, HO.out.2.2.2⟩
        case measure => simp [intOf]; omega
    · obtain rfl : k = n2 := by omega
      have HE : Hid (matchLines s seen tol = M) := by show _ = _; rw [HM.out, hM.out, List.take_of_length_le (by rw [HL.out]; exact Nat.le_refl _)]
      have HO := Lib.hid (And.intro hownM hb)
      clear hownM hownL hneM hb
      go_wp2
      go_ret
      exact ⟨_, _, _, rfl, by rw [HE.out]; exact HO.out.1, HO.out.2⟩
end Go.Proofs.Ytpkfpegilhadfab
