/- The walks of the reference's l33Has and MatchMissing. -/
import Derived.Test.YtpkfpegilhadfaaMtAllI
set_option linter.unusedVariables false
namespace Go.Proofs.Ytpkfpegilhadfaa
open Go.RowKit Lk Mt

theorem has_yes {zs : List Int} {x : Int} {k : Nat} (hk : k < zs.length) (h : gI zs k = x) : zs.contains x = true := by
  rw [List.contains_iff_mem, ← h]; exact gI_mem hk
theorem has_no {zs : List Int} {x : Int} (h : ∀ j, j < zs.length → gI zs j ≠ x) : zs.contains x = false := by
  rcases hc : zs.contains x with _ | _
  · rfl
  · rw [List.contains_iff_mem] at hc
    obtain ⟨i, hi, e⟩ := List.getElem_of_mem hc
    exact absurd (by rw [gI_lt hi]; exact e) (h i hi)
set_option maxHeartbeats 1000000 in
theorem l33Has_any (A : Option Addr) (n c : Nat) (zs : List Int) (x : Int) (w : World) (h : ISl w w.heap.size A n c zs) (hn : n ≤ 1073741824) :
    Calls Try.prog 38 #[.slice A n c, .int .i64 x] w fun e w' => e = .returned (.bool (zs.contains x)) ∧ w = w' := by
  have HL := Lib.hid h.len
  go_enter Try.func38, Try.ntmps38
  go_wp2
  go_loop [5] (fun i => ∃ k : Nat, k ≤ n ∧ i = .int .i64 k ∧ Hid (∀ j, j < k → gI zs j ≠ x)) (fun i => n - (intOf i).toNat)
  case atStart => exact ⟨0, Nat.zero_le _, rfl, (fun j hj => by omega)⟩
  case round =>
    obtain ⟨k, hk, rfl, hno⟩ := hrel
    by_cases hlt : k < n
    · obtain ⟨b, off, rfl, hbB, hkz, hc⟩ := h.at_ hlt
      have p1 := hc k hlt
      have HY : Hid (gI zs k = x → zs.contains x = true) := fun e => has_yes hkz e
      clear hc
      obtain ⟨z, hz⟩ : ∃ z, gI zs k = z := ⟨_, rfl⟩
      rw [hz] at p1 HY
      have HZ := Lib.hid hz
      clear hz
      by_cases he : z = x
      · have hE := Lib.hid (HY.out he)
        have g1 : (z == x) = true := by simpa using he
        clear he
        go_wp2
        go_ret
        exact ⟨ret_bool (by have := hE.out; simp at this; simp [this]), rfl⟩
      · have g1 : (z == x) = false := by simpa using he
        have HE := Lib.hid he
        clear he
        go_wp2
        go_round
        case rel => exact ⟨k + 1, by omega, by go_num, fun j hj => by
          by_cases e : j = k
          · rw [e, HZ.out]; exact HE.out
          · exact hno.out j (by omega)⟩
        case measure => simp [intOf]; omega
    · go_wp2
      go_ret
      exact ⟨ret_bool (by have := has_no (fun j hj => hno.out j (by rw [HL.out] at hj; omega)); simp at this; simp [this]), rfl⟩
/-- what MatchMissing leaves -/
def MissRes (s : List Nd) (zs : List Int) (tol : Int) (w : World) (e : Ending) (w' : World) : Prop :=
  ∃ (A : Option Addr) (m c : Nat), e = .returned (.tuple #[.slice A m c, .bool (allOk s zs tol)]) ∧ w'.ownsRow w.heap.size 3 1 (.slice A m c) m ((matchMissing s zs tol).map (Value.int .i64)) ∧ Below w.heap.size w w'
theorem missRes_no {s : List Nd} {zs : List Int} {tol : Int} {w w' : World} {e : Ending} {A : Option Addr} {m c : Nat} (h : allOk s zs tol = false) (he : e = .returned (.tuple #[.slice A m c, .bool false])) (ho : w'.ownsRow w.heap.size 3 1 (.slice A m c) m []) (hb : Below w.heap.size w w') : MissRes s zs tol w e w' :=
  ⟨A, m, c, by rw [h]; exact he, by unfold matchMissing; rw [h]; exact ho, hb⟩
theorem missRes_yes {s : List Nd} {zs : List Int} {tol : Int} {w w' : World} {e : Ending} {A : Option Addr} {m c : Nat} (h : allOk s zs tol = true) (he : e = .returned (.tuple #[.slice A m c, .bool true])) (ho : w'.ownsRow w.heap.size 3 1 (.slice A m c) m ((miss (allL (lines s) zs tol) (lines s).length).map (Value.int .i64))) (hb : Below w.heap.size w w') : MissRes s zs tol w e w' :=
  ⟨A, m, c, by rw [h]; exact he, by unfold matchMissing; rw [h]; exact ho, hb⟩
theorem allL_inI (L : List Line) (zs : List Int) (tol : Int) (h : L.length ≤ 144) : ∀ z ∈ allL L zs tol, InI z := by
  intro z hz
  obtain ⟨x, _, rfl⟩ := List.mem_map.1 hz
  have := bestL_bd L x tol
  unfold InI; omega
def MRel (best : List Int) (N : Nat) (B : Nat) (W : World) (o i : Value) (wr : World) : Prop :=
  ∃ (k : Nat) (A : Option Addr) (c : Nat), k ≤ N ∧ i = .int .i64 k ∧ o = .slice A (miss best k).length c ∧ wr.ownsRow B 3 1 (.slice A (miss best k).length c) (miss best k).length ((miss best k).map (Value.int .i64)) ∧ Below W.heap.size W wr
set_option maxRecDepth 100000 in
set_option maxHeartbeats 8000000 in
theorem sMatchMissing_any (A : Option Addr) (n c : Nat) (s : List Nd) (A2 : Option Addr) (n2 c2 : Nat) (zs : List Int) (tol : Int) (w : World) (h : NSl w w.heap.size A n c s) (hz : ISl w w.heap.size A2 n2 c2 zs) (hn : n2 ≤ 1073741824) :
    Calls Try.prog 11 #[.slice A n c, .slice A2 n2 c2, .int .i64 tol] w (MissRes s zs tol w) := by
  obtain ⟨i0, hi, hz0, hz1, hz2⟩ := info_parts int_info
  go_enter Try.func11, Try.ntmps11
  go_wp2_with fail
  refine (sMatchAll_any _ _ _ s _ _ _ zs tol _ h hz hn).mono ?_
  rintro e w1 ⟨Ab, mb, cb, rfl, hown1, hb1⟩
  rcases hv : allOk s zs tol with _ | _
  · have HV := Lib.hid hv
    have HO := Lib.hid (And.intro (own_base (own_lit0 w1 3) hb1.size) (hb1.alloc hb1.size (.cells #[] 3)))
    clear hown1 hb1 hv
    go_wp2
    go_ret2
    exact missRes_no HV.out rfl HO.out.1 HO.out.2
  have HV := Lib.hid hv
  have HSV := Lib.hid (allOk_parts hv).1
  rw [matchAll_yes hv] at hown1
  clear hv
  have hlen144 := lines_len s
  have ib := ISl.of_own hown1 (allL_inI (lines s) zs tol hlen144)
  have HML := Lib.hid ib.len
  have hmb : mb ≤ 40 := by rw [← HML.out, allL_len]; exact (allOk_parts HV.out).2.1
  have hown0 := own_lit0 w1 3
  have hb0 : Below w1.heap.size w1 (w1.alloc (.cells #[] 3)) := (Below.refl _ _).alloc (Nat.le_refl _) _
  obtain ⟨N, hN⟩ : ∃ N, (lines s).length = N := ⟨_, rfl⟩
  have HN := Lib.hid hN
  rw [hN] at hlen144
  clear hown1 hN
  obtain ⟨best, hbest⟩ : ∃ b, allL (lines s) zs tol = b := ⟨_, rfl⟩
  rw [hbest] at ib
  have HB := Lib.hid hbest
  clear hbest
  go_wp2
  go_loopw [10, 11] (fun o i wr => MRel best N w1.heap.size w1 o i wr) (fun _ i _ => N - (intOf i).toNat)
  case atStart => exact ⟨0, _, 0, Nat.zero_le _, rfl, rfl, hown0, hb0⟩
  case round =>
    obtain ⟨k, Ak, ck, hk, rfl, rfl, hown, hb⟩ := hrel
    clear hown0 hb0
    have hbt := Below.step hb1 hb
    have hml := miss_len best k
    go_wp2_with fail
    refine (sSchemeLines_any _ _ _ s _ ((h.below hbt).more hbt.size)).mono ?_
    rintro e w2 ⟨A3, n3, c3, rfl, hown3, hb3⟩
    have hn3 : n3 = N := by have := hown3.len; rw [← HN.out]; simpa using this.symm
    subst hn3
    have hown4 := own_below hown hb3
    have hb4 := Below.step hb hb3
    clear hown3 hown hb hb3 hbt
    by_cases hlt : k < n3
    · have ib4 := (ib.below hb4).more hb4.size
      have hsz4 := hb4.size
      have HMS := Lib.hid (miss_succ best k)
      have hcall := l33Has_any Ab mb cb best (k : Int) w2 ib4 (by omega)
      obtain ⟨C, hC⟩ : ∃ C, best.contains (k : Int) = C := ⟨_, rfl⟩
      rw [hC] at hcall
      have HC : Hid (best.contains (Int.ofNat k) = C) := hC
      clear hC ib4
      cases C
      · have HME : Hid (miss best (k + 1) = miss best k ++ [(k : Int)]) := by show _ = _; rw [HMS.out, HC.out]; rfl
        have HMl : Hid ((miss best (k + 1)).length = (miss best k).length + 1) := by show _ = _; rw [HME.out]; simp
        go_wp2_with (first
          | (go_at_call 38; (with_reducible refine hcall.mono ?_); rintro e w' ⟨rfl, rfl⟩)
          | (at_builtin; refine wpList_append_own _ rfl _ _ 24 rfl w1.heap.size 3 i0 (.int .i64 0) 1 8 Try.underlying24 hi hz0 hz1 hz2 rfl (by decide) _ _ _ rfl (hown4.alloc _) ⟨w2.heap.size, 0, none⟩ 1 1 [.int .i64 k] rfl rfl ?c1 ?c2 ?c3 ?c4 ?c5 ?_))
        case c1 => exact cell_one_new _ _ _
        case c2 => intro u hu; simp at hu; subst hu; rfl
        case c3 => unfold maxLen; omega
        case c4 => omega
        case c5 => simp; omega
        intro v' w6 hown' hgrow _
        have hb6 : Below w1.heap.size w1 w6 := (hb4.alloc hsz4 _).grown hgrow (by simp; omega) (fun g hg => (hown4.lt g hg).1)
        rw [ints_snoc', ← HME.out, ← HMl.out] at hown'
        obtain ⟨A6, c6, rfl⟩ := own_form hown'
        have HO := Lib.hid (And.intro hown' hb6)
        clear hown' hb6 hown4 hb4 hgrow hcall
        go_wp2
        go_roundw
        case rel => exact ⟨k + 1, A6, c6, by omega, by go_num, rfl, HO.out.1, HO.out.2⟩
        case measure => simp [intOf]; omega
      · have HME : Hid (miss best (k + 1) = miss best k) := by show _ = _; rw [HMS.out, HC.out]; simp
        have HO := Lib.hid (And.intro hown4 hb4)
        clear hown4 hb4
        go_wp2_with (go_at_call 38; (with_reducible refine hcall.mono ?_); rintro e w' ⟨rfl, rfl⟩)
        go_roundw
        case rel => exact ⟨k + 1, Ak, ck, by omega, by go_num, by rw [HME.out], by rw [HME.out]; exact HO.out.1, HO.out.2⟩
        case measure => simp [intOf]; omega
    · obtain rfl : k = n3 := by omega
      have HO := Lib.hid (And.intro (own_base hown4 hb1.size) (Below.step hb1 hb4))
      clear hown4 hb4
      go_wp2
      go_ret2
      exact missRes_yes HV.out rfl (by rw [HN.out, HB.out]; exact HO.out.1) HO.out.2
end Go.Proofs.Ytpkfpegilhadfaa
