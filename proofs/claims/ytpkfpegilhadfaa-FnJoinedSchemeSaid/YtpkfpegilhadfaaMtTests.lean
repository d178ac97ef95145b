/- Contracts of the small tests on nodes and lines. -/
import Derived.Test.YtpkfpegilhadfaaMtValid
import Derived.Test.YtpkfpegilhadfaaMtLine
namespace Go.Proofs.Ytpkfpegilhadfaa
open Go.RowKit Mt

def nearJ (a b : Int) : Bool := decide (-2 ≤ a - b ∧ a - b ≤ 2) && (decide (a ≠ 0) || decide (b ≠ 0))
theorem allowed_near (a b : Nd) : allowed a b = (decide (a.o ≠ b.o) && nearJ a.j b.j) := by unfold allowed nearJ; rw [Bool.and_assoc]

set_option maxHeartbeats 400000 in
theorem stepsBy_any (a b : Int) (w : World) (ha : 0 ≤ a) (ha2 : a ≤ 24) (hb : 0 ≤ b) (hb2 : b ≤ 24) :
    Calls Try.prog 42 #[.int .i64 a, .int .i64 b, .int .i64 2] w fun e w' => e = .returned (.bool (nearJ a b)) ∧ w = w' := by
  have HN : Hid (∀ x : Bool, (nearJ a b = x ↔ (decide (((a - b).natAbs : Int) ≤ 2) && (decide (a ≠ 0) || decide (b ≠ 0))) = x)) := fun x => by
    unfold nearJ
    have : decide (-2 ≤ a - b ∧ a - b ≤ 2) = decide (((a - b).natAbs : Int) ≤ 2) := by rw [decide_eq_decide]; omega
    rw [this]
  obtain ⟨X, hX⟩ : ∃ X, ((a - b).natAbs : Int) = X := ⟨_, rfl⟩
  rw [hX] at HN
  by_cases h1 : X ≤ 2
  · by_cases h2 : a = 0
    · subst h2
      by_cases h3 : b = 0
      · subst h3
        go_enter Try.func42, Try.ntmps42
        go_wp2_with (go_at_call 71; refine (iabs_any _ _ (by omega) (by omega)).mono ?_; rintro e w' ⟨rfl, rfl⟩; try rw [hX])
        go_ret
        exact ⟨ret_bool (by rw [(HN.out _).2 rfl]; simp), rfl⟩
      · go_enter Try.func42, Try.ntmps42
        go_wp2_with (go_at_call 71; refine (iabs_any _ _ (by omega) (by omega)).mono ?_; rintro e w' ⟨rfl, rfl⟩; try rw [hX])
        go_ret
        exact ⟨ret_bool (by rw [(HN.out _).2 rfl]; simp [h1, h3]), rfl⟩
    · go_enter Try.func42, Try.ntmps42
      go_wp2_with (go_at_call 71; refine (iabs_any _ _ (by omega) (by omega)).mono ?_; rintro e w' ⟨rfl, rfl⟩; try rw [hX])
      go_ret
      exact ⟨ret_bool (by rw [(HN.out _).2 rfl]; simp [h1, h2]), rfl⟩
  · go_enter Try.func42, Try.ntmps42
    go_wp2_with (go_at_call 71; refine (iabs_any _ _ (by omega) (by omega)).mono ?_; rintro e w' ⟨rfl, rfl⟩; try rw [hX])
    go_ret
    exact ⟨ret_bool (by rw [(HN.out _).2 rfl]; simp; omega), rfl⟩
set_option maxHeartbeats 400000 in
theorem l25Near_any (a b : Int) (w : World) (ha : 0 ≤ a) (ha2 : a ≤ 24) (hb : 0 ≤ b) (hb2 : b ≤ 24) :
    Calls Try.prog 76 #[.int .i64 a, .int .i64 b, .int .i64 2] w fun e w' => e = .returned (.bool (nearJ a b)) ∧ w = w' := by
  have HN : Hid (∀ x : Bool, (nearJ a b = x ↔ (decide (((a - b).natAbs : Int) ≤ 2) && (decide (a ≠ 0) || decide (b ≠ 0))) = x)) := fun x => by
    unfold nearJ
    have : decide (-2 ≤ a - b ∧ a - b ≤ 2) = decide (((a - b).natAbs : Int) ≤ 2) := by rw [decide_eq_decide]; omega
    rw [this]
  obtain ⟨X, hX⟩ : ∃ X, ((a - b).natAbs : Int) = X := ⟨_, rfl⟩
  rw [hX] at HN
  by_cases h1 : X ≤ 2
  · by_cases h2 : a = 0
    · subst h2
      by_cases h3 : b = 0
      · subst h3
        go_enter Try.func76, Try.ntmps76
        go_wp2_with (go_at_call 63; refine (l1Abs_any _ _ (by omega) (by omega)).mono ?_; rintro e w' ⟨rfl, rfl⟩; try rw [hX])
        go_ret
        exact ⟨ret_bool (by rw [(HN.out _).2 rfl]; simp), rfl⟩
      · go_enter Try.func76, Try.ntmps76
        go_wp2_with (go_at_call 63; refine (l1Abs_any _ _ (by omega) (by omega)).mono ?_; rintro e w' ⟨rfl, rfl⟩; try rw [hX])
        go_ret
        exact ⟨ret_bool (by rw [(HN.out _).2 rfl]; simp [h1, h3]), rfl⟩
    · go_enter Try.func76, Try.ntmps76
      go_wp2_with (go_at_call 63; refine (l1Abs_any _ _ (by omega) (by omega)).mono ?_; rintro e w' ⟨rfl, rfl⟩; try rw [hX])
      go_ret
      exact ⟨ret_bool (by rw [(HN.out _).2 rfl]; simp [h1, h2]), rfl⟩
  · go_enter Try.func76, Try.ntmps76
    go_wp2_with (go_at_call 63; refine (l1Abs_any _ _ (by omega) (by omega)).mono ?_; rintro e w' ⟨rfl, rfl⟩; try rw [hX])
    go_ret
    exact ⟨ret_bool (by rw [(HN.out _).2 rfl]; simp; omega), rfl⟩
set_option maxHeartbeats 400000 in
theorem l31Allowed_any (a b : Nd) (w : World) (ha : 0 ≤ a.j ∧ a.j ≤ 24) (hb : 0 ≤ b.j ∧ b.j ≤ 24) :
    Calls Try.prog 55 #[.agg #[.int .i64 a.e, .int .i64 a.j, .bool a.o], .agg #[.int .i64 b.e, .int .i64 b.j, .bool b.o]] w fun e w' => e = .returned (.bool (allowed a b)) ∧ Below w.heap.size w w' := by
  obtain ⟨e1, j1, o1⟩ := a
  obtain ⟨e2, j2, o2⟩ := b
  dsimp only at *
  have hbb : ∀ o1 o2, Below w.heap.size w ((w.alloc o1).alloc o2) := fun o1 o2 => ((Below.refl _ _).alloc (Nat.le_refl _) o1).alloc (by simp) o2
  have HB := Lib.hid hbb
  clear hbb
  obtain ⟨ha, ha2⟩ := ha
  obtain ⟨hb, hb2⟩ := hb
  by_cases h1 : o1 = o2
  · have hne : (o1 != o2) = false := by simpa using h1
    go_enter Try.func55, Try.ntmps55
    go_wp2_with fail
    go_ret
    exact ⟨ret_bool (by rw [allowed_near]; simp [h1]), HB.out _ _⟩
  · have hne : (o1 != o2) = true := by simpa using h1
    have h1' := Lib.hid h1
    clear h1
    go_enter Try.func55, Try.ntmps55
    go_wp2_with (go_at_call 76; refine (l25Near_any _ _ _ (by omega) (by omega) (by omega) (by omega)).mono ?_; rintro e w' ⟨rfl, rfl⟩)
    go_ret
    exact ⟨ret_bool (by rw [allowed_near]; simp [h1'.out]), HB.out _ _⟩
set_option maxHeartbeats 1000000 in
theorem l31Ahead_any (a b : Line) (w : World) :
    Calls Try.prog 77 #[.agg #[.int .i64 a.u, .int .i64 a.l, .int .i64 a.n], .agg #[.int .i64 b.u, .int .i64 b.l, .int .i64 b.n]] w fun e w' => e = .returned (.bool (Mt.ahead a b)) ∧ Below w.heap.size w w' := by
  obtain ⟨u1, l1, n1⟩ := a
  obtain ⟨u2, l2, n2⟩ := b
  dsimp only at *
  have hbb : ∀ o1 o2, Below w.heap.size w ((w.alloc o1).alloc o2) := fun o1 o2 => ((Below.refl _ _).alloc (Nat.le_refl _) o1).alloc (by simp) o2
  have HB := Lib.hid hbb
  clear hbb
  by_cases h1 : n1 = n2
  case neg =>
    have hne : (n1 != n2) = true := by simpa using h1
    have H1 := Lib.hid h1
    clear h1
    go_enter Try.func77, Try.ntmps77
    go_wp2_with fail
    go_ret
    exact ⟨ret_bool (by simp [Mt.ahead, H1.out]), HB.out _ _⟩
  subst h1
  have hne : (n1 != n1) = false := by simp
  by_cases h2 : u1 < u2
  · go_enter Try.func77, Try.ntmps77
    go_wp2_with fail
    go_ret
    exact ⟨ret_bool (by simp [Mt.ahead, h2]), HB.out _ _⟩
  by_cases h3 : u1 = u2
  · subst h3
    have hee : (u1 == u1) = true := by simp
    go_enter Try.func77, Try.ntmps77
    go_wp2_with fail
    go_ret
    exact ⟨ret_bool (by simp [Mt.ahead]), HB.out _ _⟩
  · have hee : (u1 == u2) = false := by simpa using h3
    have H3 := Lib.hid h3
    have H2 := Lib.hid h2
    clear h3
    go_enter Try.func77, Try.ntmps77
    go_wp2_with fail
    go_ret
    exact ⟨ret_bool (by simp [Mt.ahead, H3.out]; have := H2.out; omega), HB.out _ _⟩

/-- three-way comparison -/
def cmpI (a b : Int) : Int := if a < b then -1 else if b < a then 1 else 0
theorem cmpI_in (a b : Int) : -1 ≤ cmpI a b ∧ cmpI a b ≤ 1 := by unfold cmpI; split <;> (try split) <;> omega
/-- the first that is not 0 -/
def orI : List Int → Int
  | [] => 0
  | x :: xs => if x = 0 then orI xs else x
/-- the sign of two lines' order -/
def cmpL (a b : Line) : Int := orI [cmpI a.n b.n, cmpI a.u b.u, cmpI a.l b.l]
theorem cmpL_neg (a b : Line) : cmpL a b < 0 ↔ Mt.ahead a b = true := by
  rw [ahead_iff]; unfold cmpL
  simp only [orI, cmpI]
  repeat' split
  all_goals omega
theorem cmpL_in (a b : Line) : -1 ≤ cmpL a b ∧ cmpL a b ≤ 1 := by
  unfold cmpL
  simp only [orI, cmpI]
  repeat' split
  all_goals omega
set_option maxHeartbeats 400000 in
theorem isNaN_any (a : Int) (w : World) : Calls Try.prog 74 #[.int .i64 a] w fun e w' => e = .returned (.bool false) ∧ w = w' := by
  go_enter Try.func74, Try.ntmps74
  go_wp2
  go_ret
  exact ⟨ret_bool (by simp), rfl⟩
set_option maxHeartbeats 400000 in
theorem compare_any (a b : Int) (w : World) : Calls Try.prog 46 #[.int .i64 a, .int .i64 b] w fun e w' => e = .returned (.int .i64 (cmpI a b)) ∧ w = w' := by
  by_cases h1 : a < b
  · go_enter Try.func46, Try.ntmps46
    go_wp2_with (go_at_call 74; refine (isNaN_any _ _).mono ?_; rintro e w' ⟨rfl, rfl⟩)
    go_ret
    exact ⟨ret_int (by unfold cmpI; rw [if_pos h1]), rfl⟩
  by_cases h2 : b < a
  · go_enter Try.func46, Try.ntmps46
    go_wp2_with (go_at_call 74; refine (isNaN_any _ _).mono ?_; rintro e w' ⟨rfl, rfl⟩)
    go_ret
    exact ⟨ret_int (by unfold cmpI; rw [if_neg (by omega), if_pos (by omega)]), rfl⟩
  · go_enter Try.func46, Try.ntmps46
    go_wp2_with (go_at_call 74; refine (isNaN_any _ _).mono ?_; rintro e w' ⟨rfl, rfl⟩)
    go_ret
    exact ⟨ret_int (by unfold cmpI; rw [if_neg (by omega), if_neg (by omega)]), rfl⟩
set_option maxHeartbeats 1000000 in
theorem or_any (A : Option Addr) (n c : Nat) (zs : List Int) (w : World) (h : ISl w w.heap.size A n c zs) (hn : n ≤ 1000) :
    Calls Try.prog 45 #[.slice A n c] w fun e w' => e = .returned (.int .i64 (orI zs)) ∧ w = w' := by
  have HL := Lib.hid h.len
  go_enter Try.func45, Try.ntmps45
  go_wp2
  go_loop [8] (fun i => ∃ k : Nat, k ≤ n ∧ i = .int .i64 k ∧ Hid (orI (zs.drop k) = orI zs)) (fun i => n - (intOf i).toNat)
  case atStart => exact ⟨0, Nat.zero_le _, rfl, rfl⟩
  case round =>
    obtain ⟨k, hk, rfl, hor⟩ := hrel
    by_cases hlt : k < n
    · obtain ⟨b, off, rfl, hbB, hkz, hc⟩ := h.at_ hlt
      have p1 := hc k hlt
      have HD : Hid (zs.drop k = gI zs k :: zs.drop (k + 1)) := by show _ = _; rw [gI_lt hkz]; exact (List.drop_eq_getElem_cons hkz)
      clear hc
      generalize gI zs k = z at *
      by_cases hz : z = 0
      · subst hz
        have hne : ((0 : Int) != 0) = false := by simp
        go_wp2
        go_round
        case rel => exact ⟨k + 1, by omega, by go_num, by show _ = _; rw [← hor.out, HD.out]; simp [orI]⟩
        case measure => simp [intOf]; omega
      · have hne : (z != 0) = true := by simpa using hz
        have HZ := Lib.hid hz
        clear hz
        go_wp2
        go_ret
        exact ⟨ret_int (by rw [← hor.out, HD.out]; simp [orI, HZ.out]), rfl⟩
    · go_wp2
      go_ret
      exact ⟨ret_int (by rw [← hor.out, List.drop_eq_nil_of_le (by rw [HL.out]; omega)]; rfl), rfl⟩
end Go.Proofs.Ytpkfpegilhadfaa
