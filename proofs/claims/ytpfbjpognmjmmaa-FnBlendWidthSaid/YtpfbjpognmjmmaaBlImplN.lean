/- The contract of the program's BlendsOf and BlendsMany, for every list. -/
import Derived.Test.YtpfbjpognmjmmaaBlImpl
set_option linter.unusedVariables false
namespace Go.Proofs.Ytpfbjpognmjmmaa
open Go.RowKit Go.Shelf Bl

attribute [local go_sem] Oper.semAt_some
set_option maxRecDepth 100000 in
set_option maxHeartbeats 1000000 in
theorem cut_nil (m l b1 b2 c : Nat) (A : Option Addr) (J : List (Sg 0) → World → Prop) (W : World) (h1 : W.cell? ⟨b1, 0, none⟩ = some (.slice A 0 c)) (h0 : J [] W) :
    CallsIn Fence.wide m Try.prog 45 #[.func (.yield l) #[] #[], .pointer (some ⟨b1, 0, none⟩), .pointer (some ⟨b2, 0, none⟩)] W fun e W' => (∃ v, e = .returned v) ∧ J [] W' := by
  refine callsIn_of_wp Try.func45 rfl trivial ?_ rfl
  simp only [Try.ntmps45, List.size_toArray, List.length_cons, List.length_nil, Nat.reduceAdd, Nat.reduceSub, Array.replicate_succ, Array.replicate_zero, List.push_toArray, List.append_toArray, List.nil_append, List.cons_append]
  gi_wp2
  refine wpIn_loop_rounds 1 ?_
  rw [roundsIn_succ]
  gi_wp2
  go_end0
  exact ⟨⟨_, rfl⟩, h0⟩
set_option maxRecDepth 100000 in
set_option maxHeartbeats 4000000 in
theorem iBlendsOf_nil (A : Option Addr) (c : Nat) (wd : Int) (w : World) (hwd : 0 ≤ wd ∧ wd ≤ 200000) :
    Calls Try.prog 23 #[.slice A 0 c, .int .i64 wd] w (GroupsRes [] wd w) := by
  have hv : blOk [] = true := blOk_mk (by simp) (fun i hi => by simp at hi)
  have HY : Hid (blOk [] = true ∧ 0 ≤ wd ∧ wd ≤ 200000) := ⟨hv, hwd⟩
  refine (callsIn_wide (n := 3)).1 ?_
  refine callsIn_of_wp_marks Try.func23 rfl trivial ?_ rfl
  simp only [Try.ntmps23, List.size_toArray, List.length_cons, List.length_nil, Nat.reduceAdd, Nat.reduceSub, Array.replicate_succ, Array.replicate_zero, List.push_toArray, List.append_toArray, List.nil_append, List.cons_append]
  gi_wp2_with (first
    | (refine ⟨trivial, ?_⟩; gi_at_call 31; refine (callsIn_wide.2 (blendListValid_any _ _ _ _ _ _ (ISl.nil w w.heap.size A c) (by omega))).mono ?_; rintro e w' ⟨rfl, rfl⟩; rw [hv])
    | (refine ⟨trivial, ?_⟩; gi_at_call 37; refine (callsIn_wide.2 (cutBlends_any _ _ _ _ _)).mono ?_; rintro e w' ⟨rfl, rfl⟩))
  have bB := Boxed.new w 37 (.slice none 0 0)
  have b1 := Boxed.new (w.alloc (.cells #[.slice none 0 0] 37)) 22 (.slice A 0 c)
  simp only [World.size_alloc] at b1
  have bB' := (bB.alloc (.cells #[.slice A 0 c] 22)).alloc (.cells #[.int .i64 wd] 3)
  have b1' := b1.alloc (.cells #[.int .i64 wd] 3)
  have hB0 : Below w.heap.size w (((w.alloc (.cells #[.slice none 0 0] 37)).alloc (.cells #[.slice A 0 c] 22)).alloc (.cells #[.int .i64 wd] 3)) := (((Below.refl _ w).alloc (Nat.le_refl _) _).alloc (by simp) _).alloc (by simp; omega) _
  have hz0 : (((w.alloc (.cells #[.slice none 0 0] 37)).alloc (.cells #[.slice A 0 c] 22)).alloc (.cells #[.int .i64 wd] 3)).heap.size = w.heap.size + 3 := by simp
  generalize ((w.alloc (.cells #[.slice none 0 0] 37)).alloc (.cells #[.slice A 0 c] 22)).alloc (.cells #[.int .i64 wd] 3) = W0 at bB' b1' hB0 hz0 ⊢
  clear bB b1
  have hBz := Lib.hid hB0
  have hzl : w.heap.size + 3 ≤ W0.heap.size := by omega
  refine wpIn_rangeFunc_ownF rfl (by omega) (gf := 45) (lb := #[.pointer (some ⟨w.heap.size + 1, 0, none⟩), .pointer (some ⟨w.heap.size + 1 + 1, 0, none⟩)]) rfl trivial (enters_of Try.func45 (by kernel_rfl) rfl)
    (encs := fun _ : Sg 0 => #[undef]) (Kp := KpC (w.heap.size + 3) w.heap.size) (S := fun xs : List (Sg 0) => xs = []) (Sp := fun _ => True) (N := 0) (w0 := W0)
    (fun l J Jx W hW hJ hJx hY h0 => (cut_nil _ l (w.heap.size + 1) (w.heap.size + 1 + 1) c A J W ((hW.cell (p := ⟨w.heap.size + 1, 0, none⟩) b1'.lt).trans b1'.cell) h0).mono fun e W' ⟨he, hj⟩ => ⟨he, .inl ⟨[], rfl, hj⟩⟩)
    (fun h k => h.trans k) (fun W l o o' hl ho hc _ => KpC.putObj W o' (by omega)) (Below.refl _ _) (fun _ => rfl)
    (RInv [] 0 (w.heap.size + 3) w.heap.size W0) (fun _ _ _ => False)
    (rInv_own [] 0 _ _ _ W0 hzl hzl) (fun _ _ _ _ _ hs _ _ => hs)
    ⟨⟨_, fun _ => undef, bB', rfl, OwnR.nil _ _ _ _ _, fun i hi => absurd hi (by simp), fun i j k hi => absurd hi (by simp)⟩, KpC.refl _⟩
    (fun x => { tmps := #[], defers := [] }) ?assign ?body ?done ?stop
  case assign =>
    rintro l ⟨x, h1, h2⟩ W K hK
    exact absurd h1 (by omega)
  case body =>
    rintro l pre ⟨x, h1, h2⟩ W hI hlt
    exact absurd h1 (by omega)
  case done =>
    rintro D xs W hD rfl ⟨⟨v, S, hv, hG⟩, hKp⟩ hDD
    have hc := hv.cell
    obtain ⟨A7, c7, rfl⟩ := hG.form
    have HB := Lib.hid (hBz.out.trans (hKp.below (by omega)))
    have HG : Hid (GOwn (W.putObj D (.deferred none)) w.heap.size (.slice A7 0 c7) 0 []) := by
      refine ⟨S, ?_⟩
      exact (hG.others (grownBy_putObj' W D (.deferred none)) (fun r e => by cases e; exact ⟨_, hDD, rfl⟩)).map fun _ _ _ _ h => own_base h (by omega)
    clear hG
    gi_wp2
    refine ⟨by simp, .inl ⟨_, _, rfl, run_takeDeferred hDD, ?_⟩⟩
    exact ⟨_, results_tmp2 rfl _ _ _, groupsRes_yes HY.out rfl HG.out (HB.out.trans ((KpC.putObj (n₁ := w.heap.size + 3) (B := w.heap.size) W (.deferred none) (by omega)).below (by omega)))⟩
  case stop =>
    rintro D c pre W _ _ h _
    exact h.elim

set_option maxHeartbeats 2000000 in
theorem iBlendsOf_any (A : Option Addr) (n c : Nat) (zs : List Int) (wd : Int) (w : World) (h : ISl w w.heap.size A n c zs) (hn : n ≤ 16777216) :
    Calls Try.prog 23 #[.slice A n c, .int .i64 wd] w (GroupsRes zs wd w) := by
  have HL := Lib.hid h.len
  rcases hv : blOk zs with _ | _
  · have HN : Hid (¬ (blOk zs = true ∧ 0 ≤ wd ∧ wd ≤ 200000)) := by show ¬ _; rw [hv]; simp
    go_enter Try.func23, Try.ntmps23
    go_wp2_with fail
    refine (blendListValid_any _ _ _ _ _ _ h hn).mono ?_
    rintro e w1 ⟨rfl, rfl⟩
    rw [hv]
    go_wp2
    go_ret2
    exact groupsRes_no HN.out rfl (GOwn.nil _ _) (Below.refl _ _)
  by_cases hlo : wd < 0
  · have HN : Hid (¬ (blOk zs = true ∧ 0 ≤ wd ∧ wd ≤ 200000)) := by show ¬ _; omega
    go_enter Try.func23, Try.ntmps23
    go_wp2_with fail
    refine (blendListValid_any _ _ _ _ _ _ h hn).mono ?_
    rintro e w1 ⟨rfl, rfl⟩
    rw [hv]
    go_wp2
    go_ret2
    exact groupsRes_no HN.out rfl (GOwn.nil _ _) (Below.refl _ _)
  by_cases hhi : 200000 < wd
  · have HN : Hid (¬ (blOk zs = true ∧ 0 ≤ wd ∧ wd ≤ 200000)) := by show ¬ _; omega
    go_enter Try.func23, Try.ntmps23
    go_wp2_with fail
    refine (blendListValid_any _ _ _ _ _ _ h hn).mono ?_
    rintro e w1 ⟨rfl, rfl⟩
    rw [hv]
    go_wp2
    go_ret2
    exact groupsRes_no HN.out rfl (GOwn.nil _ _) (Below.refl _ _)
  by_cases hn0 : n = 0
  · subst hn0
    obtain rfl : zs = [] := List.eq_nil_of_length_eq_zero HL.out
    exact iBlendsOf_nil A c wd w (by omega)
  · obtain ⟨b, off, rfl, _, _⟩ := h.mem (by omega)
    exact iBlendsOf_yes b off n c zs wd w h (by omega) ⟨hv, by omega, by omega⟩
set_option maxHeartbeats 1000000 in
theorem iBlendsMany_any (A : Option Addr) (n c : Nat) (zs : List Int) (wd : Int) (w : World) (h : ISl w w.heap.size A n c zs) (hn : n ≤ 16777216) :
    Calls Try.prog 16 #[.slice A n c, .int .i64 wd] w fun e w' => e = .returned (.int .i64 (if blB zs wd = true then ((blR zs wd).length : Int) else -1)) ∧ Below w.heap.size w w' := by
  rcases hok : blB zs wd with _ | _
  · go_enter Try.func16, Try.ntmps16
    go_wp2_with fail
    refine (iBlendsOf_any _ _ _ _ wd _ h hn).mono ?_
    rintro e w1 ⟨A1, m, c1, rfl, hG, hb⟩
    rw [hok]
    clear hG
    go_wp2
    go_ret
    exact ⟨rfl, hb⟩
  · go_enter Try.func16, Try.ntmps16
    go_wp2_with fail
    refine (iBlendsOf_any _ _ _ _ wd _ h hn).mono ?_
    rintro e w1 ⟨A1, m, c1, rfl, hG, hb⟩
    rw [hok]
    obtain ⟨S, hG⟩ := hG
    have HL := Lib.hid hG.len
    clear hG
    go_wp2
    go_ret
    exact ⟨ret_int (by rw [HL.out]), hb⟩
end Go.Proofs.Ytpfbjpognmjmmaa
