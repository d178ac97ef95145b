/- Contracts of the laws' own functions on lines: linksOf, sameLines. -/
import Derived.Test.YtpkfpegilhadfaaMtLine
import Derived.Test.YtpkfpegilhadfaaMtLinks
import Derived.Test.YtpkfpegilhadfaaQuiet
import Derived.Laws.StructEq
import Derived.Deep.AppendLies
import Derived.Deep.RegionHeld3
set_option linter.unusedVariables false
namespace Go.Proofs.Ytpkfpegilhadfaa
open Go.RowKit Lk Mt

theorem cell3_zero (w : World) (a b c : Value) (t : TypeId) : ∀ (j : Nat) (u : Value), [a, b, c][j]? = some u → (w.alloc (.cells #[a, b, c] t)).cell? ((⟨w.heap.size, 0, none⟩ : Addr).add j) = some u := cell3_new w a b c t rfl
theorem linksOf_snoc {L : List Line} {k : Nat} (h : k < L.length) : (L.take k).map Mt.lk ++ [⟨(gX L k).l, (gX L k).u, (gX L k).n⟩] = (L.take (k + 1)).map Mt.lk := by
  rw [take_snocX h, List.map_append]; rfl
set_option maxRecDepth 100000 in
set_option maxHeartbeats 1000000 in
theorem sameLines_same (A A' : Option Addr) (n c n' c' : Nat) (ls : List Link) (w : World) (h : LSl w w.heap.size A n c ls) (h' : LSl w w.heap.size A' n' c' ls) (hn : n ≤ 16777216) :
    Calls Try.prog 31 #[.slice A n c, .slice A' n' c'] w fun e w' => e = .returned (.bool true) ∧ Below w.heap.size w w' := by
  obtain rfl : n = n' := h.len.symm.trans h'.len
  go_enter Try.func31, Try.ntmps31
  go_wp2
  go_loopw [5] (fun i wr => ∃ k : Nat, k ≤ n ∧ i = .int .i64 k ∧ Below w.heap.size w wr) (fun i _ => n - (intOf i).toNat)
  case atStart => exact ⟨0, Nat.zero_le _, rfl, Below.refl _ _⟩
  case round =>
    obtain ⟨k, hk, rfl, hb⟩ := hrel
    by_cases hlt : k < n
    · obtain ⟨b, off, rfl, hbB, hkz, hc⟩ := h.at_ hlt
      obtain ⟨b', off', rfl, hbB', _, hc'⟩ := h'.at_ hlt
      obtain ⟨q1, q2, q3⟩ := hc k hlt
      obtain ⟨r1, r2, r3⟩ := hc' k hlt
      have p1 := (bcell hb _ _ hbB).trans q1
      have p2 := (bcell hb _ _ hbB).trans q2
      have p3 := (bcell hb _ _ hbB).trans q3
      have s1 := (bcell hb _ _ hbB').trans r1
      have s2 := (bcell hb _ _ hbB').trans r2
      have s3 := (bcell hb _ _ hbB').trans r3
      have hlt' : (k : Int) < (n : Int) := by omega
      clear q1 q2 q3 r1 r2 r3 hc hc'
      go_wp2
      go_quiet (fail)
      go_wp2
      go_roundw
      case rel => exact ⟨k + 1, by omega, by go_num, below_drewN hb _⟩
      case measure => simp [intOf]; omega
    · go_wp2
      go_ret
      exact ⟨rfl, hb⟩
theorem link_infoM : (Try.prog.info? 51).map (fun i => (i.zero, i.size, i.bytes)) = some (some (.agg #[.int .i64 0, .int .i64 0, .int .i64 0]), 3, 24) := by kernel_rfl
set_option maxRecDepth 100000 in
set_option maxHeartbeats 4000000 in
theorem linksOf_any (A : Option Addr) (n c : Nat) (L : List Line) (w : World) (h : LSl w w.heap.size A n c (L.map lm)) (hn : n ≤ 1000) :
    Calls Try.prog 28 #[.slice A n c] w fun e w' => ∃ (A' : Option Addr) (c' : Nat), e = .returned (.slice A' (min 30 n) c') ∧ LOwn w' w.heap.size 51 (.slice A' (min 30 n) c') (min 30 n) (Mt.linksOf L) ∧ Below w.heap.size w w' := by
  obtain ⟨i7, hi7, hy0, hy1, hy2⟩ := info_parts link_infoM
  have HL : Hid (L.length = n) := by show _ = _; have := h.len; simpa using this
  obtain ⟨T, hT⟩ : ∃ T, min 30 n = T := ⟨_, rfl⟩
  have hT30 : T ≤ 30 := by omega
  have hTn : T ≤ n := by omega
  have HT := Lib.hid hT
  rw [hT]
  clear hT
  have hlit : LOwn (w.alloc (.cells #[] 51)) w.heap.size 51 (.slice (some ⟨w.heap.size, 0, none⟩) 0 0) 0 [] := LOwn.lit0 w 51
  have hb0 : Below w.heap.size w (w.alloc (.cells #[] 51)) := (Below.refl _ _).alloc (Nat.le_refl _) _
  go_enter Try.func28, Try.ntmps28
  go_wp2
  go_loopw [3, 4] (fun v i wr => ∃ (k : Nat) (A' : Option Addr) (c' : Nat), k ≤ T ∧ i = .int .i64 k ∧ v = .slice A' k c' ∧ LOwn wr w.heap.size 51 (.slice A' k c') k ((L.take k).map Mt.lk) ∧ Below w.heap.size w wr) (fun _ i _ => T - (intOf i).toNat)
  case atStart => exact ⟨0, _, 0, Nat.zero_le _, rfl, rfl, hlit, hb0⟩
  case round =>
    obtain ⟨k, A7, c7, hk, rfl, rfl, hown, hb⟩ := hrel
    clear hlit hb0
    by_cases hlt : k < T
    · have hkn : k < n := by omega
      obtain ⟨b, off, rfl, hbB, hkz, hc⟩ := h.at_ hkn
      obtain ⟨q1, q2, q3⟩ := hc k hkn
      rw [gL_lm] at q1 q2 q3
      have HSN := Lib.hid (linksOf_snoc (L := L) (k := k) (by rw [HL.out]; exact hkn))
      obtain ⟨X, hX⟩ : ∃ X, gX L k = X := ⟨_, rfl⟩
      have HX := Lib.hid hX
      rw [hX] at q1 q2 q3
      clear hX hc
      obtain ⟨xu, xl, xn⟩ := X
      unfold lm at q1 q2 q3
      dsimp only at q1 q2 q3
      have p1 := (bcell hb _ _ hbB).trans q1
      have p2 := (bcell hb _ _ hbB).trans q2
      have p3 := (bcell hb _ _ hbB).trans q3
      have hkI : (k : Int) < (n : Int) := by omega
      have hk30 : (k : Int) < 30 := by omega
      have hbr : b < wr.heap.size := by have := hb.size; omega
      obtain ⟨xs, hxo, hxx⟩ := hown.row
      have HXX := Lib.hid hxx
      have HXL := Lib.hid hxo.1
      have HLL := Lib.hid hown.len
      have hsz := hb.size
      have hne : (Value.slice A7 k c7).ownBlock ≠ some b := fun e => by have := (hxo.lt b e).1; omega
      clear hxx hown q1 q2 q3
      go_wp2
      go_region_held3 (fun w' => w'.cell? ⟨b, off + k * 3, none⟩ = some (.int .i64 xu) ∧ w'.cell? ⟨b, off + k * 3 + 1, none⟩ = some (.int .i64 xl) ∧ w'.cell? ⟨b, off + k * 3 + 2, none⟩ = some (.int .i64 xn))
        (first
          | go_keep
          | (go_split_ands
             refine ⟨?_, ?_, ?_⟩
             · (rw [hgrow.cell_far _ (by simp; omega) (Ne.symm hne)]; assumption)
             · (rw [hgrow.cell_far _ (by simp; omega) (Ne.symm hne)]; assumption)
             · (rw [hgrow.cell_far _ (by simp; omega) (Ne.symm hne)]; assumption)))
        ((refine step_append_lies _ (by rfl) _ _ _ (by rfl) w.heap.size 51 i7 _ 3 24 Try.underlying47 hi7 hy0 hy1 hy2 rfl (by omega) (.slice A7 k c7) k xs (by rfl) ((hxo.alloc _).drew)
              ⟨wr.heap.size, 0, none⟩ 1 1 [.int .i64 xl, .int .i64 xu, .int .i64 xn] (by rfl) (by rfl) (cell3_zero wr _ _ _ _) (by simp [Value.oneCell'])
              (by omega) (by unfold maxLen; omega) (by omega) (by simp; omega) (wr.heap.size + 1) (by simp) ?_; intro gg cap w5 hown5 hgrow hat hlt5))
      have hb5 : Below w.heap.size w w5 := (below_drew (hb.alloc hsz _)).grown (w' := w5) hgrow (by simp; omega) (fun q hq => (hxo.lt q hq).1)
      have hL5 : LOwn w5 w.heap.size 51 (.slice (some ⟨gg, 0, none⟩) (k + 1) cap) (k + 1) ((L.take (k + 1)).map Mt.lk) := by
        have := LOwn.snoc (l := ⟨xl, xu, xn⟩) HXX.out HLL.out HXL.out hown5
        rw [← HSN.out, HX.out]; exact this
      have HO := Lib.hid (And.intro hL5 hb5)
      clear hown5 hgrow hat hb hxo hL5 hb5
      go_wp2
      go_roundw
      case rel => exact ⟨k + 1, _, cap, by omega, by go_num, rfl, HO.out.1, HO.out.2⟩
      case measure => simp [intOf]; omega
    · obtain rfl : k = T := by omega
      have HE : Hid ((L.take k).map Mt.lk = Mt.linksOf L) := by
        show _ = _
        unfold Mt.linksOf
        congr 1
        by_cases c : n ≤ 30
        · rw [List.take_of_length_le (by rw [HL.out]; have := HT.out; omega), List.take_of_length_le (by rw [HL.out]; exact c)]
        · rw [show k = 30 by have := HT.out; omega]
      have HO := Lib.hid (And.intro hown hb)
      clear hown hb
      by_cases hkn : k < n
      · have hk30 : k = 30 := by have := HT.out; omega
        subst hk30
        have g1 : (30 : Int) < (n : Int) := by omega
        go_wp2
        go_ret
        exact ⟨_, _, rfl, by rw [← HE.out]; exact HO.out.1, HO.out.2⟩
      · have g1 : ¬ ((k : Int) < (n : Int)) := by omega
        go_wp2
        go_ret
        exact ⟨_, _, rfl, by rw [← HE.out]; exact HO.out.1, HO.out.2⟩
end Go.Proofs.Ytpkfpegilhadfaa
