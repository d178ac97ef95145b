/- Contracts of the two functions that shift marks. -/
import Derived.Test.YtdhpnjmnjckihaaMkValid
import Derived.Test.YtdhpnjmnjckihaaAppR
import Derived.Deep.RegionHeld3
set_option linter.unusedVariables false
namespace Go.Proofs.Ytdhpnjmnjckihaa
open Go.RowKit Mk

/-- the marks that a shift returns -/
def shiftR (ls : List Mrk) (b : Int) : List Mrk := if shiftOk ls b = true then moved ls b else []
theorem shiftR_yes {ls : List Mrk} {b : Int} (h : shiftOk ls b = true) : shiftR ls b = moved ls b := by unfold shiftR; rw [if_pos h]
theorem shiftR_no {ls : List Mrk} {b : Int} (h : shiftOk ls b = false) : shiftR ls b = [] := by unfold shiftR; rw [h]; rfl
theorem shiftR_len (ls : List Mrk) (b : Int) : (shiftR ls b).length ≤ 10 := by
  rcases h : shiftOk ls b with _ | _
  · rw [shiftR_no h]; simp
  · rw [shiftR_yes h]; exact (mkOk_len (shiftOk_parts h).2.2.2).2
theorem mkOk_in {ls : List Mrk} (h : mkOk ls = true) : ∀ l ∈ ls, InM l := by
  intro l hl
  obtain ⟨i, hi, rfl⟩ := List.mem_iff_getElem.1 hl
  have := mkOk_at h hi
  unfold okM at this
  rw [gM_lt hi] at this
  unfold InM InI; omega
theorem shiftR_in (ls : List Mrk) (b : Int) : ∀ l ∈ shiftR ls b, InM l := by
  rcases h : shiftOk ls b with _ | _
  · rw [shiftR_no h]; intro l hl; cases hl
  · rw [shiftR_yes h]; exact mkOk_in (shiftOk_parts h).2.2.2
theorem markV_one (ls : List Mrk) (i j : Nat) : (markV ls i j).oneCell' = true := by
  unfold markV markC; split <;> rfl
theorem MOwn.of_row {w : World} {base : Nat} {E : TypeId} {v : Value} {n : Nat} {ls : List Mrk} (hl : ls.length = n) (h : OwnR w base E 2 v n (appR (markV []) 0 (markV ls))) : MOwn w base E v n ls :=
  ⟨hl, h.congr fun i j hi hj => by unfold appR; rw [if_neg (by omega)]; rfl⟩
theorem moved_in {ls : List Mrk} (h : mkOk ls = true) {b : Int} (h1 : -100000 ≤ b) (h2 : b ≤ 100000) : ∀ l ∈ moved ls b, InM l := by
  intro l hl
  obtain ⟨x, hx, rfl⟩ := List.mem_map.1 hl
  obtain ⟨i, hi, rfl⟩ := List.mem_iff_getElem.1 hx
  have := mkOk_at h hi
  unfold okM at this
  rw [gM_lt hi] at this
  unfold InM InI; dsimp only; omega
/-- the first k are moved -/
def movedTo (ls : List Mrk) (b : Int) (k : Nat) : List Mrk := moved (ls.take k) b ++ ls.drop k
theorem movedTo_len (ls : List Mrk) (b : Int) (k : Nat) : (movedTo ls b k).length = ls.length := by simp [movedTo, moved]; omega
theorem movedTo_at {ls : List Mrk} {b : Int} {k i : Nat} (hk : k ≤ ls.length) : gM (movedTo ls b k) i = if i < k then ⟨(gM ls i).p + b, (gM ls i).n⟩ else gM ls i := by
  unfold movedTo
  have hl : (moved (ls.take k) b).length = k := by simp [moved]; omega
  by_cases c : i < k
  · rw [if_pos c]
    have : gM (moved (ls.take k) b ++ ls.drop k) i = gM (moved (ls.take k) b) i := by unfold gM; rw [List.getElem?_append_left (by omega)]
    rw [this, moved_at (by simp; omega)]
    have e : gM (ls.take k) i = gM ls i := by simp [gM, c]
    rw [e]
  · rw [if_neg c]
    unfold gM
    rw [List.getElem?_append_right (by omega), hl, List.getElem?_drop, show k + (i - k) = i by omega]
theorem movedTo_set {ls : List Mrk} {b : Int} {k : Nat} (h : k < ls.length) : (movedTo ls b k).set k ⟨(gM ls k).p + b, (gM (movedTo ls b k) k).n⟩ = movedTo ls b (k + 1) := by
  have e0 : gM (movedTo ls b k) k = gM ls k := by rw [movedTo_at (by omega), if_neg (by omega)]
  rw [e0]
  apply gM_ext
  · simp [movedTo_len]
  · intro i hi
    rw [gM_set (by rw [movedTo_len]; exact h), movedTo_at (k := k) (by omega), movedTo_at (k := k + 1) (by omega)]
    by_cases e : i = k
    · subst e; rw [if_pos rfl, if_pos (by omega)]
    · rw [if_neg e]
      by_cases e2 : i < k
      · rw [if_pos e2, if_pos (by omega)]
      · rw [if_neg e2, if_neg (by omega)]
theorem movedTo_all {ls : List Mrk} {b : Int} : movedTo ls b ls.length = moved ls b := by simp [movedTo]
theorem moved_snoc {ls : List Mrk} {b : Int} {k : Nat} (h : k < ls.length) : moved (ls.take (k + 1)) b = moved (ls.take k) b ++ [⟨(gM ls k).p + b, (gM ls k).n⟩] := by
  rw [take_snocM h]; simp [moved]

theorem own_form2 {w : World} {base s n : Nat} {E : TypeId} {v : Value} {R : Nat → Nat → Value} (h : OwnR w base E s v n R) (hn : 0 < n) : ∃ g c, v = .slice (some ⟨g, 0, none⟩) n c ∧ base ≤ g ∧ g < w.heap.size := by
  obtain ⟨xs, h1, _⟩ := h
  rcases h1.2 with ⟨rfl, rfl⟩ | ⟨g, cap, cur, rfl, hb, hh, _⟩
  · omega
  · exact ⟨g, cap, rfl, hb, (h1.lt g rfl).2⟩
def ShiftRes (ls : List Mrk) (b : Int) (w : World) (e : Ending) (w' : World) : Prop :=
  ∃ A m c, e = .returned (.tuple #[.slice A m c, .bool (shiftOk ls b)]) ∧ MOwn w' w.heap.size 32 (.slice A m c) m (shiftR ls b) ∧ Below w.heap.size w w'
theorem shiftRes_no {ls : List Mrk} {b : Int} {w w' : World} {e : Ending} (h : shiftOk ls b = false) (he : e = .returned (.tuple #[.slice none 0 0, .bool false])) (hb : Below w.heap.size w w') : ShiftRes ls b w e w' :=
  ⟨none, 0, 0, by rw [h]; exact he, by rw [shiftR_no h]; exact ⟨rfl, OwnR.nil _ _ _ _ _⟩, hb⟩
theorem shiftRes_yes {ls : List Mrk} {b : Int} {w w' : World} {e : Ending} {A : Option Addr} {m c : Nat} (h : shiftOk ls b = true) (he : e = .returned (.tuple #[.slice A m c, .bool true])) (ho : MOwn w' w.heap.size 32 (.slice A m c) m (moved ls b)) (hb : Below w.heap.size w w') : ShiftRes ls b w e w' :=
  ⟨A, m, c, by rw [h]; exact he, by rw [shiftR_yes h]; exact ho, hb⟩

set_option maxHeartbeats 4000000 in
theorem iMarkShift_any (A : Option Addr) (n c : Nat) (ls : List Mrk) (b : Int) (w : World) (h : MSl w w.heap.size A n c ls) :
    Calls Try.prog 14 #[.slice A n c, .int .i64 b] w (ShiftRes ls b w) := by
  have HL := Lib.hid h.len
  have hfew := h.few
  unfold maxLen at hfew
  obtain ⟨i0, hi, hz0, hz1, hz2⟩ := info_parts mark_info
  rcases hv : mkOk ls with _ | _
  · have HS : Hid (shiftOk ls b = false) := by show shiftOk ls b = false; unfold shiftOk; rw [hv]; rfl
    go_enter Try.func14, Try.ntmps14
    go_wp2_with fail
    refine (iMarksValid_any _ _ _ _ _ h).mono ?_
    rintro e w1 ⟨rfl, hb1⟩
    rw [hv]
    go_wp2
    go_ret2
    exact shiftRes_no HS.out rfl hb1
  by_cases hlo : b < -100000
  · have HS : Hid (shiftOk ls b = false) := by show shiftOk ls b = false; unfold shiftOk; simp; omega
    go_enter Try.func14, Try.ntmps14
    go_wp2_with fail
    refine (iMarksValid_any _ _ _ _ _ h).mono ?_
    rintro e w1 ⟨rfl, hb1⟩
    rw [hv]
    go_wp2
    go_ret2
    exact shiftRes_no HS.out rfl hb1
  by_cases hhi : 100000 < b
  · have HS : Hid (shiftOk ls b = false) := by show shiftOk ls b = false; unfold shiftOk; simp; omega
    go_enter Try.func14, Try.ntmps14
    go_wp2_with fail
    refine (iMarksValid_any _ _ _ _ _ h).mono ?_
    rintro e w1 ⟨rfl, hb1⟩
    rw [hv]
    go_wp2
    go_ret2
    exact shiftRes_no HS.out rfl hb1
  have hl2 := mkOk_len hv
  rw [HL.out] at hl2
  have HV := Lib.hid hv
  have HIN := Lib.hid (moved_in hv (b := b) (by omega) (by omega))
  have HIM := Lib.hid (mkOk_in hv)
  have HOKM : Hid (∀ i, i < ls.length → 0 ≤ (gM ls i).p ∧ (gM ls i).p ≤ 100000) := fun i hi => by have := mkOk_at HV.out hi; unfold okM at this; omega
  go_enter Try.func14, Try.ntmps14
  go_wp2_with fail
  refine (iMarksValid_any _ _ _ _ _ h).mono ?_
  rintro e w1 ⟨rfl, hb1⟩
  rw [hv]
  clear hv
  have h1 := (h.below hb1).row
  go_wp2_with (at_builtin; refine list_rows rfl _ _ _ _ rfl w.heap.size 32 i0 _ 2 16 Try.underlying25 hi hz0 hz1 hz2 rfl (by omega) (by omega) (.slice none 0 0) 0 (markV []) rfl (OwnR.nil _ _ _ _ _) w.heap.size A n c (markV ls) rfl h1 (fun i j _ _ => markV_one ls i j) n (by omega) (by omega) hb1.size ?_; intro v' w2 hrow hg; obtain ⟨g, c', rfl, hg1, hg2⟩ := own_form2 hrow (by omega))
  have hown := MOwn.of_row HL.out hrow
  have hb2 : Below w.heap.size w w2 := hb1.grown hg hb1.size (by intro g e; cases e)
  clear hrow hg hb1 h1
  go_loopw [23] (fun i wr => ∃ k : Nat, k ≤ n ∧ i = .int .i64 k ∧ MOwn wr w.heap.size 32 (.slice (some ⟨g, 0, none⟩) n c') n (movedTo ls b k) ∧ Below w.heap.size w wr) (fun i _ => n - (intOf i).toNat)
  case atStart => exact ⟨0, Nat.zero_le _, rfl, by simpa [movedTo, moved] using hown, hb2⟩
  case round =>
    obtain ⟨k, hk, rfl, hown, hb⟩ := hrel
    clear hb2
    by_cases hlt : k < n
    · obtain ⟨d1, _⟩ := hown.cells hlt
      have f1 := hown.frozen (k * 2)
      have hbk := HOKM.out k (by rw [HL.out]; exact hlt)
      have e0 : gM (movedTo ls b k) k = gM ls k := by rw [movedTo_at (by rw [HL.out]; omega), if_neg (by omega)]
      have hst := hown.setP hlt ((gM ls k).p + b)
      rw [movedTo_set (by rw [HL.out]; exact hlt)] at hst
      rw [e0] at d1
      have HS := Lib.hid (And.intro hst.1 (hb.grown hst.2 hb.size (by intro q e; injection e; omega)))
      clear hst hown e0
      go_wp2
      go_roundw
      case rel => exact ⟨k + 1, by omega, by go_num, HS.out.1, HS.out.2⟩
      case measure => simp [intOf]; omega
    · obtain rfl : k = n := by omega
      have hmv : movedTo ls b k = moved ls b := by
        have := movedTo_all (ls := ls) (b := b)
        rw [HL.out] at this; exact this
      rw [hmv] at hown
      clear hmv
      have i3 := MSl.of_own hown HIN.out
      go_wp2_with fail
      refine (iMarksValid_any _ _ _ _ _ i3).mono ?_
      rintro e w4 ⟨rfl, hb4⟩
      have hT := Below.step hb hb4
      have hown4 := hown.below hb4
      clear hown i3
      rcases hv2 : mkOk (moved ls b) with _ | _
      · have HS : Hid (shiftOk ls b = false) := by show shiftOk ls b = false; unfold shiftOk; rw [hv2]; simp
        go_wp2
        go_ret2
        exact shiftRes_no HS.out rfl hT
      · have HS : Hid (shiftOk ls b = true) := by show shiftOk ls b = true; unfold shiftOk; rw [hv2, HV.out]; simp; omega
        go_wp2
        go_ret2
        exact shiftRes_yes HS.out rfl hown4 hT

theorem cell_two_new (w : World) (a b : Value) (t : TypeId) : ∀ (j : Nat) (u : Value), [a, b][j]? = some u → (w.alloc (.cells #[a, b] t)).cell? ((⟨w.heap.size, 0, none⟩ : Addr).add j) = some u := by
  intro j u hu
  have ea : (⟨w.heap.size, 0, none⟩ : Addr).add j = ⟨w.heap.size, j, none⟩ := by unfold Addr.add; split <;> simp_all
  rw [ea, cell_of_row (w.alloc _) _ j _ _ _ (heap_alloc_new w _)]
  match j, hu with
  | 0, hu => exact hu
  | 1, hu => exact hu
  | (j + 2), hu => simp at hu
theorem shiftRes_no2 {ls : List Mrk} {b : Int} {w w' : World} {e : Ending} {g : Nat} (h : shiftOk ls b = false) (he : e = .returned (.tuple #[.slice (some ⟨g, 0, none⟩) 0 0, .bool false])) (ho : MOwn w' w.heap.size 32 (.slice (some ⟨g, 0, none⟩) 0 0) 0 []) (hb : Below w.heap.size w w') : ShiftRes ls b w e w' :=
  ⟨_, 0, 0, by rw [h]; exact he, by rw [shiftR_no h]; exact ho, hb⟩
set_option maxHeartbeats 4000000 in
theorem sMarkShift_any (A : Option Addr) (n c : Nat) (ls : List Mrk) (b : Int) (w : World) (h : MSl w w.heap.size A n c ls) :
    Calls Try.prog 15 #[.slice A n c, .int .i64 b] w (ShiftRes ls b w) := by
  have HL := Lib.hid h.len
  have hfew := h.few
  unfold maxLen at hfew
  obtain ⟨i0, hi, hz0, hz1, hz2⟩ := info_parts mark_info
  have hba : Below w.heap.size w (w.alloc (.cells #[] 32)) := (Below.refl _ _).alloc (Nat.le_refl _) _
  have hO0 := MOwn.lit0 w 32
  have hA := (h.below hba).more hba.size
  rcases hv : mkOk ls with _ | _
  · have HS : Hid (shiftOk ls b = false) := by show shiftOk ls b = false; unfold shiftOk; rw [hv]; rfl
    go_enter Try.func15, Try.ntmps15
    go_wp2_with fail
    refine (sMarksValid_any _ _ _ _ _ hA).mono ?_
    rintro e w1 ⟨rfl, hb1⟩
    rw [hv]
    have HO := Lib.hid (hO0.below hb1)
    have HB := Lib.hid (hba.trans (hb1.mono hba.size))
    clear hO0 hb1
    go_wp2
    go_ret2
    exact shiftRes_no2 HS.out rfl HO.out HB.out
  rcases hin : inB b (-100000) 100000 with _ | _
  · have HS : Hid (shiftOk ls b = false) := by show shiftOk ls b = false; unfold shiftOk; have := inB_no hin; simp; omega
    go_enter Try.func15, Try.ntmps15
    go_wp2_with fail
    refine (sMarksValid_any _ _ _ _ _ hA).mono ?_
    rintro e w1 ⟨rfl, hb1⟩
    rw [hv]
    have HO := Lib.hid (hO0.below hb1)
    have HB := Lib.hid (hba.trans (hb1.mono hba.size))
    clear hO0 hb1
    go_wp2_with (go_at_call 19; refine (l6In_any _ _ _ _).mono ?_; rintro e w' ⟨rfl, rfl⟩)
    go_ret2
    exact shiftRes_no2 HS.out rfl HO.out HB.out
  have hbb := inB_yes hin
  have hl2 := mkOk_len hv
  rw [HL.out] at hl2
  have HV := Lib.hid hv
  have HIN := Lib.hid (moved_in hv (b := b) (by omega) (by omega))
  have HOKM : Hid (∀ i, i < ls.length → 0 ≤ (gM ls i).p ∧ (gM ls i).p ≤ 100000) := fun i hi => by have := mkOk_at HV.out hi; unfold okM at this; omega
  go_enter Try.func15, Try.ntmps15
  go_wp2_with fail
  refine (sMarksValid_any _ _ _ _ _ hA).mono ?_
  rintro e w1 ⟨rfl, hb1⟩
  rw [hv]
  have hO1 := hO0.below hb1
  have hB1 := hba.trans (hb1.mono hba.size)
  clear hO0 hb1 hA hba hv
  go_wp2_with (go_at_call 19; refine (l6In_any _ _ _ _).mono ?_; rintro e w' ⟨rfl, rfl⟩)
  go_loopw [6, 7] (fun v i wr => ∃ k : Nat, k ≤ n ∧ i = .int .i64 k ∧ MOwn wr w.heap.size 32 v k (moved (ls.take k) b) ∧ Below w.heap.size w wr) (fun _ i _ => n - (intOf i).toNat)
  case atStart => exact ⟨0, Nat.zero_le _, rfl, by simpa [moved] using hO1, hB1⟩
  case round =>
    obtain ⟨k, hk, rfl, hown, hb⟩ := hrel
    clear hO1 hB1 hin
    by_cases hlt : k < n
    · obtain ⟨bb, off, rfl, hbB, hkz, hc⟩ := h.at_ hlt
      obtain ⟨q1, q2⟩ := hc k hlt
      have p1 := (bcell hb _ _ hbB).trans q1
      have p2 := (bcell hb _ _ hbB).trans q2
      have hbk := HOKM.out k (by rw [HL.out]; exact hlt)
      have u1 : IntKind.i64.wrap ((gM ls k).p + b) = (gM ls k).p + b := IntWalk.i64_in _ (by omega)
      have hltI : (k : Int) < (n : Int) := by omega
      obtain ⟨A7, c7, rfl⟩ := hown.form
      obtain ⟨xs, hxo, hxx⟩ := hown.row
      have hxl := hxo.1
      have HXX := Lib.hid hxx
      have HXL := Lib.hid hxl
      have HLL := Lib.hid hown.len
      have hs4 := hb.size
      have hsz : bb < wr.heap.size := by omega
      have hne : (Value.slice A7 k c7).ownBlock ≠ some bb := fun e => by have := (hxo.lt bb e).1; omega
      clear q1 q2 hc hxx hxl hown
      go_wp2
      go_region_held3 (fun w' => w'.cell? ⟨bb, off + k * 2, none⟩ = some (.int .i64 (gM ls k).p) ∧ w'.cell? ⟨bb, off + k * 2 + 1, none⟩ = some (.int .i64 (gM ls k).n))
          (first
            | go_keep
            | (go_split_ands
               refine ⟨?_, ?_⟩
               · (rw [hgrow.cell_far _ (by simp; omega) (Ne.symm hne)]; assumption)
               · (rw [hgrow.cell_far _ (by simp; omega) (Ne.symm hne)]; assumption)))
          ((refine step_append_lies _ (by rfl) _ _ _ (by rfl) w.heap.size 32 i0 _ 2 16 Try.underlying25 hi hz0 hz1 hz2 rfl (by omega) (.slice A7 k c7) k xs (by rfl) ((hxo.alloc _).drew)
                ⟨wr.heap.size, 0, none⟩ 1 1 [.int .i64 ((gM ls k).p + b), .int .i64 (gM ls k).n] (by rfl) (by rfl) (cell_two_new wr _ _ _) (by simp [Value.oneCell'])
                (by omega) (by unfold maxLen; omega) (by omega) (by simp; omega) (wr.heap.size + 1) (by simp) ?_; intro gg cap w5 hown5 hgrow hat hlt5))
      have hb5 : Below w.heap.size w w5 := (hb.trans (((below_drew ((Below.refl _ _).alloc hs4 _)).grown (w' := w5) hgrow (by simp; omega) (fun q hq => (hxo.lt q hq).1)))) 
      have hL5 : MOwn w5 w.heap.size 32 (.slice (some ⟨gg, 0, none⟩) (k + 1) cap) (k + 1) (moved (ls.take k) b ++ [⟨(gM ls k).p + b, (gM ls k).n⟩]) := MOwn.snoc HXX.out HLL.out HXL.out hown5
      rw [← moved_snoc hkz] at hL5
      clear hown5 hgrow hat hxo p1 p2 u1
      go_wp2
      go_roundw
      case rel => exact ⟨k + 1, by omega, by go_num, hL5, hb5⟩
      case measure => simp [intOf]; omega
    · obtain rfl : k = n := by omega
      have hmv : moved (ls.take k) b = moved ls b := by rw [← HL.out, List.take_length]
      rw [hmv] at hown
      clear hmv
      obtain ⟨A7, c7, rfl⟩ := hown.form
      have i3 := MSl.of_own hown HIN.out
      go_wp2_with fail
      refine (sMarksValid_any _ _ _ _ _ i3).mono ?_
      rintro e w4 ⟨rfl, hb4⟩
      have hT := Below.step hb hb4
      have hown4 := hown.below hb4
      clear hown i3
      rcases hv2 : mkOk (moved ls b) with _ | _
      · have HS : Hid (shiftOk ls b = false) := by show shiftOk ls b = false; unfold shiftOk; rw [hv2]; simp
        have HO := Lib.hid ((MOwn.lit0 w4 32).base_ hT.size)
        have HB := Lib.hid (hT.alloc hT.size (.cells #[] 32))
        go_wp2
        go_ret2
        exact shiftRes_no2 HS.out rfl HO.out HB.out
      · have HS : Hid (shiftOk ls b = true) := by show shiftOk ls b = true; unfold shiftOk; rw [hv2, HV.out]; simp; omega
        go_wp2
        go_ret2
        exact shiftRes_yes HS.out rfl hown4 hT
end Go.Proofs.Ytdhpnjmnjckihaa
