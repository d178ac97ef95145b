/- Contracts of LinksLeast. -/
import Derived.Test.YtnlnelfncejcfaaLkNearI
import Derived.Test.YtnlnelfncejcfaaSearch
set_option linter.unusedVariables false
namespace Go.Proofs.Ytnlnelfncejcfaa
open Go.RowKit Lk

/-- LinksLeast's result -/
def LeastRes (many : Int) (ls : List Link) (v : Int) : Prop := (lsOk many ls = true ∧ IsLeast ls v) ∨ (lsOk many ls = false ∧ v = -1)
theorem leastRes_ex (many : Int) (ls : List Link) : ∃ v, LeastRes many ls v := by
  rcases h : lsOk many ls with _ | _
  · exact ⟨-1, .inr ⟨h, rfl⟩⟩
  · obtain ⟨v, hv⟩ := least_ex h
    exact ⟨v, .inl ⟨h, hv⟩⟩

set_option maxHeartbeats 2000000 in
theorem closureLeast (N : Nat) (A : Option Addr) (n c : Nat) (ls : List Link) (i : Nat) (b1 b2 : Nat) (w : World) (h : LSl w w.heap.size A n c ls) (hok : lsOk (N : Int) ls = true) (hi : i ≤ 200000)
    (h1 : w.cell? ⟨b1, 0, none⟩ = some (.int .i64 (N : Int))) (h2 : w.cell? ⟨b2, 0, none⟩ = some (.slice A n c)) :
    Calls Try.prog 12 #[.int .i64 (i : Int), .pointer (some ⟨b1, 0, none⟩), .pointer (some ⟨b2, 0, none⟩)] w fun e w' => e = .returned (.bool (nearB N ls (i : Int))) ∧ Below w.heap.size w w' := by
  have HK := Lib.hid hok
  clear hok
  go_enter Try.func12, Try.ntmps12
  go_wp2_with fail
  refine (within_any _ _ _ _ _ _ _ h HK.out (by omega) (by omega)).mono ?_
  rintro e w2 ⟨rfl, hb2⟩
  go_wp2
  go_ret
  exact ⟨rfl, hb2⟩
set_option maxHeartbeats 2000000 in
theorem iLinksLeast_any (many : Int) (A : Option Addr) (n c : Nat) (ls : List Link) (v : Int) (w : World) (h : LSl w w.heap.size A n c ls) (hn : n ≤ 16777216) (hv : LeastRes many ls v) :
    Calls Try.prog 5 #[.int .i64 many, .slice A n c] w fun e w' => e = .returned (.int .i64 v) ∧ Below w.heap.size w w' := by
  rcases hv with ⟨hok, hv⟩ | ⟨hok, rfl⟩
  · have hbd := lsOk_bd hok
    obtain ⟨N, rfl⟩ := Int.eq_ofNat_of_zero_le (show 0 ≤ many by omega)
    have HK := Lib.hid hok
    have HV : Hid (v = ((List.range 200000).countP (fun i => !nearB N ls (i : Nat)) : Nat)) := least_unique hv (least_count hok rfl)
    have ha : Below w.heap.size w ((w.alloc (.cells #[.int .i64 (N : Int)] 3)).alloc (.cells #[.slice A n c] 23)) := ((Below.refl _ _).alloc (Nat.le_refl _) _).alloc (by simp) _
    have h1 := (h.below ha).more ha.size
    clear hbd hv
    go_enter Try.func5, Try.ntmps5
    go_wp2_with fail
    refine (linksValid_any _ _ _ _ _ _ h1 hn).mono ?_
    rintro e w1 ⟨rfl, hb1⟩
    have c1 : w1.cell? ⟨w.heap.size, 0, none⟩ = some (.int .i64 (N : Int)) := by
      rw [hb1.cell (p := ⟨w.heap.size, 0, none⟩) (by simp; omega)]; simp [go_sem]
    have c2 : w1.cell? ⟨w.heap.size + 1, 0, none⟩ = some (.slice A n c) := by
      rw [hb1.cell (p := ⟨w.heap.size + 1, 0, none⟩) (by simp)]; simp [go_sem]
    have hs1 := hb1.size
    have hs1' : w.heap.size + 2 ≤ w1.heap.size := by simp at hs1; omega
    have hT1 := ha.trans (hb1.mono (by simp; omega))
    have h2 := (h.below hT1).more hT1.size
    clear h1 ha
    go_wp2_with fail
    refine (search_any 12 #[.pointer (some ⟨w.heap.size, 0, none⟩), .pointer (some ⟨w.heap.size + 1, 0, none⟩)] 200000 (fun i => nearB N ls (i : Nat)) _ (enters_of Try.func12 (by kernel_rfl) rfl) (by omega) (fun W i hb hi => ?_) (fun a b hab hb ha => ?_)).mono ?_
    · exact closureLeast N A n c ls i _ _ W ((h2.below hb).more hb.size) HK.out (by omega) ((bcell hb _ _ (by omega)).trans c1) ((bcell hb _ _ (by omega)).trans c2)
    · have hl := in_of_ok HK.out rfl
      rw [nearB_iff hl] at *
      exact near_mono ha (by omega)
    rintro e w2 ⟨he, hb2⟩
    have he' : e = .returned (.int .i64 v) := by rw [he, HV.out]
    clear he
    subst he'
    have hT2 := hT1.trans (hb2.mono hT1.size)
    go_wp2
    go_ret
    exact ⟨rfl, hT2⟩
  · have ha : Below w.heap.size w ((w.alloc (.cells #[.int .i64 many] 3)).alloc (.cells #[.slice A n c] 23)) := ((Below.refl _ _).alloc (Nat.le_refl _) _).alloc (by simp) _
    have h1 := (h.below ha).more ha.size
    go_enter Try.func5, Try.ntmps5
    go_wp2_with fail
    refine (linksValid_any _ _ _ _ _ _ h1 hn).mono ?_
    rintro e w1 ⟨rfl, hb1⟩
    have hT1 := ha.trans (hb1.mono (by simp; omega))
    clear hb1
    go_wp2
    go_ret
    exact ⟨rfl, hT1⟩

set_option maxHeartbeats 2000000 in
theorem sLinksLeast_any (many : Int) (A : Option Addr) (n c : Nat) (ls : List Link) (v : Int) (w : World) (h : LSl w w.heap.size A n c ls) (hn : n ≤ 16777216) (hv : LeastRes many ls v) :
    Calls Try.prog 6 #[.int .i64 many, .slice A n c] w fun e w' => e = .returned (.int .i64 v) ∧ Below w.heap.size w w' := by
  rcases hv with ⟨hok, hv⟩ | ⟨hok, rfl⟩
  · have hbd := lsOk_bd hok
    obtain ⟨N, rfl⟩ := Int.eq_ofNat_of_zero_le (show 0 ≤ many by omega)
    have HN : Hid (∀ t : Int, 0 ≤ t → t ≤ 200000 → ∀ b, linksNear (N : Int) ls t = b → (b = true ↔ Near ls t)) := fun t h1 h2 b hb => by
      rw [← hb]; unfold linksNear
      rw [hok, inB_t h1 h2, Int.toNat_natCast]
      exact nearB_iff (in_of_ok hok rfl)
    have HV := Lib.hid hv
    clear hbd hv
    go_enter Try.func6, Try.ntmps6
    go_wp2_with fail
    refine (l34Valid_any _ _ _ _ _ _ h hn).mono ?_
    rintro e w1 ⟨rfl, hb1⟩
    go_wp2
    go_loopw [5, 6] (fun a b wr => ∃ lo hi : Nat, lo ≤ hi ∧ hi ≤ 200000 ∧ a = .int .i64 lo ∧ b = .int .i64 hi ∧ Hid ((lo : Int) ≤ v ∧ v ≤ hi) ∧ Below w.heap.size w wr) (fun a b _ => (intOf b).toNat - (intOf a).toNat)
    case atStart => exact ⟨0, 200000, Nat.zero_le _, Nat.le_refl _, rfl, rfl, ⟨HV.out.pos, HV.out.le⟩, hb1⟩
    case round =>
      obtain ⟨lo, hi, hlh, hh, rfl, rfl, HB, hb⟩ := hrel
      by_cases hlt : lo < hi
      · have hm1 : lo ≤ (lo + hi) / 2 := by omega
        have hm2 : (lo + hi) / 2 < hi := by omega
        have ht : ((lo : Int) + hi).tdiv 2 = (((lo + hi) / 2 : Nat) : Int) := by rw [Int.tdiv_eq_ediv_of_nonneg (by omega)]; omega
        have ht' : ((lo : Int) + hi) / 2 = (((lo + hi) / 2 : Nat) : Int) := by omega
        obtain ⟨m, hm⟩ : ∃ m, (lo + hi) / 2 = m := ⟨_, rfl⟩
        rw [hm] at ht ht' hm1 hm2
        clear hm
        rcases hnr : linksNear (N : Int) ls (m : Int) with _ | _
        · have HS : Hid (¬ Near ls (m : Int)) := fun hh => by have := (HN.out m (by omega) (by omega) _ hnr).2 hh; cases this
          go_wp2_with fail
          refine (sLinksNear_any _ _ _ _ _ (m : Int) _ ((h.below hb).more hb.size) hn).mono ?_
          rintro e w2 ⟨rfl, hb2⟩
          have hbT := Below.step hb hb2
          clear hb2
          go_wp2
          go_roundw
          case rel =>
            refine ⟨m + 1, hi, by omega, by omega, by go_num, rfl, ⟨?_, HB.out.2⟩, hbT⟩
            have := HB.out.1
            rcases Int.lt_or_le (m : Int) v with c | c
            · omega
            · exact absurd (near_mono HV.out.near c) HS.out
          case measure => simp [intOf]; omega
        · have HS : Hid (Near ls (m : Int)) := (HN.out m (by omega) (by omega) _ hnr).1 rfl
          go_wp2_with fail
          refine (sLinksNear_any _ _ _ _ _ (m : Int) _ ((h.below hb).more hb.size) hn).mono ?_
          rintro e w2 ⟨rfl, hb2⟩
          have hbT := Below.step hb hb2
          clear hb2
          go_wp2
          go_roundw
          case rel =>
            exact ⟨lo, m, by omega, by omega, rfl, rfl, ⟨HB.out.1, least_le HV.out (by omega) HS.out⟩, hbT⟩
          case measure => simp [intOf]; omega
      · go_wp2
        go_ret
        exact ⟨ret_int (by have := HB.out; omega), hb⟩
  · go_enter Try.func6, Try.ntmps6
    go_wp2_with fail
    refine (l34Valid_any _ _ _ _ _ _ h hn).mono ?_
    rintro e w1 ⟨rfl, hb1⟩
    go_wp2
    go_ret
    exact ⟨rfl, hb1⟩
end Go.Proofs.Ytnlnelfncejcfaa
