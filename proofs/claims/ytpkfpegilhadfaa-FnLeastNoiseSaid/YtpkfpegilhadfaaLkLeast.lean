/- Contracts of LinksLeast. -/
import Derived.Test.YtpkfpegilhadfaaLkNearI
import Derived.Test.YtpkfpegilhadfaaSearch
set_option linter.unusedVariables false
namespace Go.Proofs.Ytpkfpegilhadfaa
open Go.RowKit Lk

/-- LinksLeast's result -/
def LeastRes (many : Int) (ls : List Link) (v : Int) : Prop := (lsOk many ls = true ∧ IsLeast ls v) ∨ (lsOk many ls = false ∧ v = -1)
theorem leastRes_ex (many : Int) (ls : List Link) : ∃ v, LeastRes many ls v := by
  rcases h : lsOk many ls with _ | _
  · exact ⟨-1, .inr ⟨h, rfl⟩⟩
  · obtain ⟨v, hv⟩ := least_ex h
    exact ⟨v, .inl ⟨h, hv⟩⟩

set_option maxHeartbeats 2000000 in
theorem closureLeast (N : Nat) (A : Option Addr) (n c : Nat) (ls : List Link) (i : Nat) (b1 b2 : Nat) (w : World) (h : LSl w w.heap.size A n c ls) (hok : lsOk (N : Int) ls = true) (hi : i ≤ 200000)
    (h1 : w.cell? ⟨b1, 0, none⟩ = some (.int .i64 (N : Int))) (h2 : w.cell? ⟨b2, 0, none⟩ = some (.slice A n c)) :
    Calls Try.prog 59 #[.int .i64 (i : Int), .pointer (some ⟨b1, 0, none⟩), .pointer (some ⟨b2, 0, none⟩)] w fun e w' => e = .returned (.bool (nearB N ls (i : Int))) ∧ Below w.heap.size w w' := by
  have HK := Lib.hid hok
  clear hok
  go_enter Try.func59, Try.ntmps59
  go_wp2_with fail
  refine (within_any _ _ _ _ _ _ _ h HK.out (by omega) (by omega)).mono ?_
  rintro e w2 ⟨rfl, hb2⟩
  go_wp2
  go_ret
  exact ⟨rfl, hb2⟩
set_option maxHeartbeats 2000000 in
theorem iLinksLeast_any (many : Int) (A : Option Addr) (n c : Nat) (ls : List Link) (v : Int) (w : World) (h : LSl w w.heap.size A n c ls) (hn : n ≤ 16777216) (hv : LeastRes many ls v) :
    Calls Try.prog 32 #[.int .i64 many, .slice A n c] w fun e w' => e = .returned (.int .i64 v) ∧ Below w.heap.size w w' := by
  rcases hv with ⟨hok, hv⟩ | ⟨hok, rfl⟩
  · have hbd := lsOk_bd hok
    obtain ⟨N, rfl⟩ := Int.eq_ofNat_of_zero_le (show 0 ≤ many by omega)
    have HK := Lib.hid hok
    have HV : Hid (v = ((List.range 200000).countP (fun i => !nearB N ls (i : Nat)) : Nat)) := least_unique hv (least_count hok rfl)
    have ha : Below w.heap.size w ((w.alloc (.cells #[.int .i64 (N : Int)] 3)).alloc (.cells #[.slice A n c] 47)) := ((Below.refl _ _).alloc (Nat.le_refl _) _).alloc (by simp) _
    have h1 := (h.below ha).more ha.size
    clear hbd hv
    go_enter Try.func32, Try.ntmps32
    go_wp2_with fail
    refine (linksValid_any _ _ _ _ _ _ h1 hn).mono ?_
    rintro e w1 ⟨rfl, hb1⟩
    have c1 : w1.cell? ⟨w.heap.size, 0, none⟩ = some (.int .i64 (N : Int)) := by
      rw [hb1.cell (p := ⟨w.heap.size, 0, none⟩) (by simp; omega)]; simp [go_sem]
    have c2 : w1.cell? ⟨w.heap.size + 1, 0, none⟩ = some (.slice A n c) := by
      rw [hb1.cell (p := ⟨w.heap.size + 1, 0, none⟩) (by simp)]; simp [go_sem]
    have hs1 := hb1.size
    have hs1' : w.heap.size + 2 ≤ w1.heap.size := by simp at hs1; omega
    have hT1 := ha.trans (hb1.mono (by simp; omega))
    have h2 := (h.below hT1).more hT1.size
    clear h1 ha
    go_wp2_with fail
    refine (search_any 59 #[.pointer (some ⟨w.heap.size, 0, none⟩), .pointer (some ⟨w.heap.size + 1, 0, none⟩)] 200000 (fun i => nearB N ls (i : Nat)) _ (enters_of Try.func59 (by kernel_rfl) rfl) (by omega) (fun W i hb hi => ?_) (fun a b hab hb ha => ?_)).mono ?_
    · exact closureLeast N A n c ls i _ _ W ((h2.below hb).more hb.size) HK.out (by omega) ((bcell hb _ _ (by omega)).trans c1) ((bcell hb _ _ (by omega)).trans c2)
    · have hl := in_of_ok HK.out rfl
      rw [nearB_iff hl] at *
      exact near_mono ha (by omega)
    rintro e w2 ⟨he, hb2⟩
    have he' : e = .returned (.int .i64 v) := by rw [he, HV.out]
    clear he
    subst he'
    have hT2 := hT1.trans (hb2.mono hT1.size)
    go_wp2
    go_ret
    exact ⟨rfl, hT2⟩
  · have ha : Below w.heap.size w ((w.alloc (.cells #[.int .i64 many] 3)).alloc (.cells #[.slice A n c] 47)) := ((Below.refl _ _).alloc (Nat.le_refl _) _).alloc (by simp) _
    have h1 := (h.below ha).more ha.size
    go_enter Try.func32, Try.ntmps32
    go_wp2_with fail
    refine (linksValid_any _ _ _ _ _ _ h1 hn).mono ?_
    rintro e w1 ⟨rfl, hb1⟩
    have hT1 := ha.trans (hb1.mono (by simp; omega))
    clear hb1
    go_wp2
    go_ret
    exact ⟨rfl, hT1⟩

end Go.Proofs.Ytpkfpegilhadfaa
