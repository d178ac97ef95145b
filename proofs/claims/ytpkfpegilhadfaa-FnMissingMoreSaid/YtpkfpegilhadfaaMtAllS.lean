/- The walks of MatchAll, both sides. -/
import Derived.Test.YtpkfpegilhadfaaMtBestI
set_option linter.unusedVariables false
namespace Go.Proofs.Ytpkfpegilhadfaa
open Go.RowKit Lk Mt

/-- what MatchAll leaves -/
def AllRes (s : List Nd) (zs : List Int) (tol : Int) (w : World) (e : Ending) (w' : World) : Prop :=
  ∃ (A : Option Addr) (m c : Nat), e = .returned (.tuple #[.slice A m c, .bool (allOk s zs tol)]) ∧ w'.ownsRow w.heap.size 3 1 (.slice A m c) m ((matchAll s zs tol).map (Value.int .i64)) ∧ Below w.heap.size w w'
theorem matchAll_no {s : List Nd} {zs : List Int} {tol : Int} (h : allOk s zs tol = false) : matchAll s zs tol = [] := by unfold matchAll; rw [h]; rfl
theorem matchAll_yes {s : List Nd} {zs : List Int} {tol : Int} (h : allOk s zs tol = true) : matchAll s zs tol = allL (lines s) zs tol := by unfold matchAll; rw [h]; rfl
theorem allRes_no {s : List Nd} {zs : List Int} {tol : Int} {w w' : World} {e : Ending} {A : Option Addr} {m c : Nat} (h : allOk s zs tol = false) (he : e = .returned (.tuple #[.slice A m c, .bool false])) (ho : w'.ownsRow w.heap.size 3 1 (.slice A m c) m []) (hb : Below w.heap.size w w') : AllRes s zs tol w e w' :=
  ⟨A, m, c, by rw [h]; exact he, by rw [matchAll_no h]; exact ho, hb⟩
theorem allRes_yes {s : List Nd} {zs : List Int} {tol : Int} {w w' : World} {e : Ending} {A : Option Addr} {m c : Nat} (h : allOk s zs tol = true) (he : e = .returned (.tuple #[.slice A m c, .bool true])) (ho : w'.ownsRow w.heap.size 3 1 (.slice A m c) m ((allL (lines s) zs tol).map (Value.int .i64))) (hb : Below w.heap.size w w') : AllRes s zs tol w e w' :=
  ⟨A, m, c, by rw [h]; exact he, by rw [matchAll_yes h]; exact ho, hb⟩
theorem ints_snoc' (zs : List Int) (x : Int) : zs.map (Value.int .i64) ++ [Value.int .i64 x] = (zs ++ [x]).map (Value.int .i64) := by simp
def ARel (s : List Nd) (zs : List Int) (tol : Int) (n : Nat) (B : Nat) (W : World) (o i : Value) (wr : World) : Prop :=
  ∃ (k : Nat) (A : Option Addr) (c : Nat), k ≤ n ∧ i = .int .i64 k ∧ o = .slice A k c ∧ Hid (∀ j, j < k → 0 ≤ gI zs j ∧ gI zs j ≤ 200000) ∧ wr.ownsRow B 3 1 (.slice A k c) k ((allL (lines s) (zs.take k) tol).map (Value.int .i64)) ∧ Below W.heap.size W wr
set_option maxRecDepth 100000 in
set_option maxHeartbeats 8000000 in
theorem sMatchAll_any (A : Option Addr) (n c : Nat) (s : List Nd) (A2 : Option Addr) (n2 c2 : Nat) (zs : List Int) (tol : Int) (w : World) (h : NSl w w.heap.size A n c s) (hz : ISl w w.heap.size A2 n2 c2 zs) (hn : n2 ≤ 1073741824) :
    Calls Try.prog 37 #[.slice A n c, .slice A2 n2 c2, .int .i64 tol] w (AllRes s zs tol w) := by
  obtain ⟨i0, hi, hz0, hz1, hz2⟩ := info_parts int_info
  have HL := Lib.hid hz.len
  go_enter Try.func37, Try.ntmps37
  go_wp2_with fail
  refine (l33Ok_any _ _ _ s 0 tol _ h).mono ?_
  rintro e w1 ⟨rfl, hb1⟩
  have hlit := own_lit0 w1 3
  have hba : Below w.heap.size w (w1.alloc (.cells #[] 3)) := hb1.alloc hb1.size _
  rcases hv : (sOk s && mOk 0 tol) with _ | _
  · have HO := Lib.hid (And.intro (own_base hlit hb1.size) hba)
    have HV : Hid (allOk s zs tol = false) := allOk_no (fun hh => by
      have : mOk 0 tol = true := mOk_iff.2 (by omega)
      rw [hh.1, this] at hv; cases hv)
    clear hlit hba hb1
    go_wp2
    go_ret2
    exact allRes_no HV.out rfl HO.out.1 HO.out.2
  simp only [Bool.and_eq_true] at hv
  have HV := Lib.hid hv.1
  have hm := mOk_iff.1 hv.2
  have hm3 := hm.2.2.1
  have hm4 := hm.2.2.2
  clear hm hv
  by_cases h40 : 40 < n2
  · have HO := Lib.hid (And.intro (own_base hlit hb1.size) hba)
    have HVV : Hid (allOk s zs tol = false) := allOk_no (fun hh => by rw [HL.out] at hh; omega)
    clear hlit hba hb1
    go_wp2
    go_ret2
    exact allRes_no HVV.out rfl HO.out.1 HO.out.2
  have hown0 := own_base hlit hb1.size
  clear hlit hb1
  go_wp2
  go_loopw [8, 9] (fun o i wr => ARel s zs tol n2 w.heap.size w o i wr) (fun _ i _ => n2 - (intOf i).toNat)
  case atStart => exact ⟨0, _, 0, Nat.zero_le _, rfl, rfl, (fun j hj => by omega), by simpa [allL] using hown0, hba⟩
  case round =>
    obtain ⟨k, Ak, ck, hk, rfl, rfl, hok, hown, hb⟩ := hrel
    clear hown0 hba
    by_cases hlt : k < n2
    · obtain ⟨b, off, rfl, hbB, hkz, hc⟩ := hz.at_ hlt
      have p1 := (bcell hb _ _ hbB).trans (hc k hlt)
      have hkI := hz.inAt k
      have HTK : Hid (allL (lines s) (zs.take (k + 1)) tol = allL (lines s) (zs.take k) tol ++ [bestL (lines s) (gI zs k) tol]) := allL_take hkz
      obtain ⟨z, hzk⟩ := (⟨_, rfl⟩ : ∃ z, gI zs k = z)
      rw [hzk] at p1 hkI HTK
      have HZ := Lib.hid hzk
      clear hc hzk
      rcases hin : inB z 0 200000 with _ | _
      · have HBAD : Hid (allOk s zs tol = false) := allOk_no (fun hh => by
          have h1 := hh.2.2.2.2 k (by rw [HL.out]; exact hlt)
          rw [HZ.out] at h1
          have := inB_no hin; omega)
        have hO := own_lit0 wr 3
        have hbn : Below w.heap.size w (wr.alloc (.cells #[] 3)) := hb.alloc hb.size _
        have HO := Lib.hid (And.intro (own_base hO hb.size) hbn)
        clear hO hbn hown hb
        go_wp2_with (go_at_call 67; refine (l6In_any _ _ _ _).mono ?_; rintro e w' ⟨rfl, rfl⟩; rw [hin])
        go_ret2
        exact allRes_no HBAD.out rfl HO.out.1 HO.out.2
      have hzb := inB_yes hin
      have HZB := Lib.hid hzb
      have hmk : mOk z tol = true := mOk_iff.2 ⟨hzb.1, hzb.2, hm3, hm4⟩
      have hj := (h.below hb).more hb.size
      have hcall := sMatchBest_any A n c s z tol wr hj
      rw [matchBest_yes HV.out hmk] at hcall
      obtain ⟨R, hR⟩ : ∃ R, bestL (lines s) z tol = R := ⟨_, rfl⟩
      rw [hR] at hcall HTK
      have hRb : -1 ≤ R ∧ R < 1000 := by have h1 := bestL_bd (lines s) z tol; have h2 := lines_len s; rw [hR] at h1; omega
      have HRB := Lib.hid hRb
      clear hR hRb hmk hj hzb
      go_upto_region 9 with (go_at_call 67; refine (l6In_any _ _ _ _).mono ?_; rintro e w' ⟨rfl, rfl⟩; rw [hin])
      go_wp2_with (first
        | (go_at_call 35; (with_reducible refine hcall.mono ?_); rintro e w5 ⟨rfl, hb5⟩)
        | (at_builtin; refine wpList_append_own _ rfl _ _ 24 rfl w.heap.size 3 i0 (.int .i64 0) 1 8 Try.underlying24 hi hz0 hz1 hz2 rfl (by decide) _ _ _ rfl ((own_below hown hb5).alloc _) ⟨w5.heap.size, 0, none⟩ 1 1 [.int .i64 R] rfl rfl ?c1 ?c2 ?c3 ?c4 ?c5 ?_))
      case c1 => exact cell_one_new _ _ _
      case c2 => intro u hu; simp at hu; subst hu; rfl
      case c3 => unfold maxLen; omega
      case c4 => omega
      case c5 => have := hb.size; have := hb5.size; simp; omega
      intro v' w6 hown' hgrow _
      have hb6 : Below w.heap.size w w6 := ((Below.step hb hb5).alloc (Below.step hb hb5).size _).grown hgrow (by have := (Below.step hb hb5).size; simp; omega) (fun g hg => (hown.lt g hg).1)
      rw [ints_snoc', ← HTK.out] at hown'
      obtain ⟨A6, c6, rfl⟩ := own_form hown'
      have HO := Lib.hid (And.intro hown' hb6)
      clear hown' hb6 hown hb hgrow hcall hb5
      go_wp2
      go_roundw
      case rel => exact ⟨k + 1, A6, c6, by omega, by go_num, rfl, (fun j hj => by
        by_cases e : j = k
        · rw [e, HZ.out]; exact HZB.out
        · exact hok.out j (by omega)), HO.out.1, HO.out.2⟩
      case measure => simp [intOf]; omega
    · obtain rfl : k = n2 := by omega
      have HVY : Hid (allOk s zs tol = true) := allOk_mk HV.out (by rw [HL.out]; omega) hm3 hm4 (fun i hi => hok.out i (by rw [HL.out] at hi; exact hi))
      rw [List.take_of_length_le (by rw [HL.out]; exact Nat.le_refl _)] at hown
      have HO := Lib.hid (And.intro hown hb)
      clear hown hb
      go_wp2
      go_ret2
      exact allRes_yes HVY.out rfl HO.out.1 HO.out.2
end Go.Proofs.Ytpkfpegilhadfaa
