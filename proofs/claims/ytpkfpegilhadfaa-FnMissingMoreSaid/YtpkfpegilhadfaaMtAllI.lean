/- The walk of the program's MatchAll. -/
import Derived.Test.YtpkfpegilhadfaaMtAllS
set_option linter.unusedVariables false
namespace Go.Proofs.Ytpkfpegilhadfaa
open Go.RowKit Lk Mt

set_option maxRecDepth 100000 in
set_option maxHeartbeats 8000000 in
theorem iMatchAll_any (A : Option Addr) (n c : Nat) (s : List Nd) (A2 : Option Addr) (n2 c2 : Nat) (zs : List Int) (tol : Int) (w : World) (h : NSl w w.heap.size A n c s) (hz : ISl w w.heap.size A2 n2 c2 zs) (hn : n2 ≤ 1073741824) :
    Calls Try.prog 13 #[.slice A n c, .slice A2 n2 c2, .int .i64 tol] w (AllRes s zs tol w) := by
  obtain ⟨i0, hi, hz0, hz1, hz2⟩ := info_parts int_info
  have HL := Lib.hid hz.len
  go_enter Try.func13, Try.ntmps13
  go_wp2_with fail
  refine (iSchemeValid_any _ _ _ s _ h).mono ?_
  rintro e w1 ⟨rfl, hb1⟩
  rcases hv : sOk s with _ | _
  · have HV : Hid (allOk s zs tol = false) := allOk_no (fun hh => by rw [hh.1] at hv; cases hv)
    go_wp2
    go_ret2
    exact allRes_no HV.out rfl (World.ownsRow_nil _ _ _ _) hb1
  have HV := Lib.hid hv
  clear hv
  by_cases h40 : 40 < n2
  · have HVV : Hid (allOk s zs tol = false) := allOk_no (fun hh => by rw [HL.out] at hh; omega)
    go_wp2
    go_ret2
    exact allRes_no HVV.out rfl (World.ownsRow_nil _ _ _ _) hb1
  rcases hm : mOk 0 tol with _ | _
  · have HVV : Hid (allOk s zs tol = false) := allOk_no (fun hh => by
      have : mOk 0 tol = true := mOk_iff.2 (by omega)
      rw [this] at hm; cases hm)
    go_wp2_with (go_at_call 40; (with_reducible refine (seenValid_any _ _ _).mono ?_); rintro e w' ⟨rfl, rfl⟩; rw [hm])
    go_ret2
    exact allRes_no HVV.out rfl (World.ownsRow_nil _ _ _ _) hb1
  have hm2 := mOk_iff.1 hm
  have hm3 := hm2.2.2.1
  have hm4 := hm2.2.2.2
  have h1 := (h.below hb1).more hb1.size
  go_upto_region 3 with (go_at_call 40; (with_reducible refine (seenValid_any _ _ _).mono ?_); rintro e w' ⟨rfl, rfl⟩; rw [hm])
  clear hm hm2
  go_wp2_with fail
  refine (iSchemeLines_any _ _ _ s _ h1).mono ?_
  rintro e w2 ⟨A3, n3, c3, rfl, hown2, hb2⟩
  have i2 := LSl.of_lines hown2
  have hl := i2.lenL
  have hfew : n3 ≤ 144 := by rw [← hl]; exact lines_len s
  have hbt := Below.step hb1 hb2
  have HBD := Lib.hid (lines_bd HV.out hl)
  clear hown2 hb1 hb2 h1 h hl
  go_wp2_with (at_make; refine wpList_make_own _ rfl _ _ 24 rfl w2.heap.size 3 i0 (.int .i64 0) 1 Try.underlying24 hi hz0 hz1 _ _ _ n2 rfl rfl (by omega) (by rw [hz2]; omega) (by unfold maxLen; omega) (Nat.le_refl _) ?_; intro w3 hown3 hg3)
  have hb3 : Below w2.heap.size w2 w3 := (Below.refl _ _).grown hg3 (Nat.le_refl _) (by simp)
  clear hg3
  go_loopw [9, 32] (fun o i wr => ARel s zs tol n2 w2.heap.size w2 o i wr) (fun _ i _ => n2 - (intOf i).toNat)
  case atStart => exact ⟨0, _, _, Nat.zero_le _, rfl, rfl, (fun j hj => by omega), by simpa [allL] using hown3, hb3⟩
  case round =>
    obtain ⟨k, Ak, ck, hk, rfl, rfl, hok, hown, hb⟩ := hrel
    clear hown3 hb3
    have hbw : Below w.heap.size w wr := Below.step hbt hb
    by_cases hlt : k < n2
    · obtain ⟨b, off, rfl, hbB, hkz, hc⟩ := hz.at_ hlt
      have p1 := (bcell hbw _ _ hbB).trans (hc k hlt)
      have hkI := hz.inAt k
      have HTK : Hid (allL (lines s) (zs.take (k + 1)) tol = allL (lines s) (zs.take k) tol ++ [bestL (lines s) (gI zs k) tol]) := allL_take hkz
      obtain ⟨z, hzk⟩ := (⟨_, rfl⟩ : ∃ z, gI zs k = z)
      rw [hzk] at p1 hkI HTK
      have HZ := Lib.hid hzk
      clear hc hzk
      rcases hmz : mOk z tol with _ | _
      · have HBAD : Hid (allOk s zs tol = false) := allOk_no (fun hh => by
          have h1 := hh.2.2.2.2 k (by rw [HL.out]; exact hlt)
          rw [HZ.out] at h1
          have : mOk z tol = true := mOk_iff.2 (by omega)
          rw [this] at hmz; cases hmz)
        have HO := Lib.hid hbw
        clear hown hb hbw
        go_wp2_with (go_at_call 40; (with_reducible refine (seenValid_any _ _ _).mono ?_); rintro e w' ⟨rfl, rfl⟩; rw [hmz])
        go_ret2
        exact allRes_no HBAD.out rfl (World.ownsRow_nil _ _ _ _) HO.out
      have hmb := mOk_iff.1 hmz
      have HZB := Lib.hid hmb
      have hj := (i2.below hb).more hb.size
      have hcall := nearest_any A3 n3 c3 (lines s) z tol wr hj (lines_asc s) (by omega) HBD.out hmb.1 hmb.2.1 hm3 hm4
      obtain ⟨R, hR⟩ : ∃ R, bestL (lines s) z tol = R := ⟨_, rfl⟩
      rw [hR] at hcall HTK
      have hsz2 := hb.size
      clear hR hj hmb
      go_upto_region 10 with (go_at_call 40; (with_reducible refine (seenValid_any _ _ _).mono ?_); rintro e w' ⟨rfl, rfl⟩; rw [hmz])
      clear hmz
      go_wp2_with (first
        | (go_at_call 41; (with_reducible refine hcall.mono ?_); rintro e w5 ⟨rfl, hb5⟩)
        | (at_builtin; refine wpList_append_own _ rfl _ _ 24 rfl w2.heap.size 3 i0 (.int .i64 0) 1 8 Try.underlying24 hi hz0 hz1 hz2 rfl (by decide) _ _ _ rfl ((own_below hown hb5).alloc _) ⟨w5.heap.size, 0, none⟩ 1 1 [.int .i64 R] rfl rfl ?c1 ?c2 ?c3 ?c4 ?c5 ?_))
      case c1 => exact cell_one_new _ _ _
      case c2 => intro u hu; simp at hu; subst hu; rfl
      case c3 => unfold maxLen; omega
      case c4 => omega
      case c5 => have := hb5.size; simp; omega
      intro v' w6 hown' hgrow _
      have hb6 : Below w2.heap.size w2 w6 := ((Below.step hb hb5).alloc (Below.step hb hb5).size _).grown hgrow (by have := (Below.step hb hb5).size; simp; omega) (fun g hg => (hown.lt g hg).1)
      rw [ints_snoc', ← HTK.out] at hown'
      obtain ⟨A6, c6, rfl⟩ := own_form hown'
      have HO := Lib.hid (And.intro hown' hb6)
      clear hown' hb6 hown hb hgrow hcall hb5 hbw
      go_wp2
      go_roundw
      case rel => exact ⟨k + 1, A6, c6, by omega, by go_num, rfl, (fun j hj => by
        by_cases e : j = k
        · rw [e, HZ.out]; exact ⟨HZB.out.1, HZB.out.2.1⟩
        · exact hok.out j (by omega)), HO.out.1, HO.out.2⟩
      case measure => simp [intOf]; omega
    · obtain rfl : k = n2 := by omega
      have HVY : Hid (allOk s zs tol = true) := allOk_mk HV.out (by rw [HL.out]; omega) hm3 hm4 (fun i hi => hok.out i (by rw [HL.out] at hi; exact hi))
      rw [List.take_of_length_le (by rw [HL.out]; exact Nat.le_refl _)] at hown
      have HO := Lib.hid (And.intro (own_base hown hbt.size) hbw)
      clear hown hb hbw
      go_wp2
      go_ret2
      exact allRes_yes HVY.out rfl HO.out.1 HO.out.2
end Go.Proofs.Ytpkfpegilhadfaa
