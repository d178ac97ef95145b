/- The walks of the laws FnNearFit, FnLeastFit. -/
import Derived.Test.YtaefojbgialiaabLkLLeast
import Derived.Test.YtaefojbgialiaabLkFitX
set_option linter.unusedVariables false
namespace Go.Proofs.Ytaefojbgialiaab
open Go.RowKit Lk

theorem near0_iff {N : Nat} {ls : List Link} (hok : lsOk (N : Int) ls = true) : (fitR (N : Int) ls).isSome = true ↔ Near ls 0 := by
  constructor
  · intro h
    rcases ho : fitR (N : Int) ls with _ | es
    · rw [ho] at h; cases h
    · exact ⟨_, (fitR_some ho).2.fit⟩
  · rintro ⟨p, hp⟩
    rw [fitR_yes hok (aboveL_is (in_of_ok hok rfl) hp)]; rfl
theorem near0_b {N : Nat} {ls : List Link} (hok : lsOk (N : Int) ls = true) : linksNear (N : Int) ls 0 = (fitR (N : Int) ls).isSome := by
  have h1 := linksNear_is hok (t := 0) (by omega) (by omega)
  have h2 := near0_iff hok
  rcases ha : linksNear (N : Int) ls 0 with _ | _ <;> rcases hb : (fitR (N : Int) ls).isSome with _ | _ <;> simp [ha, hb] at h1 h2
  · rfl
  · exact absurd h2 h1
  · exact absurd h1 h2
  · rfl
theorem linksNear_parts {many tol : Int} {ls : List Link} (h : linksNear many ls tol = true) : lsOk many ls = true ∧ 0 ≤ tol ∧ tol ≤ 200000 := by
  unfold linksNear at h
  rcases h1 : lsOk many ls with _ | _
  · rw [h1] at h; simp at h
  · rcases h2 : inB tol 0 200000 with _ | _
    · rw [h2] at h; simp at h
    · exact ⟨rfl, inB_yes h2⟩

set_option maxRecDepth 100000 in
set_option maxHeartbeats 4000000 in
theorem fnNearFit_walk (A : Option Addr) (n c : Nat) (bs : List Int) (A' : Option Addr) (n' c' : Nat) (bs' : List Int) (w : World) (h : BSl w w.heap.size A n c bs) (h' : BSl w w.heap.size A' n' c' bs') :
    Calls Try.prog 8 #[.slice A n c, .slice A' n' c'] w fun e w' => e = .returned (.bool true) ∧ Below w.heap.size w w' := by
  by_cases hbig : 1048576 < n
  · go_enter Try.func8, Try.ntmps8
    go_wp2
    go_ret
    exact ⟨rfl, Below.refl _ _⟩
  by_cases hbig' : 1048576 < n'
  · go_enter Try.func8, Try.ntmps8
    go_wp2
    go_ret
    exact ⟨rfl, Below.refl _ _⟩
  go_enter Try.func8, Try.ntmps8
  go_wp2_with fail
  refine (DrawLinksNear_any _ _ _ _ _ h (by omega)).mono ?_
  rintro e w1 ⟨many, A1, m, c1, ls, tol, rfl, hD, ht, hb1⟩
  have hm9 := hD.few
  have hp := hD.pos
  have hp6 := hD.six
  have htI : InI tol := by unfold InI; omega
  have i1 := LSl.of_own hD.own hD.inL
  clear hD
  go_wp2_with fail
  refine (iLinksNear_any _ _ _ _ _ tol _ i1 (by omega) htI).mono ?_
  rintro e w2 ⟨rfl, hb2⟩
  have hT2 := Below.step hb1 hb2
  have i2 := (i1.below hb2).more hb2.size
  clear i1 hb2
  go_wp2_with fail
  refine (sLinksNear_any _ _ _ _ _ tol _ i2 (by omega)).mono ?_
  rintro e w3 ⟨rfl, hb3⟩
  have hT3 := Below.step hT2 hb3
  have i3 := (i2.below hb3).more hb3.size
  clear i2 hb3
  rcases hnr : linksNear (many : Int) ls tol with _ | _
  · go_wp2
    go_ret
    exact ⟨rfl, hT3⟩
  have HOK := Lib.hid (linksNear_parts hnr).1
  have ht1 := (linksNear_parts hnr).2.1
  have ht2 := (linksNear_parts hnr).2.2
  have HNR : Hid (Near ls tol) := (linksNear_is HOK.out ht1 ht2).1 hnr
  obtain ⟨b, hb⟩ : ∃ b, (fitR (many : Int) ls).isSome = b := ⟨_, rfl⟩
  have HB := Lib.hid hb
  have HN0 : Hid (linksNear (many : Int) ls 0 = b) := by show _ = _; rw [near0_b HOK.out, hb]
  clear hb hnr ht
  go_wp2_with fail
  refine (iLinksFit_x _ _ _ _ _ ((fitR (many : Int) ls).getD []) b _ i3 (by omega) rfl HB.out).mono ?_
  rintro e w4 ⟨B4, m4, d4, rfl, r4, hb4⟩
  have hT4 := Below.step hT3 hb4
  have i4 := (i3.below hb4).more hb4.size
  clear i3 hb4 r4
  obtain ⟨r, hr⟩ : ∃ r, n' % 50 = r := ⟨_, rfl⟩
  have hr50 : r < 50 := by omega
  have t1 : (n' : Int).tmod 50 = (r : Int) := by rw [Int.tmod_eq_emod_of_nonneg (by omega)]; omega
  have t2 : (n' : Int) % 50 = (r : Int) := by omega
  obtain ⟨U, hif, hU1, hU2⟩ : ∃ U, (if tol + 1 + (r : Int) < 200000 then tol + 1 + (r : Int) else 200000) = U ∧ tol ≤ U ∧ U ≤ 200000 := ⟨_, rfl, by split <;> omega, by split <;> omega⟩
  have HU : Hid (linksNear (many : Int) ls U = true) := linksNear_t HOK.out (by omega) hU2 (near_mono HNR.out hU1)
  have hUI : InI U := by unfold InI; omega
  have h0I : InI 0 := by unfold InI; omega
  clear hr
  go_wp2_with fail
  refine (iLinksNear_any _ _ _ _ _ U _ i4 (by omega) hUI).mono ?_
  rintro e w5 ⟨rfl, hb5⟩
  have hT5 := Below.step hT4 hb5
  have i5 := (i4.below hb5).more hb5.size
  rw [HU.out]
  clear i4 hb5 hif
  go_wp2_with fail
  refine (iLinksNear_any _ _ _ _ _ 0 _ i5 (by omega) h0I).mono ?_
  rintro e w6 ⟨rfl, hb6⟩
  have hT6 := Below.step hT5 hb6
  rw [HN0.out]
  go_wp2
  go_ret
  exact ⟨ret_bool (by simp), hT6⟩

def mults (d : Nat) (k : Nat) : List Int := (List.range k).map fun (i : Nat) => (i : Int) * (d : Int)
theorem mults_len (d k : Nat) : (mults d k).length = k := by simp [mults]
theorem mults_snoc (d k : Nat) : mults d k ++ [(k : Int) * (d : Int)] = mults d (k + 1) := by
  unfold mults
  rw [List.range_succ, List.map_append]; rfl
theorem mults_bd {d k : Nat} (hd : d < 500) (hk : k ≤ 6) : ∀ z ∈ mults d k, -3000 ≤ z ∧ z ≤ 3000 := by
  intro z hz
  unfold mults at hz
  obtain ⟨i, hi, rfl⟩ := List.mem_map.1 hz
  have a := List.mem_range.1 hi
  have h1 : i * d ≤ 6 * 500 := Nat.mul_le_mul (by omega) (by omega)
  have h2 : (i : Int) * (d : Int) = ((i * d : Nat) : Int) := by simp
  rw [h2]; omega
theorem least_zero {N : Nat} {ls : List Link} {v : Int} (hok : lsOk (N : Int) ls = true) (h : IsLeast ls v) : (v == 0) = (fitR (N : Int) ls).isSome := by
  have h2 := near0_iff hok
  by_cases e : v = 0
  · subst e
    rw [h2.2 h.near]; rfl
  · have : ¬ Near ls 0 := h.least 0 (by omega) (by have := h.pos; omega)
    rcases hb : (fitR (N : Int) ls).isSome with _ | _
    · simpa using e
    · exact absurd (h2.1 hb) this

set_option maxRecDepth 100000 in
set_option maxHeartbeats 4000000 in
theorem fnLeastFit_walk (A : Option Addr) (n c : Nat) (bs : List Int) (A' : Option Addr) (n' c' : Nat) (bs' : List Int) (w : World) (h : BSl w w.heap.size A n c bs) (h' : BSl w w.heap.size A' n' c' bs') :
    Calls Try.prog 11 #[.slice A n c, .slice A' n' c'] w fun e w' => e = .returned (.bool true) ∧ Below w.heap.size w w' := by
  by_cases hbig : 1048576 < n
  · go_enter Try.func11, Try.ntmps11
    go_wp2
    go_ret
    exact ⟨rfl, Below.refl _ _⟩
  by_cases hbig' : 1048576 < n'
  · go_enter Try.func11, Try.ntmps11
    go_wp2
    go_ret
    exact ⟨rfl, Below.refl _ _⟩
  obtain ⟨i0, hi, hz0, hz1, hz2⟩ := info_parts int_info
  go_enter Try.func11, Try.ntmps11
  go_wp2_with fail
  refine (DrawLinksLeast_any _ _ _ _ _ h (by omega)).mono ?_
  rintro e w1 ⟨many, A1, m, c1, ls, rfl, hD, hb1⟩
  have hm9 := hD.few
  have hp := hD.pos
  have hp6 := hD.six
  have i1 := LSl.of_own hD.own hD.inL
  obtain ⟨v, hv⟩ := leastRes_ex (many : Int) ls
  have HV := Lib.hid hv
  clear hD hv
  go_wp2_with fail
  refine (iLinksLeast_any _ _ _ _ _ v _ i1 (by omega) HV.out).mono ?_
  rintro e w2 ⟨rfl, hb2⟩
  have hT2 := Below.step hb1 hb2
  have i2 := (i1.below hb2).more hb2.size
  clear i1 hb2
  go_wp2_with fail
  refine (sLinksLeast_any _ _ _ _ _ v _ i2 (by omega) HV.out).mono ?_
  rintro e w3 ⟨rfl, hb3⟩
  have hT3 := Below.step hT2 hb3
  have i3 := (i2.below hb3).more hb3.size
  clear i2 hb3
  have hne : (v != v) = false := by simp
  by_cases hneg : v < 0
  · go_wp2
    go_ret
    exact ⟨ret_bool (by simp), hT3⟩
  have hL : lsOk (many : Int) ls = true ∧ IsLeast ls v := by
    rcases HV.out with h | h
    · exact h
    · omega
  have HOK := Lib.hid hL.1
  have HL := Lib.hid hL.2
  have hnn : 0 ≤ v := by omega
  have hv2 := HL.out.le
  obtain ⟨b, hb⟩ : ∃ b, (fitR (many : Int) ls).isSome = b := ⟨_, rfl⟩
  have HB := Lib.hid hb
  have HZ : Hid ((v == 0) = b) := by show _ = _; rw [least_zero HOK.out HL.out, hb]
  obtain ⟨d, hd⟩ : ∃ d, n' % 500 = d := ⟨_, rfl⟩
  have hd500 : d < 500 := by omega
  have t1 : (n' : Int).tmod 500 = (d : Int) := by rw [Int.tmod_eq_emod_of_nonneg (by omega)]; omega
  have t2 : (n' : Int) % 500 = (d : Int) := by omega
  clear hneg hL hb hd
  go_wp2_with fail
  refine (iLinksFit_x _ _ _ _ _ ((fitR (many : Int) ls).getD []) b _ i3 (by omega) rfl HB.out).mono ?_
  rintro e w4 ⟨B4, m4, d4, rfl, r4, hb4⟩
  have hT4 := Below.step hT3 hb4
  have i4 := (i3.below hb4).more hb4.size
  clear i3 hb4 r4
  have ho0 : (w4.alloc (.cells #[] 3)).ownsRow w4.heap.size 3 1 (.slice (some ⟨w4.heap.size, 0, none⟩) 0 0) 0 ((mults d 0).map (Value.int .i64)) := own_lit0 w4 3
  have hba : Below w4.heap.size w4 (w4.alloc (.cells #[] 3)) := (Below.refl _ _).alloc (Nat.le_refl _) _
  go_wp2
  go_loopw [11, 12] (fun s i wr => ∃ k : Nat, k ≤ many ∧ i = .int .i64 k ∧ wr.ownsRow w4.heap.size 3 1 s k ((mults d k).map (Value.int .i64)) ∧ Below w4.heap.size w4 wr) (fun _ i _ => many - (intOf i).toNat)
  case atStart => exact ⟨0, Nat.zero_le _, rfl, ho0, hba⟩
  case round =>
    obtain ⟨k, hk, rfl, hown, hbk⟩ := hrel
    clear ho0 hba
    by_cases hlt : k < many
    · have hsz := hbk.size
      have HSN := Lib.hid (mults_snoc d k)
      have hkd : k * d ≤ 6 * 500 := Nat.mul_le_mul (by omega) (by omega)
      have hkd2 : (k : Int) * (d : Int) = ((k * d : Nat) : Int) := by simp
      obtain ⟨x, hx⟩ : ∃ x : Int, (k : Int) * (d : Int) = x := ⟨_, rfl⟩
      rw [hx] at hkd2
      have hx1 : 0 ≤ x := by omega
      have hx2 : x ≤ 3000 := by omega
      rw [hx] at HSN
      clear hkd2 hkd
      go_wp2_with (at_builtin; refine wpList_append_own _ rfl _ _ 32 rfl w4.heap.size 3 i0 (.int .i64 0) 1 8 Try.underlying32 hi hz0 hz1 hz2 rfl (by decide) _ _ _ rfl (hown.alloc _) ⟨wr.heap.size, 0, none⟩ 1 1 [.int .i64 x] rfl rfl (cell_one_new _ _ _) (by intro u hu; simp at hu; subst hu; rfl) (by unfold maxLen; omega) (by omega) (by simp; omega) ?_; intro v' w5 hown' hgrow _)
      rw [ints_snoc, HSN.out] at hown'
      have hb5 := (hbk.alloc hsz (.cells #[.int .i64 x] 3)).grown hgrow (by simp; omega) (fun g hg => (hown.lt g hg).1)
      clear hgrow hown hx
      go_wp2
      go_roundw
      case rel => exact ⟨k + 1, by omega, by go_num, hown', hb5⟩
      case measure => simp [intOf]; omega
    · obtain rfl : k = many := by omega
      obtain ⟨NA, nc, rfl⟩ := own_form hown
      have i5 := (i4.below hbk).more hbk.size
      have hT5 := Below.step hT4 hbk
      have j5 := ISl.of_own hown (fun z hz => by have := mults_bd hd500 (by omega) z hz; unfold InI; omega)
      have hzb := HZ.out
      have HGP : Hid (v ≤ linksGap (k : Int) ls (mults d k)) := by
        show _ ≤ _
        rw [linksGap_yes HOK.out (by rw [mults_len]) (fun i hi => by have := mults_bd hd500 (by omega) _ (gI_mem hi); omega)]
        exact least_le HL.out (gp_nonneg _ _ _) ⟨_, gap_fit (Int.le_refl _)⟩
      have hbb : (b == b) = true := by simp
      go_wp2_with fail
      refine (iLinksGap_any _ _ _ _ _ _ _ _ _ _ i5 j5 (by omega) (by omega)).mono ?_
      rintro e w7 ⟨rfl, hb7⟩
      have hT7 := Below.step hT5 hb7
      have hgp := HGP.out
      generalize linksGap (k : Int) ls (mults d k) = G at *
      go_wp2
      go_ret
      exact ⟨rfl, hT7⟩
end Go.Proofs.Ytaefojbgialiaab
