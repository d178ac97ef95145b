/- Contracts of the small functions on slices of slices: compared, marked, held. -/
import Derived.Test.YtpfbjpognmjmmaaBlMem
import Derived.StillTailTactics
set_option linter.unusedVariables false
namespace Go.Proofs.Ytpfbjpognmjmmaa
open Go.RowKit Bl
theorem below_drew1 {B : Nat} {a w : World} (h : Below B a w) : Below B a w.drew := ⟨h.os, h.tape, h.output, h.size, h.block⟩
set_option maxHeartbeats 1000000 in
theorem eqIntSS_same (A A' : Option Addr) (n c n' c' : Nat) (G : List (List Int)) (w : World) (h : GSl w w.heap.size A n c G) (h' : GSl w w.heap.size A' n' c' G) (hn : n ≤ 100) (hl : ∀ g ∈ G, g.length ≤ 100) :
    Calls Try.prog 24 #[.slice A n c, .slice A' n' c'] w fun e w' => e = .returned (.bool true) ∧ Below w.heap.size w w' := by
  obtain rfl : n = n' := h.len.symm.trans h'.len
  have HL := Lib.hid hl
  have HLEN := Lib.hid h.len
  clear hl
  go_enter Try.func24, Try.ntmps24
  go_wp2
  go_loopw [5] (fun i wr => ∃ k : Nat, k ≤ n ∧ i = .int .i64 k ∧ Below w.heap.size w wr) (fun i _ => n - (intOf i).toNat)
  case atStart => exact ⟨0, Nat.zero_le _, rfl, Below.refl _ _⟩
  case round =>
    obtain ⟨k, hk, rfl, hb⟩ := hrel
    by_cases hlt : k < n
    · obtain ⟨b, off, rfl, hbB, hc⟩ := h.at_ hlt
      obtain ⟨b', off', rfl, hbB', hc'⟩ := h'.at_ hlt
      obtain ⟨Ai, ci, q1, q2⟩ := hc k hlt
      obtain ⟨Aj, cj, r1, r2⟩ := hc' k hlt
      have p1 := (bcell hb _ _ hbB).trans q1
      have s1 := (bcell hb _ _ hbB').trans r1
      have p2 := (q2.below hb).more hb.size
      have s2 := (r2.below hb).more hb.size
      have hlt' : (k : Int) < (n : Int) := by omega
      have hgl : (gG G k).length ≤ 100 := HL.out _ (gG_mem (by rw [HLEN.out]; exact hlt))
      obtain ⟨m, hm⟩ : ∃ m, (gG G k).length = m := ⟨_, rfl⟩
      rw [hm] at p1 s1 p2 s2 hgl
      clear q1 q2 r1 r2 hc hc' hm
      go_wp2
      go_still_tail 8, (by kernel_rfl)
      change wpList _ _ _ _ _ wr.drew
      go_wp2_with fail
      refine (eqIntS_same _ _ _ _ _ _ _ _ p2.drew s2.drew (by omega)).mono ?_
      rintro e w2 ⟨rfl, hb2⟩
      have hb3 := (below_drew1 hb).trans (hb2.mono hb.size)
      clear hb2 p2 s2
      go_wp2
      go_roundw
      case rel => exact ⟨k + 1, by omega, by go_num, hb3⟩
      case measure => simp [intOf]; omega
    · go_wp2
      go_ret
      exact ⟨rfl, hb⟩
set_option maxHeartbeats 1000000 in
theorem sameGroups_same (A A' : Option Addr) (n c n' c' : Nat) (G : List (List Int)) (w : World) (h : GSl w w.heap.size A n c G) (h' : GSl w w.heap.size A' n' c' G) (hn : n ≤ 100) (hl : ∀ g ∈ G, g.length ≤ 100) :
    Calls Try.prog 29 #[.slice A n c, .slice A' n' c'] w fun e w' => e = .returned (.bool true) ∧ Below w.heap.size w w' := by
  obtain rfl : n = n' := h.len.symm.trans h'.len
  have HL := Lib.hid hl
  have HLEN := Lib.hid h.len
  clear hl
  go_enter Try.func29, Try.ntmps29
  go_wp2
  go_loopw [5] (fun i wr => ∃ k : Nat, k ≤ n ∧ i = .int .i64 k ∧ Below w.heap.size w wr) (fun i _ => n - (intOf i).toNat)
  case atStart => exact ⟨0, Nat.zero_le _, rfl, Below.refl _ _⟩
  case round =>
    obtain ⟨k, hk, rfl, hb⟩ := hrel
    by_cases hlt : k < n
    · obtain ⟨b, off, rfl, hbB, hc⟩ := h.at_ hlt
      obtain ⟨b', off', rfl, hbB', hc'⟩ := h'.at_ hlt
      obtain ⟨Ai, ci, q1, q2⟩ := hc k hlt
      obtain ⟨Aj, cj, r1, r2⟩ := hc' k hlt
      have p1 := (bcell hb _ _ hbB).trans q1
      have s1 := (bcell hb _ _ hbB').trans r1
      have p2 := (q2.below hb).more hb.size
      have s2 := (r2.below hb).more hb.size
      have hlt' : (k : Int) < (n : Int) := by omega
      have hgl : (gG G k).length ≤ 100 := HL.out _ (gG_mem (by rw [HLEN.out]; exact hlt))
      obtain ⟨m, hm⟩ : ∃ m, (gG G k).length = m := ⟨_, rfl⟩
      rw [hm] at p1 s1 p2 s2 hgl
      clear q1 q2 r1 r2 hc hc' hm
      go_wp2
      go_still_tail 8, (by kernel_rfl)
      change wpList _ _ _ _ _ wr.drew
      go_wp2_with fail
      refine (sameInts_same _ _ _ _ _ _ _ _ p2.drew s2.drew (by omega)).mono ?_
      rintro e w2 ⟨rfl, hb2⟩
      have hb3 := (below_drew1 hb).trans (hb2.mono hb.size)
      clear hb2 p2 s2
      go_wp2
      go_roundw
      case rel => exact ⟨k + 1, by omega, by go_num, hb3⟩
      case measure => simp [intOf]; omega
    · go_wp2
      go_ret
      exact ⟨rfl, hb⟩

set_option maxHeartbeats 2000000 in
theorem markIntSS_any (v : Value) (n base : Nat) (k : Int) (G : List (List Int)) (w : World) (h : GOwn w base v n G) (hbase : base ≤ w.heap.size) (h0 : 0 ≤ k) (hk : k ≤ 1000) (hn : n ≤ 100) (hl : ∀ g ∈ G, g.length ≤ 100) :
    Calls Try.prog 26 #[v, .int .i64 k] w fun e w' => ∃ G', e = .returned (.int .i64 (k + (offs G n : Int))) ∧ Marked k G G' ∧ GOwn w' base v n G' ∧ Below base w w' := by
  obtain ⟨S, h⟩ := h
  obtain ⟨A, c, rfl⟩ := h.form
  have HLEN := Lib.hid h.len
  by_cases hn0 : n = 0
  · subst hn0
    have hoz := Lib.hid (offs_zero G)
    go_enter Try.func26, Try.ntmps26
    go_wp2
    go_rounds 1
    go_ret
    exact ⟨G, ret_int (by rw [hoz.out]; simp), ⟨rfl, fun i hi => by rw [HLEN.out] at hi; omega⟩, ⟨S, h⟩, Below.refl _ _⟩
  obtain ⟨g, rfl, hb, hg⟩ := h.row.at_ (by omega)
  have HL := Lib.hid hl
  clear hl
  go_enter Try.func26, Try.ntmps26
  go_wp2
  go_loopw [1, 5] (fun q i wr => ∃ (j : Nat) (X : List (List Int)), j ≤ n ∧ i = .int .i64 j ∧ q = .int .i64 (k + (offs G j : Int)) ∧ GRow wr base S (.slice (some ⟨g, 0, none⟩) n c) n X ∧ Hid (∀ i : Nat, i < n → gG X i = if i < j then iota (k + (offs G i : Int)) (gG G i).length else gG G i) ∧ Below base w wr) (fun _ i _ => n - (intOf i).toNat)
  case atStart => exact ⟨0, G, Nat.zero_le _, rfl, by rw [offs_zero]; go_num, h, (fun i hi => by rw [if_neg (by omega)]), Below.refl _ _⟩
  case round =>
    obtain ⟨j, X, hj, rfl, rfl, hG, hX, hB⟩ := hrel
    clear h
    by_cases hlt : j < n
    · have hi := hG.inn j hlt
      have hj1 := hX.out j hlt
      rw [if_neg (by omega)] at hj1
      rw [hj1] at hi
      have hgl : (gG G j).length ≤ 100 := HL.out _ (gG_mem (by rw [HLEN.out]; exact hlt))
      have hol := offs_le HL.out j (by rw [HLEN.out]; omega)
      have hos := offs_succ (G := G) (i := j) (by rw [HLEN.out]; exact hlt)
      have hoI : (offs G j : Int) + ((gG G j).length : Int) = (offs G (j + 1) : Int) := by omega
      obtain ⟨o, ho⟩ : ∃ o, offs G j = o := ⟨_, rfl⟩
      obtain ⟨o2, ho2⟩ : ∃ o2, offs G (j + 1) = o2 := ⟨_, rfl⟩
      obtain ⟨m, hm⟩ : ∃ m, (gG G j).length = m := ⟨_, rfl⟩
      have HO := Lib.hid ho
      have HO2 := Lib.hid ho2
      have HM := Lib.hid hm
      have HJ1 := Lib.hid hj1
      rw [hm] at hgl hoI hi
      rw [ho] at hol hoI
      rw [ho2] at hoI
      rw [ho]
      obtain ⟨Ai, ci, hS⟩ := own_form hi
      have HS := Lib.hid hS
      rw [hS] at hi
      have hcell := hG.row.cell (i := j) (j := 0) hlt (by omega)
      rw [Nat.mul_one, Nat.add_zero] at hcell
      rw [hS] at hcell
      have hso : Hid (wr.heap.size ≤ wr.heap.size) := Nat.le_refl _
      clear hos ho ho2 hm hS hj1
      go_wp2_with fail
      refine (markIntS_any _ _ _ _ _ _ _ hi (by omega) (by omega)).mono ?_
      rintro e w2 ⟨rfl, hown, hgr⟩
      have hgr' : wr.grownBy w2 (S j).ownBlock := by rw [HS.out]; exact hgr
      have hown' : w2.ownsRow base 3 1 (S j) (iota (k + (o : Int)) m).length ((iota (k + (o : Int)) m).map (Value.int .i64)) := by rw [HS.out, iota_len]; exact hown
      have hG2 := hG.mark_at hlt hgr' hown'
      have hB2 := hB.trans (hG.mark_below hlt (Nat.le_trans hbase hB.size) hgr')
      have hX2 : Hid (∀ i : Nat, i < n → gG (X.set j (iota (k + (o : Int)) m)) i = if i < j + 1 then iota (k + (offs G i : Int)) (gG G i).length else gG G i) := by
        intro i hi
        rw [gG_set (by rw [hG.len]; exact hlt)]
        by_cases e : i = j
        · subst e; rw [if_pos rfl, if_pos (by omega), HO.out, HM.out]
        · rw [if_neg e, hX.out i hi]
          by_cases e2 : i < j
          · rw [if_pos e2, if_pos (by omega)]
          · rw [if_neg e2, if_neg (by omega)]
      have HOI := Lib.hid hoI
      clear hown hown' hgr hgr' hG hB hX hcell hi hoI
      go_wp2
      go_roundw
      case rel => exact ⟨j + 1, _, by omega, by go_num, by rw [HO2.out, ← HOI.out]; congr 1; omega, hG2, hX2, hB2⟩
      case measure => simp [intOf]; omega
    · obtain rfl : j = n := by omega
      go_wp2
      go_ret
      exact ⟨X, rfl, ⟨by rw [hG.len, HLEN.out], fun i hi => by rw [hX.out i (by rw [HLEN.out] at hi; exact hi), if_pos (by rw [HLEN.out] at hi; exact hi)]⟩, ⟨S, hG⟩, hB⟩

set_option maxHeartbeats 2000000 in
theorem heldIntSS_any (A : Option Addr) (n c B : Nat) (k : Int) (G G' : List (List Int)) (w : World) (h : GSl w B A n c G') (hM : Marked k G G') (hGl : G.length = n) (h0 : 0 ≤ k) (hk : k ≤ 1000) (hn : n ≤ 100) (hl : ∀ g ∈ G, g.length ≤ 100) :
    Calls Try.prog 27 #[.slice A n c, .int .i64 k] w fun e w' => e = .returned (.int .i64 (k + (offs G n : Int))) ∧ w = w' := by
  have HL := Lib.hid hl
  have HLEN := Lib.hid hGl
  clear hl hGl
  go_enter Try.func27, Try.ntmps27
  go_wp2
  go_loop [1, 5] (fun q i => ∃ j : Nat, j ≤ n ∧ i = .int .i64 j ∧ q = .int .i64 (k + (offs G j : Int))) (fun _ i => n - (intOf i).toNat)
  case atStart => exact ⟨0, Nat.zero_le _, rfl, by rw [offs_zero]; go_num⟩
  case round =>
    obtain ⟨j, hj, rfl, rfl⟩ := hrel
    by_cases hlt : j < n
    · obtain ⟨b, off, rfl, hbB, hc⟩ := h.at_ hlt
      obtain ⟨Ai, ci, q1, q2⟩ := hc j hlt
      have hj1 := hM.at_ j (by rw [HLEN.out]; exact hlt)
      have hgl : (gG G j).length ≤ 100 := HL.out _ (gG_mem (by rw [HLEN.out]; exact hlt))
      have hol := offs_le HL.out j (by rw [HLEN.out]; omega)
      have hos := offs_succ (G := G) (i := j) (by rw [HLEN.out]; exact hlt)
      have hoI : (offs G j : Int) + ((gG G j).length : Int) = (offs G (j + 1) : Int) := by omega
      rw [hj1, iota_len] at q1 q2
      obtain ⟨o, ho⟩ : ∃ o, offs G j = o := ⟨_, rfl⟩
      obtain ⟨o2, ho2⟩ : ∃ o2, offs G (j + 1) = o2 := ⟨_, rfl⟩
      obtain ⟨m, hm⟩ : ∃ m, (gG G j).length = m := ⟨_, rfl⟩
      have HO2 := Lib.hid ho2
      rw [hm] at hgl hoI q1 q2
      rw [ho] at hol hoI q2
      rw [ho2] at hoI
      rw [ho]
      have HOI := Lib.hid hoI
      clear hos ho ho2 hm hj1 hc hoI
      go_wp2_with fail
      refine (heldIntS_any _ _ _ _ _ _ q2 (by omega) (by omega)).mono ?_
      rintro e w2 ⟨rfl, rfl⟩
      clear q1 q2
      go_wp2
      go_round
      case rel => exact ⟨j + 1, by omega, by go_num, by rw [HO2.out, ← HOI.out]; congr 1; omega⟩
      case measure => simp [intOf]; omega
    · obtain rfl : j = n := by omega
      go_wp2
      go_ret
      exact ⟨rfl, rfl⟩
end Go.Proofs.Ytpfbjpognmjmmaa
