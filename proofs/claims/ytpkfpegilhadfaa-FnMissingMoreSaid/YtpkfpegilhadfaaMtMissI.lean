/- The walk of the program's MatchMissing. -/
import Derived.Test.YtpkfpegilhadfaaMtMissS
import Derived.Test.YtpkfpegilhadfaaMtLinks
set_option linter.unusedVariables false
namespace Go.Proofs.Ytpkfpegilhadfaa
open Go.RowKit Lk Mt

/-- what the first k numbers mark -/
def fnd (best : List Int) (N : Nat) : Nat → List Bool
  | 0 => List.replicate N false
  | k + 1 => if 0 ≤ gI best k then (fnd best N k).set (gI best k).toNat true else fnd best N k
theorem fnd_len (best : List Int) (N k : Nat) : (fnd best N k).length = N := by
  induction k with
  | zero => simp [fnd]
  | succ k ih => unfold fnd; split <;> simp [ih]
theorem fnd_at (best : List Int) (N : Nat) {i : Nat} (hi : i < N) (k : Nat) : gB (fnd best N k) i = true ↔ ∃ j, j < k ∧ gI best j = (i : Int) := by
  induction k with
  | zero =>
    constructor
    · intro h; simp [fnd, gB, hi] at h
    · rintro ⟨j, h, _⟩; omega
  | succ k ih =>
    have key : gB (fnd best N (k + 1)) i = true ↔ gB (fnd best N k) i = true ∨ gI best k = (i : Int) := by
      show gB (if 0 ≤ gI best k then (fnd best N k).set (gI best k).toNat true else fnd best N k) i = true ↔ _
      by_cases h0 : 0 ≤ gI best k
      · rw [if_pos h0]
        unfold gB
        rw [List.getElem?_set]
        by_cases e : (gI best k).toNat = i
        · have : gI best k = (i : Int) := by omega
          simp [fnd_len, hi, this]
        · have : ¬ gI best k = (i : Int) := by omega
          simp [e, this]
      · rw [if_neg h0]
        have : ¬ gI best k = (i : Int) := by omega
        simp [this]
    rw [key, ih]
    constructor
    · rintro (⟨j, h1, h2⟩ | h)
      · exact ⟨j, by omega, h2⟩
      · exact ⟨k, by omega, h⟩
    · rintro ⟨j, h1, h2⟩
      by_cases e : j = k
      · right; rw [← e]; exact h2
      · left; exact ⟨j, by omega, h2⟩
theorem fnd_has {best : List Int} {N i : Nat} (hi : i < N) : gB (fnd best N best.length) i = best.contains (Int.ofNat i) := by
  have h := fnd_at best N hi best.length
  rcases hc : best.contains (Int.ofNat i) with _ | _
  · rcases hg : gB (fnd best N best.length) i with _ | _
    · rfl
    · obtain ⟨j, h1, h2⟩ := h.1 hg
      have := has_yes h1 h2
      rw [show ((i : Nat) : Int) = Int.ofNat i from rfl, hc] at this; cases this
  · rw [List.contains_iff_mem] at hc
    obtain ⟨j, hj, e⟩ := List.getElem_of_mem hc
    exact h.2 ⟨j, hj, by rw [gI_lt hj]; exact e⟩
theorem boolS_info : (Try.prog.info? 4).map (fun i => (i.zero, i.size, i.bytes)) = some (some (.bool false), 1, 1) := by kernel_rfl
theorem made_bools (N : Nat) : (madeCells (Value.bool false).cells (N * 1)).toList = (List.replicate N false).map Value.bool := by
  apply List.ext_getElem?
  intro i
  by_cases hi : i < N
  · simp [madeCells, Value.cells, hi, Nat.mod_one]
  · simp [madeCells, hi]
theorem bools_at {bs : List Bool} {i : Nat} (h : i < bs.length) : (bs.map Value.bool)[i]? = some (.bool (gB bs i)) := by simp [gB, h]
def FRel (best : List Int) (N mb g : Nat) (B : Nat) (W : World) (i : Value) (wr : World) : Prop :=
  ∃ k : Nat, k ≤ mb ∧ i = .int .i64 k ∧ wr.ownsRow B 4 1 (.slice (some ⟨g, 0, none⟩) N N) N ((fnd best N k).map Value.bool) ∧ Below W.heap.size W wr
set_option maxRecDepth 100000 in
set_option maxHeartbeats 8000000 in
theorem iMatchMissing_any (A : Option Addr) (n c : Nat) (s : List Nd) (A2 : Option Addr) (n2 c2 : Nat) (zs : List Int) (tol : Int) (w : World) (h : NSl w w.heap.size A n c s) (hz : ISl w w.heap.size A2 n2 c2 zs) (hn : n2 ≤ 1073741824) :
    Calls Try.prog 10 #[.slice A n c, .slice A2 n2 c2, .int .i64 tol] w (MissRes s zs tol w) := by
  obtain ⟨i0, hi, hz0, hz1, hz2⟩ := info_parts int_info
  obtain ⟨j0, hj, hy0, hy1, hy2⟩ := info_parts boolS_info
  go_enter Try.func10, Try.ntmps10
  go_wp2_with fail
  refine (iMatchAll_any _ _ _ s _ _ _ zs tol _ h hz hn).mono ?_
  rintro e w1 ⟨Ab, mb, cb, rfl, hown1, hb1⟩
  rcases hv : allOk s zs tol with _ | _
  · have HV := Lib.hid hv
    have HO := Lib.hid hb1
    clear hown1 hb1 hv
    go_wp2
    go_ret2
    exact missRes_no HV.out rfl (World.ownsRow_nil _ _ _ _) HO.out
  have HV := Lib.hid hv
  have HSV := Lib.hid (allOk_parts hv).1
  rw [matchAll_yes hv] at hown1
  clear hv
  have hlen144 := lines_len s
  have ib := ISl.of_own hown1 (allL_inI (lines s) zs tol hlen144)
  have HML := Lib.hid ib.len
  have hmb : mb ≤ 40 := by rw [← HML.out, allL_len]; exact (allOk_parts HV.out).2.1
  have h1 := (h.below hb1).more hb1.size
  clear hown1
  go_wp2_with fail
  refine (iSchemeLines_any _ _ _ s _ h1).mono ?_
  rintro e w2 ⟨A3, N, c3, rfl, hown3, hb2⟩
  have hN : (lines s).length = N := by have := hown3.len; simpa using this
  have HN := Lib.hid hN
  have HBD : Hid (∀ z ∈ allL (lines s) zs tol, -1 ≤ z ∧ z < N) := fun z hz => by
    obtain ⟨x, _, rfl⟩ := List.mem_map.1 hz
    have := bestL_bd (lines s) x tol
    rw [hN] at this; exact this
  rw [hN] at hlen144
  clear hown3 hN h1
  obtain ⟨best, hbest⟩ : ∃ b, allL (lines s) zs tol = b := ⟨_, rfl⟩
  rw [hbest] at ib HBD HML
  have HB := Lib.hid hbest
  clear hbest
  have ib2 := (ib.below hb2).more hb2.size
  have hbt := Below.step hb1 hb2
  clear ib hb1 hb2
  go_wp2_with (at_make; refine wpList_make_full _ rfl _ _ 43 rfl w2.heap.size 4 j0 (.bool false) 1 Try.underlying43 hj hy0 hy1 _ _ _ _ N rfl rfl (by omega) (by omega) (by rw [hy2]; omega) (by unfold maxLen; omega) (Nat.le_refl _) ?_; intro w3 hown3 hg3)
  have hb3 : Below w2.heap.size w2 w3 := (Below.refl _ _).grown hg3 (Nat.le_refl _) (by simp)
  rw [made_bools] at hown3
  clear hg3
  go_loopw [31] (fun i wr => FRel best N mb w2.heap.size w2.heap.size w2 i wr) (fun i _ => mb - (intOf i).toNat)
  case atStart => exact ⟨0, Nat.zero_le _, rfl, hown3, hb3⟩
  case round =>
    obtain ⟨k, hk, rfl, hown, hb⟩ := hrel
    clear hown3 hb3
    by_cases hlt : k < mb
    · obtain ⟨b, off, rfl, hbB, hkz, hc⟩ := ib2.at_ hlt
      have p1 := (bcell hb _ _ hbB).trans (hc k hlt)
      have hx := HBD.out _ (gI_mem hkz)
      obtain ⟨x, hxk⟩ : ∃ x, gI best k = x := ⟨_, rfl⟩
      rw [hxk] at p1 hx
      obtain ⟨x1, x2⟩ := hx
      have HX := Lib.hid hxk
      clear hc hxk
      by_cases h0 : 0 ≤ x
      · have HF : Hid (fnd best N (k + 1) = (fnd best N k).set x.toNat true) := by show (if 0 ≤ gI best k then (fnd best N k).set (gI best k).toNat true else _) = _; rw [HX.out, if_pos h0]
        have hst := hown.stored x.toNat (.bool true)
        rw [← List.map_set, ← HF.out] at hst
        have hf := hown.frozenAt x.toNat
        have hcell := (hown.cellAt x.toNat (by omega)).trans (bools_at (bs := fnd best N k) (i := x.toNat) (by rw [fnd_len]; omega))
        have HS := Lib.hid (And.intro hst.1 (hb.grown hst.2 hb.size (by intro g e; injection e; omega)))
        clear hst hown
        go_wp2
        go_roundw
        case rel => exact ⟨k + 1, by omega, by go_num, HS.out.1, HS.out.2⟩
        case measure => simp [intOf]; omega
      · have HF : Hid (fnd best N (k + 1) = fnd best N k) := by show (if 0 ≤ gI best k then _ else fnd best N k) = _; rw [HX.out, if_neg h0]
        have HS := Lib.hid (And.intro hown hb)
        clear hown hb
        go_wp2
        go_roundw
        case rel => exact ⟨k + 1, by omega, by go_num, by rw [HF.out]; exact HS.out.1, HS.out.2⟩
        case measure => simp [intOf]; omega
    · obtain rfl : k = mb := by omega
      generalize wr = w4 at hown hb ⊢
      have hb4 := Below.step hbt hb
      go_wp2
      go_loopw [13, 43] (fun o i wr => MRel best N w4.heap.size w4 o i wr) (fun _ i _ => N - (intOf i).toNat)
      case atStart => exact ⟨0, none, 0, Nat.zero_le _, rfl, rfl, World.ownsRow_nil _ _ _ _, Below.refl _ _⟩
      case round =>
        obtain ⟨q, Ak, ck, hq, rfl, rfl, hownO, hbO⟩ := hrel
        have hml := miss_len best q
        by_cases hlt : q < N
        · have hcell := (bcell hbO _ _ (hown.lt _ rfl).2).trans ((hown.cellAt q (by omega)).trans (bools_at (bs := fnd best N k) (i := q) (by rw [fnd_len]; omega)))
          have hfh := fnd_has (best := best) hlt
          rw [HML.out] at hfh
          rw [hfh] at hcell
          have HMS := Lib.hid (miss_succ best q)
          have hszO := hbO.size
          obtain ⟨C, hC⟩ : ∃ C, best.contains (Int.ofNat q) = C := ⟨_, rfl⟩
          rw [hC] at hcell
          have HC := Lib.hid hC
          clear hC hfh
          cases C
          · have HME : Hid (miss best (q + 1) = miss best q ++ [(q : Int)]) := by show _ = _; rw [HMS.out, HC.out]; rfl
            have HMl : Hid ((miss best (q + 1)).length = (miss best q).length + 1) := by show _ = _; rw [HME.out]; simp
            go_wp2_with (at_builtin; refine wpList_append_own _ rfl _ _ 24 rfl w4.heap.size 3 i0 (.int .i64 0) 1 8 Try.underlying24 hi hz0 hz1 hz2 rfl (by decide) _ _ _ rfl (hownO.alloc _) ⟨wr.heap.size, 0, none⟩ 1 1 [.int .i64 q] rfl rfl ?c1 ?c2 ?c3 ?c4 ?c5 ?_)
            case c2 => first | rfl | (intro u hu; simp at hu; subst hu; rfl)
            case c3 => unfold maxLen; omega
            case c4 => omega
            case c5 => first | omega | (simp; omega)
            intro v' w6 hown' hgrow _
            have hb6 : Below w4.heap.size w4 w6 := (hbO.alloc hszO _).grown hgrow (by simp; omega) (fun g hg => (hownO.lt g hg).1)
            rw [ints_snoc', ← HME.out, ← HMl.out] at hown'
            obtain ⟨A6, c6, rfl⟩ := own_form hown'
            have HO := Lib.hid (And.intro hown' hb6)
            clear hown' hb6 hownO hbO hgrow
            go_wp2
            go_roundw
            case rel => exact ⟨q + 1, A6, c6, by omega, by go_num, rfl, HO.out.1, HO.out.2⟩
            case measure => simp [intOf]; omega
          · have HME : Hid (miss best (q + 1) = miss best q) := by show _ = _; rw [HMS.out, HC.out]; simp
            have HO := Lib.hid (And.intro hownO hbO)
            clear hownO hbO
            go_wp2
            go_roundw
            case rel => exact ⟨q + 1, Ak, ck, by omega, by go_num, by rw [HME.out], by rw [HME.out]; exact HO.out.1, HO.out.2⟩
            case measure => simp [intOf]; omega
        · obtain rfl : q = N := by omega
          have HO := Lib.hid (And.intro (own_base hownO hb4.size) (Below.step hb4 hbO))
          clear hownO hbO
          go_wp2
          go_ret2
          exact missRes_yes HV.out rfl (by rw [HN.out, HB.out]; exact HO.out.1) HO.out.2
end Go.Proofs.Ytpkfpegilhadfaa
