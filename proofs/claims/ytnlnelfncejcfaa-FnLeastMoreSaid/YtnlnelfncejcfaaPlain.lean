/- Lists of integers: plain lemmas, no program in sight. -/
namespace Go.Proofs.Ytnlnelfncejcfaa

/-- the number at a place (nought beyond the end) -/
def gI (zs : List Int) (i : Nat) : Int := zs[i]?.getD 0
theorem gI_lt {zs : List Int} {i : Nat} (h : i < zs.length) : gI zs i = zs[i] := by simp [gI, h]
theorem gI_ge {zs : List Int} {i : Nat} (h : zs.length ≤ i) : gI zs i = 0 := by simp [gI, h]
theorem gI_ext {xs ys : List Int} (hl : xs.length = ys.length) (h : ∀ i, i < xs.length → gI xs i = gI ys i) : xs = ys := by
  apply List.ext_getElem hl
  intro i h1 h2
  have := h i h1
  rwa [gI_lt h1, gI_lt h2] at this
theorem gI_take {zs : List Int} {i k : Nat} (h : i < k) : gI (zs.take k) i = gI zs i := by simp [gI, h]
theorem gI_append_lt {xs ys : List Int} {i : Nat} (h : i < xs.length) : gI (xs ++ ys) i = gI xs i := by simp [gI, List.getElem?_append_left h]
theorem gI_append_ge {xs ys : List Int} {i : Nat} (h : xs.length ≤ i) : gI (xs ++ ys) i = gI ys (i - xs.length) := by simp [gI, List.getElem?_append_right h]
theorem gI_cons_succ (c : Int) (cs : List Int) (i : Nat) : gI (c :: cs) (i + 1) = gI cs i := by simp [gI]
theorem gI_cons_zero (c : Int) (cs : List Int) : gI (c :: cs) 0 = c := by simp [gI]
theorem gI_rev {cs : List Int} {i : Nat} (h : i < cs.length) : gI cs.reverse i = gI cs (cs.length - 1 - i) := by
  unfold gI; rw [List.getElem?_reverse h]
theorem gI_mem {zs : List Int} {i : Nat} (h : i < zs.length) : gI zs i ∈ zs := by rw [gI_lt h]; exact List.getElem_mem h
theorem take_snoc {zs : List Int} {k : Nat} (h : k < zs.length) : zs.take (k + 1) = zs.take k ++ [gI zs k] := by
  rw [List.take_succ_eq_append_getElem h, gI_lt h]

/-- the first k of zs, the rest noughts: what a copy holds after k rounds -/
def part (zs : List Int) (k n : Nat) : List Int := zs.take k ++ List.replicate (n - k) 0
theorem part_len {zs : List Int} {k n : Nat} (h : zs.length = n) (hk : k ≤ n) : (part zs k n).length = n := by simp [part]; omega
theorem part_all {zs : List Int} {n : Nat} (h : zs.length = n) : part zs n n = zs := by simp [part, ← h]
theorem part_set {zs : List Int} {k n : Nat} (h : zs.length = n) (hk : k < n) : (part zs k n).set k (gI zs k) = part zs (k + 1) n := by
  have hk' : k < zs.length := by omega
  have e : (zs.take k).length = k := by simp; omega
  unfold part
  rw [List.set_append_right _ _ (by omega), e, Nat.sub_self, take_snoc hk', List.append_assoc]
  rw [show n - k = (n - (k + 1)) + 1 by omega, List.replicate_succ, List.set_cons_zero]
  rfl

/-- k, k+1, ..: n numbers -/
def iota (k : Int) (n : Nat) : List Int := (List.range n).map (fun (i : Nat) => k + (i : Int))
theorem iota_len (k : Int) (n : Nat) : (iota k n).length = n := by simp [iota]
theorem iota_at {k : Int} {n i : Nat} (h : i < n) : gI (iota k n) i = k + (i : Int) := by simp [gI, iota, h]
/-- the first i are marked, the rest as they were -/
def marked (zs : List Int) (k : Int) (i : Nat) : List Int := iota k i ++ zs.drop i
theorem marked_len {zs : List Int} {k : Int} {i : Nat} (h : i ≤ zs.length) : (marked zs k i).length = zs.length := by simp [marked, iota_len]; omega
theorem marked_set {zs : List Int} {k : Int} {i : Nat} (h : i < zs.length) : (marked zs k i).set i (k + (i : Int)) = marked zs k (i + 1) := by
  unfold marked
  rw [List.set_append_right _ _ (by rw [iota_len]; exact Nat.le_refl _), iota_len, Nat.sub_self]
  rw [List.drop_eq_getElem_cons h, List.set_cons_zero]
  unfold iota
  rw [List.range_succ, List.map_append]
  simp
theorem marked_all (zs : List Int) (k : Int) : marked zs k zs.length = iota k zs.length := by simp [marked]

end Go.Proofs.Ytnlnelfncejcfaa
