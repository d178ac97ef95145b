/- Slices of slices of ints in memory: what can be read of them, and what the call itself owns. -/
import Derived.Test.YtpfbjpognmjmmaaBlGroups
import Derived.Test.YtpfbjpognmjmmaaBase
import Derived.Test.YtpfbjpognmjmmaaAppR
set_option linter.unusedVariables false
namespace Go.Proofs.Ytpfbjpognmjmmaa
open Go.RowKit Bl

/-- group i -/
def gG (G : List (List Int)) (i : Nat) : List Int := G[i]?.getD []
theorem gG_lt {G : List (List Int)} {i : Nat} (h : i < G.length) : gG G i = G[i] := by simp [gG, h]
theorem gG_mem {G : List (List Int)} {i : Nat} (h : i < G.length) : gG G i ∈ G := by rw [gG_lt h]; exact List.getElem_mem h
theorem gG_snoc_lt {G : List (List Int)} {g : List Int} {i : Nat} (h : i < G.length) : gG (G ++ [g]) i = gG G i := by unfold gG; rw [List.getElem?_append_left h]
theorem gG_snoc {G : List (List Int)} {g : List Int} : gG (G ++ [g]) G.length = g := by unfold gG; rw [List.getElem?_append_right (Nat.le_refl _), Nat.sub_self]; rfl
theorem gG_set {G : List (List Int)} {i j : Nat} {g : List Int} (h : i < G.length) : gG (G.set i g) j = if j = i then g else gG G j := by
  unfold gG
  rw [List.getElem?_set]
  by_cases e : i = j
  · subst e; simp [h]
  · rw [if_neg e, if_neg (fun h => e h.symm)]
theorem gG_ext {xs ys : List (List Int)} (hl : xs.length = ys.length) (h : ∀ i, i < xs.length → gG xs i = gG ys i) : xs = ys := by
  apply List.ext_getElem hl
  intro i h1 h2
  have := h i h1
  rwa [gG_lt h1, gG_lt h2] at this

theorem own_ne' {w : World} {b1 b2 s1 s2 n1 n2 : Nat} {e1 e2 : TypeId} {v1 v2 : Value} {xs1 xs2 : List Value} (h1 : w.ownsRow b1 e1 s1 v1 n1 xs1) (h2 : w.ownsRow b2 e2 s2 v2 n2 xs2) (hne : e1 ≠ e2) : v1.ownBlock = none ∨ v1.ownBlock ≠ v2.ownBlock := by
  rcases h1.2 with ⟨rfl, _⟩ | ⟨g1, c1, cur1, rfl, _, hh1, _⟩
  · exact .inl (by simp [Value.ownBlock])
  · rcases h2.2 with ⟨rfl, _⟩ | ⟨g2, c2, cur2, rfl, _, hh2, _⟩
    · exact .inr (by simp [Value.ownBlock])
    · refine .inr fun he => ?_
      have : g1 = g2 := by simpa [Value.ownBlock] using he
      subst this
      rw [hh1] at hh2
      injection hh2 with hh2
      injection hh2 with _ ht
      exact hne ht

/-- the slice of slices '.slice A n c' reads as G in w, and lies below block B -/
structure GSl (w : World) (B : Nat) (A : Option Addr) (n c : Nat) (G : List (List Int)) : Prop where
  len : G.length = n
  cap : n ≤ c
  mem : 0 < n → ∃ b off, A = some ⟨b, off, none⟩ ∧ b < B ∧ ∀ i, i < n → ∃ Ai ci, w.cell? ⟨b, off + i, none⟩ = some (.slice Ai (gG G i).length ci) ∧ ISl w B Ai (gG G i).length ci (gG G i)

/-- the slice value v of n slices is the call's own, S being the slices in it, each the call's own -/
structure GRow (w : World) (base : Nat) (S : Nat → Value) (v : Value) (n : Nat) (G : List (List Int)) : Prop where
  len : G.length = n
  row : OwnR w base 22 1 v n (fun i _ => S i)
  inn : ∀ i, i < n → w.ownsRow base 3 1 (S i) (gG G i).length ((gG G i).map (Value.int .i64))
  apart : ∀ i j k, i < n → j < n → i ≠ j → (S i).ownBlock = some k → (S j).ownBlock ≠ some k
def GOwn (w : World) (base : Nat) (v : Value) (n : Nat) (G : List (List Int)) : Prop := ∃ S, GRow w base S v n G

section
variable {w w' wb wx : World} {B B' : Nat} {A : Option Addr} {n c : Nat} {G : List (List Int)} {base base' : Nat} {v : Value} {S : Nat → Value}
theorem GSl.keep (h : GSl w B A n c G) (hk : ∀ b off, b < B → w'.cell? ⟨b, off, none⟩ = w.cell? ⟨b, off, none⟩) : GSl w' B A n c G :=
  ⟨h.len, h.cap, fun hn => by
    obtain ⟨b, off, e, hb, hc⟩ := h.mem hn
    refine ⟨b, off, e, hb, fun i hi => ?_⟩
    obtain ⟨Ai, ci, h1, h2⟩ := hc i hi
    exact ⟨Ai, ci, (hk _ _ hb).trans h1, h2.keep hk⟩⟩
theorem GSl.more (h : GSl w B A n c G) (hB : B ≤ B') : GSl w B' A n c G :=
  ⟨h.len, h.cap, fun hn => by
    obtain ⟨b, off, e, hb, hc⟩ := h.mem hn
    refine ⟨b, off, e, by omega, fun i hi => ?_⟩
    obtain ⟨Ai, ci, h1, h2⟩ := hc i hi
    exact ⟨Ai, ci, h1, h2.more hB⟩⟩
theorem GSl.below (h : GSl w B A n c G) (hb : Below B w w') : GSl w' B A n c G := h.keep fun b off hp => hb.cell (p := ⟨b, off, none⟩) hp
theorem GSl.at_ (h : GSl w B A n c G) {k : Nat} (hk : k < n) : ∃ b off, A = some ⟨b, off, none⟩ ∧ b < B ∧ ∀ i, i < n → ∃ Ai ci, w.cell? ⟨b, off + i, none⟩ = some (.slice Ai (gG G i).length ci) ∧ ISl w B Ai (gG G i).length ci (gG G i) := h.mem (by omega)

theorem GRow.form (h : GRow w base S v n G) : ∃ A c, v = .slice A n c := h.row.form
theorem GOwn.form (h : GOwn w base v n G) : ∃ A c, v = .slice A n c := by obtain ⟨S, h⟩ := h; exact h.row.form
theorem GRow.map (h : GRow w base S v n G) (hk : ∀ (e : TypeId) (u : Value) (m : Nat) (xs : List Value), w.ownsRow base e 1 u m xs → w'.ownsRow base' e 1 u m xs) : GRow w' base' S v n G :=
  ⟨h.len, h.row.map fun _ h => hk _ _ _ _ h, fun i hi => hk _ _ _ _ (h.inn i hi), h.apart⟩
theorem GRow.below (h : GRow w base S v n G) (hb : Below w.heap.size w w') : GRow w' base S v n G := h.map fun _ _ _ _ h => own_below h hb
theorem GOwn.below (h : GOwn w base v n G) (hb : Below w.heap.size w w') : GOwn w' base v n G := by obtain ⟨S, h⟩ := h; exact ⟨S, h.below hb⟩
theorem GOwn.base_ (h : GOwn w base v n G) (hb : base' ≤ base) : GOwn w base' v n G := by obtain ⟨S, h⟩ := h; exact ⟨S, h.map fun _ _ _ _ h => own_base h hb⟩
theorem GRow.alloc (h : GRow w base S v n G) (o : Obj) : GRow (w.alloc o) base S v n G := h.map fun _ _ _ _ h => h.alloc o
theorem GRow.drewN (h : GRow w base S v n G) (k : Nat) : GRow (w.drewN k) base S v n G := h.map fun _ _ _ _ h => h
theorem GOwn.nil (w : World) (base : Nat) : GOwn w base (.slice none 0 0) 0 [] := ⟨fun _ => undef, rfl, OwnR.nil _ _ _ _ _, fun i hi => absurd hi (by omega), fun i j k hi => absurd hi (by omega)⟩
theorem GOwn.lit0 (w : World) : GOwn (w.alloc (.cells #[] 22)) w.heap.size (.slice (some ⟨w.heap.size, 0, none⟩) 0 0) 0 [] := ⟨fun _ => undef, rfl, OwnR.lit0 w _ _ _, fun i hi => absurd hi (by omega), fun i j k hi => absurd hi (by omega)⟩
/-- groups that lie above a row that is written -/
theorem GOwn.far2 {e' : TypeId} {s' n' : Nat} {v' : Value} {xs' : List Value} (h : GOwn w base v n G) (hx : wx.ownsRow base' e' s' v' n' xs') (hle : wx.heap.size ≤ base) (hg : w.grownBy w' v'.ownBlock) : GOwn w' base v n G := by
  obtain ⟨S, h⟩ := h
  exact ⟨S, h.map fun _ _ _ _ h => own_far2 h hx hle hg⟩
/-- what the call itself made reads as what it owns -/
theorem GSl.of_own (h : GOwn w base (.slice A n c) n G) (hi : ∀ g ∈ G, ∀ z ∈ g, InI z) : GSl w w.heap.size A n c G := by
  obtain ⟨S, h⟩ := h
  have hr := RSl.of_own h.row
  refine ⟨h.len, hr.cap, fun hn => ?_⟩
  obtain ⟨b, off, rfl, hb, hc⟩ := hr.mem hn
  refine ⟨b, off, rfl, hb, fun i hi' => ?_⟩
  have h1 := h.inn i hi'
  obtain ⟨Ai, ci, hS⟩ := own_form h1
  have h2 := hc i 0 hi' (by omega)
  rw [Nat.mul_one, Nat.add_zero, hS] at h2
  rw [hS] at h1
  exact ⟨Ai, ci, h2, ISl.of_own h1 (hi _ (gG_mem (by rw [h.len]; exact hi')))⟩
/-- one of the slices written -/
theorem GRow.mark_at (h : GRow w base S v n G) {i : Nat} (hi : i < n) {zs : List Int} (hg : w.grownBy w' (S i).ownBlock) (ho : w'.ownsRow base 3 1 (S i) zs.length (zs.map (Value.int .i64))) : GRow w' base S v n (G.set i zs) := by
  refine ⟨by simp [h.len], h.row.map fun xs hx => hx.kept hg (own_ne' hx (h.inn i hi) (by decide)), fun j hj => ?_, h.apart⟩
  rw [gG_set (by rw [h.len]; exact hi)]
  by_cases e : j = i
  · subst e; rw [if_pos rfl]; exact ho
  · rw [if_neg e]
    refine (h.inn j hj).kept hg ?_
    cases ev : (S j).ownBlock with
    | none => exact .inl rfl
    | some k => exact .inr fun he => h.apart j i k hj hi e ev he.symm
theorem GRow.mark_below (h : GRow w base S v n G) {i : Nat} (hi : i < n) (hb : base ≤ w.heap.size) (hg : w.grownBy w' (S i).ownBlock) : Below base w w' :=
  (Below.refl _ _).grown hg hb (fun k hk => ((h.inn i hi).lt k hk).1)
end

/-- how many numbers stand ahead of group i -/
def offs : List (List Int) → Nat → Nat
  | [], _ => 0
  | _, 0 => 0
  | g :: gs, i + 1 => g.length + offs gs i
theorem offs_zero (G : List (List Int)) : offs G 0 = 0 := by cases G <;> rfl
theorem offs_succ {G : List (List Int)} {i : Nat} (h : i < G.length) : offs G (i + 1) = offs G i + (gG G i).length := by
  induction G generalizing i with
  | nil => simp at h
  | cons g gs ih =>
    cases i with
    | zero => simp [offs, offs_zero, gG]
    | succ i =>
      have := ih (i := i) (by simpa using h)
      simp only [offs, this]
      have e : gG (g :: gs) (i + 1) = gG gs i := by simp [gG]
      rw [e]; omega
theorem offs_le {G : List (List Int)} {L : Nat} (hL : ∀ g ∈ G, g.length ≤ L) (i : Nat) (hi : i ≤ G.length) : offs G i ≤ L * i := by
  induction i with
  | zero => rw [offs_zero]; omega
  | succ i ih =>
    rw [offs_succ (by omega)]
    have h1 := ih (by omega)
    have h2 := hL _ (gG_mem (G := G) (i := i) (by omega))
    rw [Nat.mul_add]; omega
/-- groups of the same lengths, all marked from k on -/
structure Marked (k : Int) (G G' : List (List Int)) : Prop where
  len : G'.length = G.length
  at_ : ∀ i, i < G.length → gG G' i = iota (k + (offs G i : Int)) (gG G i).length
theorem Marked.in_ {k : Int} {G G' : List (List Int)} (h : Marked k G G') (h0 : 0 ≤ k) (hk : k ≤ 1000) (hl : ∀ g ∈ G, g.length ≤ 100) (hn : G.length ≤ 100) : ∀ g ∈ G', ∀ z ∈ g, InI z := by
  intro g hg z hz
  obtain ⟨i, hi, rfl⟩ := List.mem_iff_getElem.1 hg
  rw [← gG_lt hi] at hz
  have hi' : i < G.length := by rw [← h.len]; exact hi
  rw [h.at_ i hi'] at hz
  have h1 := offs_le hl i (by omega)
  have h2 := hl _ (gG_mem hi')
  exact iota_in (k := k + (offs G i : Int)) (n := (gG G i).length) (by omega) (by omega) z hz
end Go.Proofs.Ytpfbjpognmjmmaa
