/- Contracts of the reference's draws of links. -/
import Derived.Test.YtnlnelfncejcfaaLkBase
import Derived.Test.YtnlnelfncejcfaaDraw
import Derived.Deep.DeepCutAuto
import Derived.Deep.RegionHeld3
import Derived.Deep.AppendLies
import Derived.Deep.CutBlock
set_option linter.unusedVariables false
namespace Go.Proofs.Ytnlnelfncejcfaa
open Go.RowKit Lk

/-- a link with small numbers -/
def Sz (B : Int) (l : Link) : Prop := (-1000 ≤ l.f ∧ l.f ≤ 1000) ∧ (-1000 ≤ l.t ∧ l.t ≤ 1000) ∧ (-B ≤ l.d ∧ l.d ≤ B)
theorem Sz.inL {B : Int} {l : Link} (h : Sz B l) (hB : B ≤ 1000000) : InL l := by unfold Sz at h; unfold InL InI; omega
theorem Sz.more {B C : Int} {l : Link} (h : Sz B l) (hB : B ≤ C) : Sz C l := by unfold Sz at *; omega
theorem sz_more {B C : Int} {ls : List Link} (h : ∀ l ∈ ls, Sz B l) (hB : B ≤ C) : ∀ l ∈ ls, Sz C l := fun l hl => (h l hl).more hB
theorem sz_set {B C : Int} {ls : List Link} (h : ∀ l ∈ ls, Sz B l) (hB : B ≤ C) {i : Nat} {x : Link} (hx : Sz C x) : ∀ l ∈ ls.set i x, Sz C l := fun l hl => by
  rcases List.mem_or_eq_of_mem_set hl with hl | hl
  · exact (h l hl).more hB
  · rw [hl]; exact hx
theorem sz_snoc {B : Int} {ls : List Link} (h : ∀ l ∈ ls, Sz B l) {x : Link} (hx : Sz B x) : ∀ l ∈ ls ++ [x], Sz B l := fun l hl => by
  rcases List.mem_append.1 hl with hl | hl
  · exact h l hl
  · have : l = x := by simpa using hl
    rw [this]; exact hx
theorem own_ne {w : World} {b1 b2 s1 s2 n1 n2 : Nat} {e1 e2 : TypeId} {v1 v2 : Value} {xs1 xs2 : List Value} (h1 : w.ownsRow b1 e1 s1 v1 n1 xs1) (h2 : w.ownsRow b2 e2 s2 v2 n2 xs2) (hne : e1 ≠ e2) : v1.ownBlock = none ∨ v1.ownBlock ≠ v2.ownBlock := by
  rcases h1.2 with ⟨rfl, _⟩ | ⟨g1, c1, cur1, rfl, _, hh1, _⟩
  · exact .inl (by simp [Value.ownBlock])
  · rcases h2.2 with ⟨rfl, _⟩ | ⟨g2, c2, cur2, rfl, _, hh2, _⟩
    · exact .inr (by simp [Value.ownBlock])
    · refine .inr fun he => ?_
      have : g1 = g2 := by simpa [Value.ownBlock] using he
      subst this
      rw [hh1] at hh2
      injection hh2 with hh2
      injection hh2 with _ ht
      exact hne ht
theorem cell_three_new (w : World) (a b c : Value) (t : TypeId) : ∀ (j : Nat) (u : Value), [a, b, c][j]? = some u → (w.alloc (.cells #[a, b, c] t)).cell? ((⟨w.heap.size, 0, none⟩ : Addr).add j) = some u := by
  intro j u hu
  have ea : (⟨w.heap.size, 0, none⟩ : Addr).add j = ⟨w.heap.size, j, none⟩ := by unfold Addr.add; split <;> simp_all
  rw [ea, cell_of_row (w.alloc _) _ j _ _ _ (heap_alloc_new w _)]
  match j, hu with
  | 0, hu => exact hu
  | 1, hu => exact hu
  | 2, hu => exact hu
  | (j + 3), hu => simp at hu
theorem grown_far {w w' : World} {g b off : Nat} (hG : w.grownBy w' (some g)) (hb : b < w.heap.size) (hne : b ≠ g) : w'.cell? ⟨b, off, none⟩ = w.cell? ⟨b, off, none⟩ :=
  World.cell?_of_block (hG.block b hb (fun e => by injection e; omega))
theorem rd_drew {w : World} {g p : Nat} (h : Rd w g p) : Rd w.drew g p := (rd_drewN (k := 1) ⟨h, World.grownBy.refl w _⟩).1
/-- links drawn, in the middle -/
def LSt (A : Option Addr) (j c g p : Nat) (w w' : World) : Prop := ∃ (q : Nat) (ls : List Link), q ≤ p ∧ LOwn w' w.heap.size 28 (.slice A j c) j ls ∧ (∀ l ∈ ls, Sz 2000 l) ∧ Rd w' g q ∧ w.grownBy w' (some g)
/-- what l93Links leaves -/
def LinksRes (g p : Nat) (w : World) (e : Ending) (w' : World) : Prop :=
  ∃ (many : Nat) (A : Option Addr) (m c : Nat) (ls : List Link) (p' : Nat), e = .returned (.tuple #[.int .i64 (many : Int), .slice A m c]) ∧ 1 ≤ many ∧ many ≤ 6 ∧ m ≤ 8 ∧ LOwn w' w.heap.size 28 (.slice A m c) m ls ∧ (∀ l ∈ ls, Sz 300000 l) ∧ p' ≤ p + 100 ∧ Rd w' g p' ∧ w.grownBy w' (some g)
set_option maxRecDepth 100000 in
set_option maxHeartbeats 4000000 in
theorem l93Links_any (g p : Nat) (w : World) (h : Rd w g p) (hp : p ≤ 900000) :
    Calls Try.prog 8 #[.pointer (some ⟨g, 0, none⟩)] w (LinksRes g p w) := by
  obtain ⟨i0, hi, hz0, hz1, hz2⟩ := info_parts int_info
  obtain ⟨i1, hi1, hy0, hy1, hy2⟩ := info_parts link_info
  have hglt := h.lt
  go_enter Try.func8, Try.ntmps8
  go_wp2_with fail
  refine (pick_any _ _ _ _ h (by omega)).mono ?_
  rintro e w1 ⟨v, rfl, hv, hR1, hG1⟩
  obtain ⟨v0, rfl⟩ := Int.eq_ofNat_of_zero_le (hv.1 (by omega)).1
  have hv6 : v0 < 6 := by have := (hv.1 (by omega)).2; omega
  obtain ⟨M, hM⟩ : ∃ M, 1 + v0 = M := ⟨_, rfl⟩
  have hMI : (1 : Int) + (v0 : Int) = (M : Int) := by omega
  have hM1 : 1 ≤ M := by omega
  have hM6 : M ≤ 6 := by omega
  have hO1 : (w1.alloc (.cells #[] 3)).ownsRow w.heap.size 3 1 (.slice (some ⟨w1.heap.size, 0, none⟩) 0 0) 0 (([] : List Int).map (Value.int .i64)) := own_base (own_lit0 w1 3) hG1.size
  have hG1' := grown_alloc hG1 (.cells #[] 3)
  have hR1' := hR1.below ((Below.refl _ _).alloc (Nat.le_refl _) (.cells #[] 3)) hR1.lt
  clear hv hM
  go_wp2
  go_loopw [5, 6] (fun v i wr => ∃ (k p' : Nat) (zs : List Int), k ≤ M ∧ i = .int .i64 k ∧ p' ≤ p + 1 + k ∧ wr.ownsRow w.heap.size 3 1 v k (zs.map (Value.int .i64)) ∧ Hid (∀ z ∈ zs, 0 ≤ z ∧ z ≤ 1000) ∧ Rd wr g p' ∧ w.grownBy wr (some g)) (fun _ i _ => M - (intOf i).toNat)
  case atStart => exact ⟨0, p + 1, [], Nat.zero_le _, rfl, by omega, hO1, (fun z hz => by cases hz), hR1', hG1'⟩
  case round =>
    obtain ⟨k, p', zs, hk, rfl, hp', hown, hin, hR, hG⟩ := hrel
    clear hO1 hG1' hR1' hG1 hR1
    by_cases hlt : k < M
    · go_wp2_with fail
      refine (pick_any _ _ _ _ hR (by omega)).mono ?_
      rintro e w2 ⟨x, rfl, hx, hR2, hG2⟩
      have hxb := hx.1 (by omega)
      have hO2 := own_keep hown hG2 hglt
      have hG2' := hG.trans hG2
      have hs2 := hG2'.size
      clear hx hG hG2 hown hR
      go_wp2_with (at_builtin; refine wpList_append_own _ rfl _ _ 40 rfl w.heap.size 3 i0 (.int .i64 0) 1 8 Try.underlying40 hi hz0 hz1 hz2 rfl (by decide) _ _ _ rfl (hO2.alloc _) ⟨w2.heap.size, 0, none⟩ 1 1 [.int .i64 (x * 7)] rfl rfl ?c1 ?c2 ?c3 ?c4 ?c5 ?_)
      case c1 => exact cell_one_new _ _ _
      case c2 => intro u hu; simp at hu; subst hu; rfl
      case c3 => unfold maxLen; omega
      case c4 => omega
      case c5 => simp; omega
      intro v' w5 hown' hgrow _
      rw [ints_snoc] at hown'
      have hG5 := grown_own hG2' hO2 hgrow
      have hR5 := hR2.below (below_own hG2' hO2 hgrow) hglt
      have HO := Lib.hid hown'
      clear hgrow hO2 hG2' hR2 hown'
      go_wp2
      go_roundw
      case rel =>
        refine ⟨k + 1, p' + 1, zs ++ [x * 7], by omega, by go_num, by omega, HO.out, fun z hz => ?_, hR5, hG5⟩
        rcases List.mem_append.1 hz with hz | hz
        · exact hin.out z hz
        · simp at hz; subst hz; omega
      case measure => simp [intOf]; omega
    · obtain rfl : k = M := by omega
      obtain ⟨EA, ec, rfl⟩ := own_form hown
      obtain ⟨eb, rfl, heb1, heb2⟩ := own_at hown (by omega)
      have hzl : zs.length = k := by have := hown.1; simpa using this
      have HZL := Lib.hid hzl
      clear hzl
      obtain ⟨wa, rfl⟩ : ∃ wa : World, wa = wr := ⟨_, rfl⟩
      have hLO : LOwn (wa.alloc (.cells #[] 28)) w.heap.size 28 (.slice (some ⟨wa.heap.size, 0, none⟩) 0 0) 0 [] := (LOwn.lit0 wa 28).base_ hG.size
      have hOa := hown.alloc (.cells #[] 28)
      have hRa := hR.below ((Below.refl _ _).alloc (Nat.le_refl _) (.cells #[] 28)) hR.lt
      have hGa := grown_alloc hG (.cells #[] 28)
      have hsa : (wa.alloc (.cells #[] 28)).heap.size = wa.heap.size + 1 := by simp
      go_wp2_with fail
      refine (pick_any _ _ _ _ hRa (by omega)).mono ?_
      rintro e wb ⟨nn, rfl, hnn, hRb, hGb⟩
      obtain ⟨n, rfl⟩ := Int.eq_ofNat_of_zero_le (hnn.1 (by omega)).1
      have hn9 : n < 9 := by have := (hnn.1 (by omega)).2; omega
      have hLOb := hLO.keep hGb hglt
      have hOb := own_keep hOa hGb hglt
      have hGb' := hGa.trans hGb
      have hsb := hGb.size
      clear hnn hGb hGa hRa hOa hLO hR hG hown
      go_wp2
      go_loopw [7, 9] (fun v i wr => ∃ (j q : Nat) (ls : List Link), j ≤ n ∧ i = .int .i64 j ∧ q ≤ p' + 1 + 2 * j ∧ LOwn wr w.heap.size 28 v j ls ∧ Hid (∀ l ∈ ls, Sz 1000 l) ∧ wr.ownsRow w.heap.size 3 1 (.slice (some ⟨eb, 0, none⟩) k ec) k (zs.map (Value.int .i64)) ∧ Rd wr g q ∧ w.grownBy wr (some g)) (fun _ i _ => n - (intOf i).toNat)
      case atStart => exact ⟨0, p' + 1, [], Nat.zero_le _, rfl, by omega, hLOb, (fun l hl => by cases hl), hOb, hRb, hGb'⟩
      case round =>
        obtain ⟨j, q, ls, hj, rfl, hq, hL, hsm, hE, hR, hG⟩ := hrel
        obtain ⟨A7, c7, rfl⟩ := hL.form
        clear hLOb hOb hRb hGb'
        by_cases hlt2 : j < n
        · go_wp2_with fail
          refine (pick_any _ _ _ _ hR (by omega)).mono ?_
          rintro e w3 ⟨a, rfl, ha, hR3, hG3⟩
          obtain ⟨a', rfl⟩ := Int.eq_ofNat_of_zero_le (ha.1 (by omega)).1
          have hak : a' < k := by have := (ha.1 (by omega)).2; omega
          have hL3 := hL.keep hG3 hglt
          have hE3 := own_keep hE hG3 hglt
          have hG3' := hG.trans hG3
          clear ha hG hG3 hL hE hR
          go_wp2_with fail
          refine (pick_any _ _ _ _ hR3 (by omega)).mono ?_
          rintro e w4 ⟨b, rfl, hb, hR4, hG4⟩
          obtain ⟨b', rfl⟩ := Int.eq_ofNat_of_zero_le (hb.1 (by omega)).1
          have hbk : b' < k := by have := (hb.1 (by omega)).2; omega
          have hL4 := hL3.keep hG4 hglt
          have hE4 := own_keep hE3 hG4 hglt
          have hG4' := hG3'.trans hG4
          clear hb hG3' hG4 hL3 hE3 hR3
          have hzl := HZL.out
          have r1 : w4.cell? ⟨eb, a', none⟩ = some (.int .i64 (gI zs a')) := (hE4.cellAt _ (by omega)).trans (getElem?_map_some (by omega))
          have r2 : w4.cell? ⟨eb, b', none⟩ = some (.int .i64 (gI zs b')) := (hE4.cellAt _ (by omega)).trans (getElem?_map_some (by omega))
          have g1 := hin.out (gI zs a') (gI_mem (by omega))
          have g2 := hin.out (gI zs b') (gI_mem (by omega))
          have hakI : (a' : Int) < (k : Int) := by omega
          have hbkI : (b' : Int) < (k : Int) := by omega
          have u1 : IntKind.i64.wrap (gI zs b' - gI zs a') = gI zs b' - gI zs a' := IntWalk.i64_in _ (by omega)
          have hs4 := hG4'.size
          obtain ⟨xs, hxo, hxx⟩ := hL4.row
          have hxl := hxo.1
          have HXX := Lib.hid hxx
          have HXL := Lib.hid hxl
          have hll := hL4.len
          have HLL := Lib.hid hll
          clear hxx hxl hzl hll
          have heb4 : eb < w4.heap.size := (hE4.lt _ rfl).2
          have hne : (Value.slice A7 j c7).ownBlock ≠ some eb := by
            rcases own_ne hE4 hxo (by decide) with h1 | h1
            · simp [Value.ownBlock] at h1
            · exact fun h2 => h1 (by rw [h2]; rfl)
          go_wp2
          go_region_held3 (fun w' => w'.cell? ⟨eb, a', none⟩ = some (.int .i64 (gI zs a')) ∧ w'.cell? ⟨eb, b', none⟩ = some (.int .i64 (gI zs b')))
            (first
              | go_keep
              | (go_split_ands
                 refine ⟨?_, ?_⟩
                 · (rw [hgrow.cell_far _ (by simp; omega) (Ne.symm hne)]; assumption)
                 · (rw [hgrow.cell_far _ (by simp; omega) (Ne.symm hne)]; assumption)))
            ((refine step_append_lies _ (by rfl) _ _ _ (by rfl) w.heap.size 28 i1 _ 3 24 Try.underlying23 hi1 hy0 hy1 hy2 rfl (by omega) (.slice A7 j c7) j xs (by rfl) ((hxo.alloc _).drew)
                  ⟨w4.heap.size, 0, none⟩ 1 1 [.int .i64 (a' : Int), .int .i64 (b' : Int), .int .i64 (gI zs b' - gI zs a')] (by rfl) (by rfl) (cell_three_new w4 _ _ _ _) (by simp [Value.oneCell'])
                  (by omega) (by unfold maxLen; omega) (by omega) (by simp; omega) (w4.heap.size + 1) (by simp) ?_; intro gg cap w5 hown5 hgrow hat hlt5))
          have hb5 : Below w.heap.size w4 w5 := (below_drew ((Below.refl _ _).alloc hs4 _)).grown (w' := w5) hgrow (by simp; omega) (fun q hq => (hxo.lt q hq).1)
          have hL5 : LOwn w5 w.heap.size 28 (.slice (some ⟨gg, 0, none⟩) (j + 1) cap) (j + 1) (ls ++ [⟨a', b', gI zs b' - gI zs a'⟩]) := LOwn.snoc HXX.out HLL.out HXL.out hown5
          have hE5 : w5.ownsRow w.heap.size 3 1 (.slice (some ⟨eb, 0, none⟩) k ec) k (zs.map (Value.int .i64)) := (own_drew (hE4.alloc _)).kept hgrow (.inr (fun h => hne h.symm))
          have hR5 := hR4.below hb5 hglt
          have hG5 := grown_below hG4' hb5
          have HSM : Hid (∀ l ∈ ls ++ [(⟨a', b', gI zs b' - gI zs a'⟩ : Link)], Sz 1000 l) := sz_snoc hsm.out (by unfold Sz; dsimp only; omega)
          clear hown5 hgrow hat hb5 hG4' hR4 hE4 hL4 hxo r1 r2 u1
          go_wp2
          go_roundw
          case rel => exact ⟨j + 1, q + 1 + 1, _, by omega, by go_num, by omega, hL5, HSM.out, hE5, hR5, hG5⟩
          case measure => simp [intOf]; omega
        · obtain rfl : j = n := by omega
          clear hE
          go_wp2_with fail
          refine (pick_any _ _ _ _ hR (by omega)).mono ?_
          rintro e wc ⟨s, rfl, hs, hR6, hG6⟩
          obtain ⟨s', rfl⟩ := Int.eq_ofNat_of_zero_le (hs.1 (by omega)).1
          have hs5 : s' < 5 := by have := (hs.1 (by omega)).2; omega
          have hL6 := hL.keep hG6 hglt
          have hG6' := hG.trans hG6
          clear hs hG hG6 hL hR
          go_upto_block 4 with (fail)
          go_cut [8] (fun s8 wx => s8 = .int .i64 j ∧ LSt A7 j c7 g (p + 80) w wx)
          case first =>
            by_cases hj0 : 0 < j
            · have hj0I : (0 : Int) < (j : Int) := by omega
              obtain ⟨gb, rfl, hgb1, hgb2⟩ := hL6.at_ hj0
              by_cases h01 : s' = 0 ∨ s' = 1
              · have hs01 : ((s' : Int) == 0) = true ∨ (((s' : Int) == 0) = false ∧ ((s' : Int) == 1) = true) := by
                  rcases h01 with h | h <;> subst h <;> simp
                clear h01
                rcases hs01 with q0 | ⟨q0, q1⟩
                all_goals
                  go_wp2_with fail
                  refine (pick_any _ _ _ _ hR6 (by omega)).mono ?_
                  rintro e wd ⟨y, rfl, hy, hR7, hG7⟩
                  obtain ⟨y', rfl⟩ := Int.eq_ofNat_of_zero_le (hy.1 (by omega)).1
                  have hyj : y' < j := by have := (hy.1 (by omega)).2; omega
                  have hL7 := hL6.keep hG7 hglt
                  have hG7' := hG6'.trans hG7
                  have hyI : (y' : Int) < (j : Int) := by omega
                  obtain ⟨d1, d2, d3⟩ := hL7.cells hyj
                  have HK : Hid (∀ W', wd.drew.grownBy W' (some g) → LOwn W' w.heap.size 28 (.slice (some ⟨gb, 0, none⟩) j c7) j ls ∧ w.grownBy W' (some g)) := fun W' hg' =>
                    ⟨LOwn.keep (w := wd.drew) (hL7.drewN 1) hg' hglt, (grown_drew hG7').trans hg'⟩
                  have hsb := hsm.out _ (gL_mem (ls := ls) (i := y') (by rw [hL7.len]; exact hyj))
                  unfold Sz at hsb
                  clear d1 d2 hy hG7
                  go_wp2
                  go_region_with (go_at_call 9; ((with_reducible refine (pick_any _ _ _ _ (rd_drew hR7) (by omega)).mono ?_); rintro e we ⟨z, rfl, hz, hR8, hG8⟩; obtain ⟨hL8, hG8'⟩ := HK.out _ hG8; obtain ⟨x1, x2, x3⟩ := hL8.cells hyj; have x4 := hL8.frozen (y' * 3 + 2); have hzb := hz.1 (by omega); have u1 : IntKind.i64.wrap ((gL ls y').d + z) = (gL ls y').d + z := IntWalk.i64_in _ (by omega); have u2 : IntKind.i64.wrap ((gL ls y').d + z - 3) = (gL ls y').d + z - 3 := IntWalk.i64_in _ (by omega)))
                  all_goals
                    go_wp2
                    go_meet
                    case rel =>
                      have hs8 := hG8'.size
                      refine ⟨rfl, _, _, ?_, (hL8.setD hyj _).1, sz_set hsm.out (by omega) ?_, hR8.below (hL8.mark (by omega) (hL8.setD hyj _).2) hglt, grown_below hG8' (hL8.mark (by omega) (hL8.setD hyj _).2)⟩
                      · omega
                      · unfold Sz; dsimp only; omega
              · have q0 : ((s' : Int) == 0) = false := by simp; omega
                have q1 : ((s' : Int) == 1) = false := by simp; omega
                by_cases h2 : s' = 2
                · have q2 : ((s' : Int) == 2) = true := by simp; omega
                  clear h01 h2
                  go_wp2
                  go_loopw [13] (fun i wr => ∃ (t q : Nat) (xs : List Link), t ≤ j ∧ i = .int .i64 t ∧ q ≤ p + 40 + t ∧ LOwn wr w.heap.size 28 (.slice (some ⟨gb, 0, none⟩) j c7) j xs ∧ Hid (∀ l ∈ xs, Sz (1000 + 10 * t) l) ∧ Rd wr g q ∧ w.grownBy wr (some g)) (fun i _ => j - (intOf i).toNat)
                  case atStart => exact ⟨0, q + 1, ls, Nat.zero_le _, rfl, by omega, hL6, sz_more hsm.out (by omega), hR6, hG6'⟩
                  case round =>
                    obtain ⟨t, qq, xs, ht, rfl, hqq, hL7, hsz, hR7, hG7'⟩ := hrel
                    clear hL6 hR6 hG6'
                    by_cases htj : t < j
                    · have htI : (t : Int) < (j : Int) := by omega
                      obtain ⟨d1, d2, d3⟩ := hL7.cells htj
                      have HK : Hid (∀ W', wr.drew.grownBy W' (some g) → LOwn W' w.heap.size 28 (.slice (some ⟨gb, 0, none⟩) j c7) j xs ∧ w.grownBy W' (some g)) := fun W' hg' =>
                        ⟨LOwn.keep (w := wr.drew) (hL7.drewN 1) hg' hglt, (grown_drew hG7').trans hg'⟩
                      have hsb := hsz.out _ (gL_mem (ls := xs) (i := t) (by rw [hL7.len]; exact htj))
                      unfold Sz at hsb
                      clear d1 d2
                      go_wp2
                      go_region_with (go_at_call 9; ((with_reducible refine (pick_any _ _ _ _ (rd_drew hR7) (by omega)).mono ?_); rintro e we ⟨z, rfl, hz, hR8, hG8⟩; obtain ⟨hL8, hG8'⟩ := HK.out _ hG8; obtain ⟨x1, x2, x3⟩ := hL8.cells htj; have x4 := hL8.frozen (t * 3 + 2); have hzb := hz.1 (by omega); have u1 : IntKind.i64.wrap ((gL xs t).d + z) = (gL xs t).d + z := IntWalk.i64_in _ (by omega); have u2 : IntKind.i64.wrap ((gL xs t).d + z - 2) = (gL xs t).d + z - 2 := IntWalk.i64_in _ (by omega)))
                      all_goals
                        go_wp2
                        go_roundw
                        case rel =>
                          have hs8 := hG8'.size
                          refine ⟨t + 1, _, _, by omega, by go_num, ?_, (hL8.setD htj _).1, sz_set hsz.out (by omega) ?_, hR8.below (hL8.mark (by omega) (hL8.setD htj _).2) hglt, grown_below hG8' (hL8.mark (by omega) (hL8.setD htj _).2)⟩
                          · omega
                          · unfold Sz; dsimp only; omega
                        case measure => simp [intOf]; omega
                    · go_wp2
                      go_meet
                      case rel => exact ⟨rfl, qq, xs, by omega, hL7, sz_more hsz.out (by omega), hR7, hG7'⟩
                · have q2 : ((s' : Int) == 2) = false := by simp; omega
                  clear h01 h2
                  go_wp2
                  go_meet
                  case rel => exact ⟨rfl, q + 1, ls, by omega, hL6, sz_more hsm.out (by omega), hR6, hG6'⟩
            · obtain rfl : j = 0 := by omega
              by_cases h01 : s' = 0 ∨ s' = 1
              · have hs01 : ((s' : Int) == 0) = true ∨ (((s' : Int) == 0) = false ∧ ((s' : Int) == 1) = true) := by
                  rcases h01 with h | h <;> subst h <;> simp
                clear h01
                rcases hs01 with q0 | ⟨q0, q1⟩
                all_goals
                  go_wp2
                  go_meet
                  case rel => exact ⟨rfl, q + 1, ls, by omega, hL6, sz_more hsm.out (by omega), hR6, hG6'⟩
              · have q0 : ((s' : Int) == 0) = false := by simp; omega
                have q1 : ((s' : Int) == 1) = false := by simp; omega
                by_cases h2 : s' = 2
                · have q2 : ((s' : Int) == 2) = true := by simp; omega
                  clear h01 h2
                  go_wp2
                  go_rounds 1
                  go_meet
                  case rel => exact ⟨rfl, q + 1, ls, by omega, hL6, sz_more hsm.out (by omega), hR6, hG6'⟩
                · have q2 : ((s' : Int) == 2) = false := by simp; omega
                  clear h01 h2
                  go_wp2
                  go_meet
                  case rel => exact ⟨rfl, q + 1, ls, by omega, hL6, sz_more hsm.out (by omega), hR6, hG6'⟩
          case rest =>
            obtain ⟨rfl, q9, ls9, hq9, hL9, hsm9, hR9, hG9⟩ := hcut
            have HSM := Lib.hid hsm9
            clear hL6 hR6 hG6' hsm9
            by_cases hj0 : 0 < j
            · have hj0I : (0 : Int) < (j : Int) := by omega
              obtain ⟨gb, rfl, hgb1, hgb2⟩ := hL9.at_ hj0
              go_wp2_with fail
              refine (pick_any _ _ _ _ hR9 (by omega)).mono ?_
              rintro e wd ⟨y, rfl, hy, hR7, hG7⟩
              have hL7 := hL9.keep hG7 hglt
              have hG7' := hG9.trans hG7
              obtain ⟨d1, d2, d3⟩ := hL7.cells hj0
              have f2 := hL7.frozen 1
              have f3 := hL7.frozen 2
              have hs7 := hG7'.size
              rw [Nat.zero_mul, Nat.zero_add] at d2 d3
              have hsb := HSM.out _ (gL_mem (ls := ls9) (i := 0) (by rw [hL7.len]; exact hj0))
              unfold Sz at hsb
              have HT := Lib.hid (hL7.setT hj0 (k : Int))
              have HD := Lib.hid (hL7.setD hj0 200001)
              rw [Nat.zero_mul, Nat.zero_add] at HT HD
              clear hy hG7 hG9 hL9 hR9 d1
              by_cases y0 : y = 0
              · subst y0
                go_wp2
                go_ret2
                exact ⟨k, _, j, c7, _, q9 + 1, rfl, by omega, by omega, by omega, HT.out.1, sz_set HSM.out (by omega) (by unfold Sz; dsimp only; omega), by omega, hR7.below (hL7.mark (by omega) HT.out.2) hglt, grown_below hG7' (hL7.mark (by omega) HT.out.2)⟩
              · have y0' : (y == 0) = false := by simpa using y0
                by_cases y1 : y = 1
                · subst y1
                  go_wp2
                  go_ret2
                  exact ⟨k, _, j, c7, _, q9 + 1, rfl, by omega, by omega, by omega, HD.out.1, sz_set HSM.out (by omega) (by unfold Sz; dsimp only; omega), by omega, hR7.below (hL7.mark (by omega) HD.out.2) hglt, grown_below hG7' (hL7.mark (by omega) HD.out.2)⟩
                · have y1' : (y == 1) = false := by simpa using y1
                  clear y0 y1
                  go_wp2
                  go_ret2
                  exact ⟨k, _, j, c7, ls9, q9 + 1, rfl, by omega, by omega, by omega, hL7, sz_more HSM.out (by omega), by omega, hR7, hG7'⟩
            · obtain rfl : j = 0 := by omega
              go_wp2
              go_ret2
              exact ⟨k, _, 0, c7, ls9, q9, rfl, by omega, by omega, by omega, hL9, sz_more HSM.out (by omega), by omega, hR9, hG9⟩
end Go.Proofs.Ytnlnelfncejcfaa
