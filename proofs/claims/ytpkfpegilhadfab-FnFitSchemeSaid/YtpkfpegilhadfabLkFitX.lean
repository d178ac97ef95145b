/- LinksFit's contracts with the result named. -/
import Derived.Test.YtpkfpegilhadfabLkFitI
set_option linter.unusedVariables false
namespace Go.Proofs.Ytpkfpegilhadfab
open Go.RowKit Lk

namespace Lk
theorem fitD_len (many : Int) (ls : List Link) : ((fitR many ls).getD []).length ≤ 12 := by
  rcases h : fitR many ls with _ | es
  · simp
  · exact (fitR_bd h).1
theorem fitD_in (many : Int) (ls : List Link) : ∀ z ∈ (fitR many ls).getD [], InI z := by
  rcases h : fitR many ls with _ | es
  · intro z hz; cases hz
  · intro z hz
    have := (fitR_bd h).2.2 z hz
    unfold InI; omega
end Lk
/-- LinksFit's end, with its result -/
def FitEndX (xs : List Int) (b : Bool) (w : World) (e : Ending) (w' : World) : Prop :=
  ∃ A' m c', e = .returned (.tuple #[.slice A' m c', .bool b]) ∧ w'.ownsRow w.heap.size 3 1 (.slice A' m c') m (xs.map (Value.int .i64)) ∧ Below w.heap.size w w'
theorem fitEnd_x {many : Int} {ls : List Link} {xs : List Int} {b : Bool} {w w' : World} {e : Ending} (hx : (fitR many ls).getD [] = xs) (hb : (fitR many ls).isSome = b) (h : FitEnd many ls w e w') : FitEndX xs b w e w' := by
  unfold FitEnd at h
  rw [hx, hb] at h
  exact h
theorem iLinksFit_x (many : Int) (A : Option Addr) (n c : Nat) (ls : List Link) (xs : List Int) (b : Bool) (w : World) (h : LSl w w.heap.size A n c ls) (hn : n ≤ 16777216) (hx : (fitR many ls).getD [] = xs) (hb : (fitR many ls).isSome = b) :
    Calls Try.prog 14 #[.int .i64 many, .slice A n c] w (FitEndX xs b w) := (iLinksFit_any many A n c ls w h hn).mono fun _ _ h => fitEnd_x hx hb h
theorem own_len {w : World} {base : Nat} {E : TypeId} {v : Value} {m : Nat} {xs : List Int} (h : w.ownsRow base E 1 v m (xs.map (Value.int .i64))) : xs.length = m := by have := h.1; simpa using this
end Go.Proofs.Ytpkfpegilhadfab
