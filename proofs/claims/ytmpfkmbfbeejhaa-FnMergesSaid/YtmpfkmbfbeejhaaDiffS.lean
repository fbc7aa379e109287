/- DiffStates of the reference. -/
import Derived.Test.YtmpfkmbfbeejhaaDiff
namespace Go.Proofs.Ytmpfkmbfbeejhaa
open Go.RowKit
set_option linter.unusedVariables false
theorem l27State_b (A : Option Addr) (n c : Nat) (ss : List SetZ) (q : Bool) (w : World) (h : RdS w A n ss) (hn : n ≤ 1048576) (hq : stateB ss = q) :
    Calls Try.prog 66 #[.slice A n c] w fun e w' => e = .returned (.bool q) ∧ Below w.heap.size w w' := by
  refine (l27State_calls A n c ss w h hn).mono ?_
  rw [hq]
  rintro e w' ⟨rfl, m, rfl⟩
  exact ⟨rfl, below_drewN (Below.refl _ _) m⟩

end Go.Proofs.Ytmpfkmbfbeejhaa
