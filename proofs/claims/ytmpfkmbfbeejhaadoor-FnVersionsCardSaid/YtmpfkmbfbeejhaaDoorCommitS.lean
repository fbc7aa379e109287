/- l27Own and l27Add of the reference. -/
import Derived.Test.YtmpfkmbfbeejhaaDoorCommit
import Derived.Deep.AppendLies
import Derived.Deep.Cut
namespace Go.Proofs.YtmpfkmbfbeejhaaDoor
open Go.RowKit
set_option linter.unusedVariables false

theorem box4 {W w2 : World} {base B : Nat} {a0 a1 a2 a3 : Value} {e : TypeId} (hb : Below base W w2) (hB : B < base) (h : W.heap[B]? = some (.cells #[a0, a1, a2, a3] e (0, 0))) :
    w2.cell? ⟨B, 0, none⟩ = some a0 ∧ w2.cell? ⟨B, 1, none⟩ = some a1 ∧ w2.cell? ⟨B, 2, none⟩ = some a2 ∧ w2.cell? ⟨B, 3, none⟩ = some a3 ∧ w2.frozen? ⟨B, 3, none⟩ = false := by
  have hk := (hb.block B hB).trans h
  have d0 := cell_of_row _ B 0 _ _ _ hk
  have d1 := cell_of_row _ B 1 _ _ _ hk
  have d2 := cell_of_row _ B 2 _ _ _ hk
  have d3 := cell_of_row _ B 3 _ _ _ hk
  have f3 := frozen_of_row _ B 3 _ _ hk
  simp at d0 d1 d2 d3
  exact ⟨d0, d1, d2, d3, f3⟩

/-- A list of versions of the call's own, by its growing. -/
def OwnPost (vs : List VerZ) (n : Nat) (w : World) (e : Ending) (w' : World) : Prop :=
  ∃ v' rs', e = .returned v' ∧ GrV w' w.heap.size w.heap.size v' n rs' ∧ zV rs' = vs ∧ Below w.heap.size w w'

end Go.Proofs.YtmpfkmbfbeejhaaDoor
