/- A block of three cells. -/
import Derived.Test.YtcclfmapbgdpdaaGreatDoorMg
import Derived.Test.YtcclfmapbgdpdaaGreatDoorRows
namespace Go.Proofs.YtcclfmapbgdpdaaGreatDoor
open Go.RowKit
set_option linter.unusedVariables false

/-- A block of three cells. -/
def At3 (e : TypeId) (w : World) (B : Nat) (a0 a1 a2 : Value) : Prop := w.heap[B]? = some (.cells #[a0, a1, a2] e (0, 0))
theorem At3.below {e : TypeId} {w w' : World} {B base : Nat} {a0 a1 a2 : Value} (h : At3 e w B a0 a1 a2) (hb : Below base w w') (hB : B < base) : At3 e w' B a0 a1 a2 := (hb.block B hB).trans h
theorem At3.other {e : TypeId} {w : World} {B C k : Nat} {a0 a1 a2 u : Value} (h : At3 e w B a0 a1 a2) (hC : B ≠ C) : At3 e (w.setCell ⟨C, k, none⟩ u) B a0 a1 a2 := (heap_setCell_other _ _ _ _ hC).trans h
theorem At3.set2 {e : TypeId} {w : World} {B : Nat} {a0 a1 a2 u : Value} (h : At3 e w B a0 a1 a2) : At3 e (w.setCell ⟨B, 2, none⟩ u) B a0 a1 u := heap_setCell_same w B 2 _ _ u h
theorem At3.new (e : TypeId) (w : World) (a0 a1 a2 : Value) : At3 e (w.alloc (.cells #[a0, a1, a2] e)) w.heap.size a0 a1 a2 := heap_alloc_new w _
theorem At3.out {e : TypeId} {w : World} {B : Nat} {a0 a1 a2 : Value} (h : At3 e w B a0 a1 a2) : w.cell? ⟨B, 0, none⟩ = some a0 ∧ w.cell? ⟨B, 1, none⟩ = some a1 ∧ w.cell? ⟨B, 2, none⟩ = some a2 ∧
    w.frozen? ⟨B, 0, none⟩ = false ∧ w.frozen? ⟨B, 1, none⟩ = false ∧ w.frozen? ⟨B, 2, none⟩ = false := by
  have d0 := cell_of_row _ B 0 _ _ _ h
  have d1 := cell_of_row _ B 1 _ _ _ h
  have d2 := cell_of_row _ B 2 _ _ _ h
  simp at d0 d1 d2
  exact ⟨d0, d1, d2, frozen_of_row _ B 0 _ _ h, frozen_of_row _ B 1 _ _ h, frozen_of_row _ B 2 _ _ h⟩
theorem below_set3 {w w' : World} {B C : Nat} {u0 u1 u2 : Value} (h : Below B w w') (hC : B ≤ C) : Below B w (((w'.setCell ⟨C, 0, none⟩ u0).setCell ⟨C, 1, none⟩ u1).setCell ⟨C, 2, none⟩ u2) :=
  ((h.setCell hC _).setCell hC _).setCell hC _

end Go.Proofs.YtcclfmapbgdpdaaGreatDoor
