/- Blocks of three cells: what a store leaves. -/
import Derived.Test.YtcclfmapbgdpdaaGreatDoorLoaN
import Derived.Test.YtcclfmapbgdpdaaGreatDoorTake
import Derived.Test.YtcclfmapbgdpdaaGreatDoorMg
namespace Go.Proofs.YtcclfmapbgdpdaaGreatDoor
open Go.RowKit
set_option linter.unusedVariables false

theorem At3.set0 {e : TypeId} {w : World} {B : Nat} {a0 a1 a2 u : Value} (h : At3 e w B a0 a1 a2) : At3 e (w.setCell ⟨B, 0, none⟩ u) B u a1 a2 := heap_setCell_same w B 0 _ _ u h
theorem At3.set1 {e : TypeId} {w : World} {B : Nat} {a0 a1 a2 u : Value} (h : At3 e w B a0 a1 a2) : At3 e (w.setCell ⟨B, 1, none⟩ u) B a0 u a2 := heap_setCell_same w B 1 _ _ u h
theorem At3.all {e : TypeId} {w : World} {B : Nat} {a0 a1 a2 u0 u1 u2 : Value} (h : At3 e w B a0 a1 a2) : At3 e (((w.setCell ⟨B, 0, none⟩ u0).setCell ⟨B, 1, none⟩ u1).setCell ⟨B, 2, none⟩ u2) B u0 u1 u2 := h.set0.set1.set2
theorem lt_blk {e : TypeId} {w : World} {B : Nat} {a0 a1 a2 : Value} (h : At3 e w B a0 a1 a2) : B < w.heap.size := (Array.getElem?_eq_some_iff.1 h).1
theorem wr_set3 {w : World} {B : Nat} {u0 u1 u2 : Value} : Wr B (B + 1) w (((w.setCell ⟨B, 0, none⟩ u0).setCell ⟨B, 1, none⟩ u1).setCell ⟨B, 2, none⟩ u2) :=
  ((Wr.setCell w u0 (Nat.le_refl _) (Nat.lt_succ_self _)).trans (Wr.setCell _ u1 (Nat.le_refl _) (Nat.lt_succ_self _))).trans (Wr.setCell _ u2 (Nat.le_refl _) (Nat.lt_succ_self _))
theorem need_map {xs : List GrpZ} {k : Nat} {s : ByteArray} {p b q : Int} (h : xs[k]? = some ⟨s, p, b, q⟩) : (xs.map needZ)[k]? = some ⟨p, b, 75 * p + 15 * b + q⟩ := by rw [List.getElem?_map, h]; rfl
theorem need_getD {xs : List GrpZ} {k : Nat} {s : ByteArray} {p b q : Int} (h : xs[k]? = some ⟨s, p, b, q⟩) : (xs.map needZ).getD k zeroR = ⟨p, b, 75 * p + 15 * b + q⟩ := by rw [List.getD_eq_getElem?_getD, need_map h]; rfl
theorem frS_yes {nd : List RmZ} {r x : RmZ} {k R : Nat} {L : List Int} {on : RmZ} (h : frS nd r k = (L, R, on)) (hx : nd.getD k zeroR = x) (hf : fitsZ (plusZ on x) r = true) : frS nd r (k + 1) = (L ++ [(R : Int)], R, plusZ on x) := by rw [frS, h]; simp only [hx, hf, if_true]
theorem frS_no {nd : List RmZ} {r x : RmZ} {k R : Nat} {L : List Int} {on : RmZ} (h : frS nd r k = (L, R, on)) (hx : nd.getD k zeroR = x) (hf : fitsZ (plusZ on x) r = false) : frS nd r (k + 1) = (L ++ [((R + 1 : Nat) : Int)], R + 1, x) := by rw [frS, h]; simp only [hx, hf]; rfl
theorem frS_bd {nd : List RmZ} {r : RmZ} : ∀ k, ∀ x ∈ (frS nd r k).1, 0 ≤ x ∧ x ≤ (k : Int)
  | 0 => by simp [frS]
  | k + 1 => by
    have hk : (frS nd r k).2.1 ≤ k := by
      have : ∀ k, (frS nd r k).2.1 ≤ k := fun k => by
        induction k with
        | zero => simp [frS]
        | succ k ih => rw [frS]; split <;> simp only <;> omega
      exact this k
    intro x hx
    have ih := frS_bd (nd := nd) (r := r) k
    rw [frS] at hx
    split at hx
    · rcases List.mem_append.1 hx with h | h
      · have := ih x h; omega
      · have : x = ((frS nd r k).2.1 : Int) := by simpa using h
        omega
    · rcases List.mem_append.1 hx with h | h
      · have := ih x h; omega
      · have : x = (((frS nd r k).2.1 + 1 : Nat) : Int) := by simpa using h
        omega

end Go.Proofs.YtcclfmapbgdpdaaGreatDoor
