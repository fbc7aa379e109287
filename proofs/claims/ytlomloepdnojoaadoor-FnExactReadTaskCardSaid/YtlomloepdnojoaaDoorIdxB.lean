/- slices.Index and slices.IndexFunc over strings; ContainsFunc. The function handed over may have captured. -/
import Derived.Test.YtlomloepdnojoaaDoorRows
import Derived.Test.YtlomloepdnojoaaDoorKind
import Derived.Test.YtlomloepdnojoaaDoorStrZ
namespace Go.Proofs.YtlomloepdnojoaaDoor
open Go.RowKit
set_option linter.unusedVariables false

/-- The index of the first for which p holds, or -1. -/
def idxI {α : Type} (p : α → Bool) (xs : List α) : Int := if xs.findIdx p < xs.length then (xs.findIdx p : Int) else -1
theorem any_snoc {α : Type} {p : α → Bool} {xs : List α} {k : Nat} {x : α} (hx : xs[k]? = some x) (h : (xs.take k).any p = false) (hp : p x = false) : (xs.take (k + 1)).any p = false := by
  rw [take_snoc hx, List.any_append, h]; simp [hp]
theorem idx_here {α : Type} {p : α → Bool} {xs : List α} {k : Nat} {x : α} (hx : xs[k]? = some x) (h : (xs.take k).any p = false) (hp : p x = true) : idxI p xs = (k : Int) := by
  obtain ⟨hk, he⟩ := List.getElem?_eq_some_iff.1 hx
  have hf : xs.findIdx p = k := by
    rw [List.findIdx_eq hk]
    refine ⟨by rw [he]; exact hp, fun j hj => ?_⟩
    have hm : xs[j] ∈ xs.take k := by
      rw [List.mem_take_iff_getElem]
      exact ⟨j, by omega, rfl⟩
    rw [List.any_eq_false] at h
    simpa using h _ hm
  unfold idxI
  rw [hf, if_pos hk]
theorem idx_none {α : Type} {p : α → Bool} {xs : List α} {n : Nat} (hl : xs.length = n) (h : (xs.take n).any p = false) : idxI p xs = -1 := by
  rw [List.take_of_length_le (by omega), List.any_eq_false] at h
  have hf : xs.findIdx p = xs.length := by
    rw [List.findIdx_eq_length]
    intro x hx
    simpa using h x hx
  unfold idxI
  rw [hf, if_neg (by omega)]
theorem idx_any {α : Type} (p : α → Bool) (xs : List α) : decide (0 ≤ idxI p xs) = xs.any p := by
  unfold idxI
  by_cases h : xs.findIdx p < xs.length
  · rw [if_pos h]
    have h1 := List.findIdx_getElem (xs := xs) (p := p) (w := h)
    rw [List.any_eq_true.2 ⟨_, List.getElem_mem h, h1⟩]
    simp
  · rw [if_neg h]
    rw [Bool.eq_iff_iff, List.any_eq_true]
    constructor
    · intro h; simp at h
    · rintro ⟨x, hx, hp⟩
      exact absurd (List.findIdx_lt_length_of_exists ⟨x, hx, hp⟩) h
theorem idx_range {α : Type} (p : α → Bool) (xs : List α) : -1 ≤ idxI p xs ∧ idxI p xs ≤ xs.length := by
  unfold idxI
  split <;> omega




end Go.Proofs.YtlomloepdnojoaaDoor
