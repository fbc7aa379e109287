/- Plain: lists of named things, their names rising; the places at which something holds. -/
import Derived.Test.YtcclfmapbgdpdaaGreatDoorMg
namespace Go.Proofs.YtcclfmapbgdpdaaGreatDoor
open Go.RowKit
set_option linter.unusedVariables false

/-! ### lists of named things, their names rising -/
section
variable {α : Type} {ok : α → Bool} {nm : α → ByteArray} {xs : List α}
def upN (nm : α → ByteArray) (xs : List α) : Nat → Bool
  | 0 => true
  | k + 1 => match xs[k]?, xs[k + 1]? with
    | some a, some b => strLess (nm a) (nm b)
    | _, _ => true
def stepN (ok : α → Bool) (nm : α → ByteArray) (xs : List α) (k : Nat) : Bool := match xs[k]? with
  | some x => ok x && upN nm xs k
  | none => true
/-- Are all valid, the names rising, and not too many? -/
def listB (ok : α → Bool) (nm : α → ByteArray) (M : Nat) (xs : List α) : Bool := (List.range xs.length).all (stepN ok nm xs) && decide (xs.length ≤ M)
theorem stepN_at {k : Nat} {x : α} (h : xs[k]? = some x) : stepN ok nm xs k = (ok x && upN nm xs k) := by unfold stepN; rw [h]
theorem upN_at {k : Nat} {a b : α} (ha : xs[k]? = some a) (hb : xs[k + 1]? = some b) : upN nm xs (k + 1) = strLess (nm a) (nm b) := by simp [upN, ha, hb]
theorem listN_step {M : Nat} (h : listB ok nm M xs = true) {k : Nat} (hk : k < xs.length) : stepN ok nm xs k = true := by
  unfold listB at h
  rw [Bool.and_eq_true, List.all_eq_true] at h
  exact h.1 k (List.mem_range.2 hk)
theorem listN_len {M : Nat} (h : listB ok nm M xs = true) : xs.length ≤ M := by
  unfold listB at h
  rw [Bool.and_eq_true] at h
  simpa using h.2
theorem listN_mem {M : Nat} (h : listB ok nm M xs = true) : ∀ x ∈ xs, ok x = true := by
  intro x hx
  obtain ⟨k, hk⟩ := List.mem_iff_getElem?.1 hx
  have := listN_step h (List.getElem?_eq_some_iff.1 hk).1
  rw [stepN_at hk, Bool.and_eq_true] at this
  exact this.1
theorem listN_bad {M k : Nat} {x : α} (hx : xs[k]? = some x) (h : ok x = false ∨ upN nm xs k = false) : listB ok nm M xs = false := by
  rw [← Bool.not_eq_true]
  intro hb
  have := listN_step hb (List.getElem?_eq_some_iff.1 hx).1
  rw [stepN_at hx, Bool.and_eq_true] at this
  rcases h with h | h
  · rw [this.1] at h; cases h
  · rw [this.2] at h; cases h
theorem listN_all {M n : Nat} (hl : xs.length = n) (h : ∀ j, j < n → stepN ok nm xs j = true) : listB ok nm M xs = decide ((n : Int) ≤ M) := by
  unfold listB
  have : (List.range xs.length).all (stepN ok nm xs) = true := by
    rw [List.all_eq_true]
    intro j hj
    exact h j (by rw [← hl]; exact List.mem_range.1 hj)
  rw [this, Bool.true_and, decide_eq_decide, hl]
  omega
theorem upto_snocN {p : Nat → Bool} {K : Nat} (h : ∀ j, j < K → p j = true) (hk : p K = true) : ∀ j, j < K + 1 → p j = true := by
  intro j hj
  rcases Nat.lt_or_ge j K with h1 | h1
  · exact h j h1
  · obtain rfl : j = K := by omega
    exact hk

/-! ### the places at which something holds -/
def idxK (p : α → Bool) (xs : List α) : Nat → List Int
  | 0 => []
  | n + 1 => match xs[n]? with
    | some x => if p x = true then idxK p xs n ++ [(n : Int)] else idxK p xs n
    | none => idxK p xs n
theorem idxK_yes {p : α → Bool} {k : Nat} {x : α} (h : xs[k]? = some x) (hp : p x = true) : idxK p xs (k + 1) = idxK p xs k ++ [(k : Int)] := by simp [idxK, h, hp]
theorem idxK_no {p : α → Bool} {k : Nat} {x : α} (h : xs[k]? = some x) (hp : p x = false) : idxK p xs (k + 1) = idxK p xs k := by simp [idxK, h, hp]
theorem idxK_len (p : α → Bool) (xs : List α) (k : Nat) : (idxK p xs k).length ≤ k := by
  induction k with
  | zero => simp [idxK]
  | succ k ih =>
    rw [idxK]
    split
    · split
      · rw [List.length_append]; simp only [List.length_cons, List.length_nil]; omega
      · omega
    · omega
theorem idxK_bd (p : α → Bool) (xs : List α) (k : Nat) : ∀ x ∈ idxK p xs k, 0 ≤ x ∧ x < (k : Int) := by
  induction k with
  | zero => simp [idxK]
  | succ k ih =>
    intro x hx
    rw [idxK] at hx
    have key : x ∈ idxK p xs k ∨ x = (k : Int) := by
      split at hx
      · split at hx
        · rcases List.mem_append.1 hx with h | h
          · exact .inl h
          · exact .inr (by simpa using h)
        · exact .inl hx
      · exact .inl hx
    rcases key with h | h
    · have := ih x h; omega
    · omega
theorem idxK_fine (p : α → Bool) (xs : List α) (k : Nat) (hk : k ≤ 1048576) : ∀ x ∈ idxK p xs k, I64 x := fun x hx => by
  have := idxK_bd p xs k x hx
  unfold I64; omega
theorem idxK_rise (p : α → Bool) (xs : List α) (k : Nat) : (idxK p xs k).Pairwise (· < ·) := by
  induction k with
  | zero => simp [idxK]
  | succ k ih =>
    rw [idxK]
    split
    · split
      · rw [List.pairwise_append]
        refine ⟨ih, by simp, fun a ha b hb => ?_⟩
        have := idxK_bd p xs k a ha
        have hb : b = (k : Int) := by simpa using hb
        omega
      · exact ih
    · exact ih
theorem idxK_mem {p : α → Bool} {k : Nat} {x : α} (hx : xs[k]? = some x) : ∀ n, k < n → ((k : Int) ∈ idxK p xs n ↔ p x = true)
  | 0, h => absurd h (Nat.not_lt_zero _)
  | n + 1, h => by
    by_cases hk : k = n
    · subst hk
      constructor
      · intro hm
        rw [← Bool.not_eq_false]
        intro hf
        rw [idxK_no hx hf] at hm
        have := idxK_bd p xs k _ hm
        omega
      · intro hp
        rw [idxK_yes hx hp]
        exact List.mem_append_right _ (by simp)
    · have ih := idxK_mem (p := p) hx n (by omega)
      rw [← ih, idxK]
      split
      · split
        · rw [List.mem_append]
          constructor
          · rintro (h1 | h1)
            · exact h1
            · have : (k : Int) = n := by simpa using h1
              omega
          · exact .inl
        · exact Iff.rfl
      · exact Iff.rfl
end

end Go.Proofs.YtcclfmapbgdpdaaGreatDoor
