/- Plain: a number that is written is read back. -/
import Derived.Test.YtcclfmapbgdpdaaGreatDoorJoinZ
namespace Go.Proofs.YtcclfmapbgdpdaaGreatDoor
open Go.RowKit
set_option linter.unusedVariables false

theorem dec_val (u : Nat) : valF 0 (Lib.decDigits u) = u := by
  induction u using Nat.strongRecOn with
  | _ u ih =>
    have e : ∀ d, d < 10 → (UInt8.ofNat (48 + d)).toNat = 48 + d := fun d hd => by simp; omega
    by_cases h : u < 10
    · rw [Lib.decDigits, dif_pos h]
      show 10 * 0 + ((UInt8.ofNat (48 + u)).toNat - 48) = u
      rw [e u h]
      omega
    · rw [Lib.decDigits, dif_neg h, valF_snoc, ih (u / 10) (by omega), e (u % 10) (by omega)]
      omega
theorem dec_long : ∀ (k u : Nat), u < 10 ^ (k + 1) → 1 ≤ (Lib.decDigits u).length ∧ (Lib.decDigits u).length ≤ k + 1
  | 0, u, h => by
    rw [Lib.decDigits, dif_pos (by simpa using h)]
    simp
  | k + 1, u, h => by
    by_cases hu : u < 10
    · rw [Lib.decDigits, dif_pos hu]
      simp
    · have h1 : u / 10 < 10 ^ (k + 1) := by rw [Nat.pow_succ] at h; omega
      have h2 := dec_long k (u / 10) h1
      rw [Lib.decDigits, dif_neg hu, List.length_append]
      simp only [List.length_cons, List.length_nil]
      omega
theorem dec_lead {u : Nat} (h : 0 < u) : (Lib.decDigits u).head? ≠ some 48 := by
  intro e
  have h1 := dec_dig u
  cases hl : Lib.decDigits u with
  | nil => rw [hl] at e; cases e
  | cons x xs =>
    have hv := dec_val u
    induction u using Nat.strongRecOn generalizing x xs with
    | _ u ih =>
      by_cases hu : u < 10
      · rw [Lib.decDigits, dif_pos hu, List.head?_cons, Option.some.injEq] at e
        have := congrArg UInt8.toNat e
        simp at this
        omega
      · rw [Lib.decDigits, dif_neg hu] at e
        have hne := (dec_long (u / 10) (u / 10) (Nat.lt_of_lt_of_le (Nat.lt_pow_self (by decide : 1 < 10)) (Nat.pow_le_pow_right (by decide) (by omega)))).1
        cases hq : Lib.decDigits (u / 10) with
        | nil => rw [hq] at hne; simp at hne
        | cons y ys =>
          rw [hq] at e
          refine ih (u / 10) (by omega) (by omega) ?_ (dec_dig _) y ys hq (dec_val _)
          rw [hq]
          simpa using e
/-- A number of 18 digits at most is read as it was written. -/
theorem num_itoa {x : Int} (h0 : 0 ≤ x) (h1 : x ≤ 1000000) : numB (Lib.itoa x) = true ∧ numV (Lib.itoa x) = x := by
  obtain ⟨u, rfl⟩ : ∃ u : Nat, x = (u : Int) := ⟨x.toNat, by omega⟩
  rw [itoa_nat]
  have hl := dec_long 6 u (by omega)
  have hd := dec_dig u
  have hneg : isNegL (Lib.decDigits u) = false := by
    unfold isNegL
    rw [decide_eq_false_iff_not]
    intro e
    cases hq : Lib.decDigits u with
    | nil => rw [hq] at e; cases e
    | cons y ys =>
      rw [hq, List.head?_cons, Option.some.injEq] at e
      subst e
      rw [hq, List.all_cons] at hd
      simp [digN] at hd
  have hdl : digsL (Lib.decDigits u) = Lib.decDigits u := by unfold digsL; rw [hneg]; rfl
  have hb : numB (Lib.decDigits u) = true := by
    unfold numB
    rw [hdl, hd, decide_eq_true (by omega : 1 ≤ (Lib.decDigits u).length), decide_eq_true (by omega : (Lib.decDigits u).length ≤ 18)]
    rcases Nat.eq_zero_or_pos u with h2 | h2
    · subst h2
      rw [dec_zero]
      rfl
    · rw [decide_eq_false (dec_lead h2)]
      rfl
  refine ⟨hb, ?_⟩
  unfold numV
  rw [hb, hneg, hdl, dec_val]
  rfl

end Go.Proofs.YtcclfmapbgdpdaaGreatDoor
