/- Plain arithmetic: the nearest quotient, two ways; sums of lists. No program in sight. -/
import Derived.Test.YtcclfmapbgdpdaaGreatDoorBase
namespace Go.Proofs.YtcclfmapbgdpdaaGreatDoor

/-- The nearest quotient, halves away from zero, for a divisor that is greater than zero. -/
def nearZ (a b : Int) : Int := if 0 ≤ a then (2 * a + b) / (2 * b) else -((b - 2 * a) / (2 * b))

theorem near_step (a b : Int) (ha : 0 ≤ a) (hb : 0 < b) : (2 * a + b) / (2 * b) = if b - a % b ≤ a % b then a / b + 1 else a / b := by
  have h1 := Int.emod_add_mul_ediv a b
  have h2 := Int.emod_nonneg a (by omega : b ≠ 0)
  have h3 := Int.emod_lt_of_pos a hb
  generalize a % b = r at *
  generalize a / b = q at *
  subst h1
  have e : 2 * (r + b * q) + b = (2 * r + b) + (2 * b) * q := by
    rw [Int.mul_assoc 2 b q]; omega
  rw [e, Int.add_mul_ediv_left _ _ (by omega : (2 * b) ≠ 0)]
  split
  · rename_i h
    have : (2 * r + b) / (2 * b) = 1 := by
      rw [show 2 * r + b = (2 * r - b) + (2 * b) * 1 by omega, Int.add_mul_ediv_left _ _ (by omega : (2 * b) ≠ 0), Int.ediv_eq_zero_of_lt (by omega) (by omega)]
      rfl
    omega
  · rename_i h
    rw [Int.ediv_eq_zero_of_lt (by omega) (by omega)]
    omega

theorem near_neg (a b : Int) (ha : a < 0) (hb : 0 < b) : nearZ a b = if b - -(a.tmod b) ≤ -(a.tmod b) then a.tdiv b - 1 else a.tdiv b := by
  have h := near_step (-a) b (by omega) hb
  obtain ⟨c, rfl⟩ : ∃ c, a = -c := ⟨-a, by omega⟩
  rw [nearZ, if_neg (by omega), show b - 2 * -c = 2 * c + b by omega]
  rw [Int.neg_neg] at h
  rw [h, Int.neg_tmod, Int.neg_tdiv, Int.neg_neg, Int.tmod_eq_emod_of_nonneg (by omega), Int.tdiv_eq_ediv_of_nonneg (by omega)]
  split <;> omega

theorem near_pos (a b : Int) (ha : 0 ≤ a) (hb : 0 < b) : nearZ a b = if b - a % b ≤ a % b then a / b + 1 else a / b := by
  rw [nearZ, if_pos ha, near_step a b ha hb]

theorem tmod_bd (a b : Int) (ha : a < 0) (hb : 0 < b) : -b < a.tmod b ∧ a.tmod b ≤ 0 := by
  obtain ⟨c, rfl⟩ : ∃ c, a = -c := ⟨-a, by omega⟩
  rw [Int.neg_tmod, Int.tmod_eq_emod_of_nonneg (by omega)]
  have h2 := Int.emod_nonneg c (by omega : b ≠ 0)
  have h3 := Int.emod_lt_of_pos c hb
  omega
theorem tdiv_bd (a b : Int) (ha : a < 0) (hb : 0 < b) : a ≤ a.tdiv b ∧ a.tdiv b ≤ 0 := by
  obtain ⟨c, rfl⟩ : ∃ c, a = -c := ⟨-a, by omega⟩
  rw [Int.neg_tdiv, Int.tdiv_eq_ediv_of_nonneg (by omega)]
  have h2 := Int.ediv_nonneg (a := c) (b := b) (by omega) (by omega)
  have h3 := Int.ediv_le_self (a := c) b (by omega)
  omega

/-- Between the bounds of what is divided. -/
theorem nearZ_bd (a b M : Int) (hb : 0 < b) (h1 : -(M * b) ≤ a) (h2 : a ≤ M * b) : -M ≤ nearZ a b ∧ nearZ a b ≤ M := by
  unfold nearZ
  split
  · rename_i h
    refine ⟨?_, ?_⟩
    · have := Int.ediv_nonneg (a := 2 * a + b) (b := 2 * b) (by omega) (by omega)
      have : 0 ≤ M := by
        by_cases hM : 0 ≤ M
        · exact hM
        · have := Int.mul_neg_of_neg_of_pos (by omega : M < 0) hb; omega
      omega
    · have : (2 * a + b) / (2 * b) < M + 1 := by
        rw [Int.ediv_lt_iff_lt_mul (by omega)]
        rw [show (M + 1) * (2 * b) = 2 * (M * b) + 2 * b by rw [Int.add_mul, Int.mul_left_comm]; omega]
        omega
      omega
  · rename_i h
    refine ⟨?_, ?_⟩
    · have : (b - 2 * a) / (2 * b) < M + 1 := by
        rw [Int.ediv_lt_iff_lt_mul (by omega)]
        rw [show (M + 1) * (2 * b) = 2 * (M * b) + 2 * b by rw [Int.add_mul, Int.mul_left_comm]; omega]
        omega
      omega
    · have := Int.ediv_nonneg (a := b - 2 * a) (b := 2 * b) (by omega) (by omega)
      have : 0 ≤ M := by
        by_cases hM : 0 ≤ M
        · exact hM
        · have := Int.mul_neg_of_neg_of_pos (by omega : M < 0) hb; omega
      omega

/-- The sum of a list. -/
def sumZ : List Int → Int
  | [] => 0
  | x :: r => x + sumZ r
theorem sumZ_append (a b : List Int) : sumZ (a ++ b) = sumZ a + sumZ b := by
  induction a with
  | nil => simp [sumZ]
  | cons x r ih => simp [sumZ, ih]; omega
theorem sumZ_snoc {xs : List Int} {k : Nat} {x : Int} (h : xs[k]? = some x) : sumZ (xs.take (k + 1)) = sumZ (xs.take k) + x := by
  rw [take_snoc h, sumZ_append]; simp [sumZ]
theorem sumZ_bd (lo hi : Int) (l : List Int) (h : ∀ x ∈ l, lo ≤ x ∧ x ≤ hi) : lo * l.length ≤ sumZ l ∧ sumZ l ≤ hi * l.length := by
  induction l with
  | nil => simp [sumZ]
  | cons x r ih =>
    have h1 := h x (by simp)
    have h2 := ih (fun y hy => h y (by simp [hy]))
    simp only [sumZ, List.length_cons, Int.natCast_add, Int.mul_add]
    omega

end Go.Proofs.YtcclfmapbgdpdaaGreatDoor
