/- Plain laws on series: signs, trends. No program in sight. -/
import Derived.Test.YtmpfkmbfbeejhaaDiv
namespace Go.Proofs.Ytmpfkmbfbeejhaa

/-- Go's cmp.Compare on numbers. -/
def cmpZ (x y : Int) : Int := if x < y then -1 else if y < x then 1 else 0

/-- In how many steps do both go the same way; in how many opposite ways? -/
def sgZ (xs ys : List Int) : Nat → Nat × Nat
  | 0 => (0, 0)
  | k + 1 =>
    let s := sgZ xs ys k
    let p := cmpZ (xs.getD (k + 1) 0) (xs.getD k 0) * cmpZ (ys.getD (k + 1) 0) (ys.getD k 0)
    if p = 1 then (s.1 + 1, s.2) else if p = -1 then (s.1, s.2 + 1) else s

theorem sgZ_bd (xs ys : List Int) (k : Nat) : (sgZ xs ys k).1 ≤ k ∧ (sgZ xs ys k).2 ≤ k := by
  induction k with
  | zero => simp [sgZ]
  | succ k ih =>
    simp only [sgZ]
    split
    · simp only; omega
    · split
      · simp only; omega
      · omega

theorem cmpZ_cases (x y : Int) : (x < y ∧ cmpZ x y = -1) ∨ (x = y ∧ cmpZ x y = 0) ∨ (y < x ∧ cmpZ x y = 1) := by
  unfold cmpZ
  by_cases h : x < y
  · exact .inl ⟨h, by rw [if_pos h]⟩
  · by_cases h' : y < x
    · exact .inr (.inr ⟨h', by rw [if_neg h, if_pos h']⟩)
    · exact .inr (.inl ⟨by omega, by rw [if_neg h, if_neg h']⟩)

/-- The product of two differences has the sign of the product of the comparisons. -/
theorem sign_pos {x x' y y' : Int} (h : cmpZ x x' * cmpZ y y' = 1) : 0 < (x - x') * (y - y') := by
  rcases cmpZ_cases x x' with ⟨a, e⟩ | ⟨a, e⟩ | ⟨a, e⟩ <;> rcases cmpZ_cases y y' with ⟨b, f⟩ | ⟨b, f⟩ | ⟨b, f⟩ <;> rw [e, f] at h <;> simp at h
  · exact Int.mul_pos_of_neg_of_neg (by omega) (by omega)
  · exact Int.mul_pos (by omega) (by omega)
theorem sign_neg {x x' y y' : Int} (h : cmpZ x x' * cmpZ y y' = -1) : (x - x') * (y - y') < 0 := by
  rcases cmpZ_cases x x' with ⟨a, e⟩ | ⟨a, e⟩ | ⟨a, e⟩ <;> rcases cmpZ_cases y y' with ⟨b, f⟩ | ⟨b, f⟩ | ⟨b, f⟩ <;> rw [e, f] at h <;> simp at h
  · exact Int.mul_neg_of_neg_of_pos (by omega) (by omega)
  · exact Int.mul_neg_of_pos_of_neg (by omega) (by omega)
theorem sign_zero {x x' y y' : Int} (h1 : cmpZ x x' * cmpZ y y' ≠ 1) (h2 : cmpZ x x' * cmpZ y y' ≠ -1) : (x - x') * (y - y') = 0 := by
  rcases cmpZ_cases x x' with ⟨a, e⟩ | ⟨a, e⟩ | ⟨a, e⟩ <;> rcases cmpZ_cases y y' with ⟨b, f⟩ | ⟨b, f⟩ | ⟨b, f⟩ <;> rw [e, f] at h1 h2 <;> simp at h1 h2
  · rw [show y - y' = 0 by omega, Int.mul_zero]
  · rw [show x - x' = 0 by omega, Int.zero_mul]
  · rw [show x - x' = 0 by omega, Int.zero_mul]
  · rw [show x - x' = 0 by omega, Int.zero_mul]
  · rw [show y - y' = 0 by omega, Int.mul_zero]
theorem cmpZ_prod (x x' y y' : Int) : -1 ≤ cmpZ x x' * cmpZ y y' ∧ cmpZ x x' * cmpZ y y' ≤ 1 := by
  rcases cmpZ_cases x x' with ⟨a, e⟩ | ⟨a, e⟩ | ⟨a, e⟩ <;> rcases cmpZ_cases y y' with ⟨b, f⟩ | ⟨b, f⟩ | ⟨b, f⟩ <;> rw [e, f] <;> omega

theorem sgZ_step {xs ys : List Int} {k s o : Nat} {x x' y y' : Int} (h : sgZ xs ys k = (s, o)) (hx : xs[k + 1]? = some x) (hx' : xs[k]? = some x') (hy : ys[k + 1]? = some y) (hy' : ys[k]? = some y') :
    sgZ xs ys (k + 1) = if cmpZ x x' * cmpZ y y' = 1 then (s + 1, o) else if cmpZ x x' * cmpZ y y' = -1 then (s, o + 1) else (s, o) := by
  simp [sgZ, h, List.getD, hx, hx', hy, hy']

/-- A product of two differences of small numbers fits. -/
theorem diff_prod_bd {x x' y y' : Int} (h1 : 0 ≤ x ∧ x ≤ 1000000) (h2 : 0 ≤ x' ∧ x' ≤ 1000000) (h3 : 0 ≤ y ∧ y ≤ 1000000) (h4 : 0 ≤ y' ∧ y' ≤ 1000000) : -1000000000000 ≤ (x - x') * (y - y') ∧ (x - x') * (y - y') ≤ 1000000000000 := by
  have a1 : -1000000 ≤ x - x' ∧ x - x' ≤ 1000000 := by omega
  have b1 : -1000000 ≤ y - y' ∧ y - y' ≤ 1000000 := by omega
  generalize x - x' = u at *
  generalize y - y' = v at *
  obtain ⟨u1, u2⟩ := a1
  obtain ⟨v1, v2⟩ := b1
  have p1 := Int.mul_nonneg (a := u + 1000000) (b := v + 1000000) (by omega) (by omega)
  have p2 := Int.mul_nonneg (a := 1000000 - u) (b := 1000000 - v) (by omega) (by omega)
  have p3 := Int.mul_nonneg (a := u + 1000000) (b := 1000000 - v) (by omega) (by omega)
  have p4 := Int.mul_nonneg (a := 1000000 - u) (b := v + 1000000) (by omega) (by omega)
  simp only [Int.add_mul, Int.mul_add, Int.sub_mul, Int.mul_sub] at p1 p2 p3 p4
  omega

/-! ### trends -/
def tX : Nat → Int | 0 => 0 | k + 1 => tX k + k
def tXX : Nat → Int | 0 => 0 | k + 1 => tXX k + k * k
def tXY (xs : List Int) : Nat → Int | 0 => 0 | k + 1 => tXY xs k + k * xs.getD k 0
theorem tX_bd (k : Nat) (h : k ≤ 60) : 0 ≤ tX k ∧ tX k ≤ 60 * k := by
  induction k with
  | zero => simp [tX]
  | succ k ih => have := ih (by omega); simp only [tX]; omega
theorem sq_bd {k : Nat} (h : k ≤ 60) : 0 ≤ (k : Int) * k ∧ (k : Int) * k ≤ 3600 := by
  have h1 : (k : Int) * k ≤ 60 * 60 := Int.mul_le_mul (by omega) (by omega) (by omega) (by omega)
  have h2 : 0 ≤ (k : Int) * k := Int.mul_nonneg (by omega) (by omega)
  omega
theorem tXX_bd (k : Nat) (h : k ≤ 60) : 0 ≤ tXX k ∧ tXX k ≤ 3600 * k := by
  induction k with
  | zero => simp [tXX]
  | succ k ih =>
    have := ih (by omega)
    have := sq_bd (k := k) (by omega)
    simp only [tXX]; omega
theorem kx_bd {k : Nat} {x : Int} (h : k ≤ 60) (hx : 0 ≤ x ∧ x ≤ 1000000) : 0 ≤ (k : Int) * x ∧ (k : Int) * x ≤ 60000000 := by
  have h1 : (k : Int) * x ≤ 60 * 1000000 := Int.mul_le_mul (by omega) (by omega) (by omega) (by omega)
  have h2 : 0 ≤ (k : Int) * x := Int.mul_nonneg (by omega) (by omega)
  omega
theorem tXY_bd (xs : List Int) (hxs : ∀ x ∈ xs, 0 ≤ x ∧ x ≤ 1000000) (k : Nat) (h : k ≤ 60) (hk : k ≤ xs.length) : 0 ≤ tXY xs k ∧ tXY xs k ≤ 60000000 * k := by
  induction k with
  | zero => simp [tXY]
  | succ k ih =>
    have := ih (by omega) (by omega)
    have hx : xs[k]? = some xs[k] := List.getElem?_eq_getElem (by omega)
    have := kx_bd (k := k) (x := xs[k]) (by omega) (hxs _ (List.getElem_mem _))
    simp only [tXY, List.getD, hx, Option.getD_some]
    omega
/-- The divisor of the slope: greater than zero for two numbers or more. -/
theorem tD_pos : ∀ k : Nat, k ≤ 60 → 2 ≤ k → 0 < (k : Int) * tXX k - tX k * tX k := by
  have h : ∀ k : Nat, k < 61 → (decide (2 ≤ k → 0 < (k : Int) * tXX k - tX k * tX k)) = true := by decide +kernel
  intro k h1 h2
  exact of_decide_eq_true (h k (by omega)) h2
theorem tD_le : ∀ k : Nat, k ≤ 60 → (k : Int) * tXX k ≤ 13000000 ∧ 0 ≤ (k : Int) * tXX k ∧ 0 ≤ tX k * tX k ∧ tX k * tX k ≤ 13000000 := by
  have h : ∀ k : Nat, k < 61 → (decide ((k : Int) * tXX k ≤ 13000000 ∧ 0 ≤ (k : Int) * tXX k ∧ 0 ≤ tX k * tX k ∧ tX k * tX k ≤ 13000000)) = true := by decide +kernel
  intro k h1
  exact of_decide_eq_true (h k (by omega))

end Go.Proofs.Ytmpfkmbfbeejhaa
