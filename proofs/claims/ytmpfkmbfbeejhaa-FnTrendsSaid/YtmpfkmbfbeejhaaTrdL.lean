/- Plain: the laws of runs, signs, histograms and lines that FnTrends asks. -/
import Derived.Test.YtmpfkmbfbeejhaaTrend
import Derived.Test.YtmpfkmbfbeejhaaHist
import Derived.Test.YtmpfkmbfbeejhaaWeek
import Derived.Test.YtmpfkmbfbeejhaaSigns
import Derived.Test.YtmpfkmbfbeejhaaBest
namespace Go.Proofs.Ytmpfkmbfbeejhaa
open Go.RowKit
set_option linter.unusedVariables false

/-! ### nearest quotients -/
theorem near_zero (b : Int) (hb : 0 < b) : nearZ 0 b = 0 := by
  unfold nearZ
  rw [if_pos (Int.le_refl _)]
  exact Int.ediv_eq_zero_of_lt (by omega) (by omega)
theorem near_odd (a b : Int) (hb : 0 < b) : nearZ (-a) b = -nearZ a b := by
  by_cases h0 : a = 0
  · subst h0; rw [Int.neg_zero, near_zero b hb]; rfl
  unfold nearZ
  by_cases h : 0 ≤ a
  · rw [if_neg (by omega), if_pos h, show b - 2 * -a = 2 * a + b by omega]
  · rw [if_pos (by omega), if_neg h, Int.neg_neg, show 2 * -a + b = b - 2 * a by omega]
theorem near_dist (a b : Int) (hb : 0 < b) : -b ≤ 2 * (b * nearZ a b) - 2 * a ∧ 2 * (b * nearZ a b) - 2 * a ≤ b := by
  unfold nearZ
  split
  · have h1 := Int.mul_ediv_self_le (x := 2 * a + b) (k := 2 * b) (by omega)
    have h2 := Int.lt_mul_ediv_self_add (x := 2 * a + b) (k := 2 * b) (by omega)
    generalize (2 * a + b) / (2 * b) = q at *
    rw [Int.mul_assoc] at h1 h2
    omega
  · have h1 := Int.mul_ediv_self_le (x := b - 2 * a) (k := 2 * b) (by omega)
    have h2 := Int.lt_mul_ediv_self_add (x := b - 2 * a) (k := 2 * b) (by omega)
    generalize (b - 2 * a) / (2 * b) = q at *
    rw [Int.mul_assoc] at h1 h2
    rw [Int.mul_neg]
    omega

/-! ### lines -/
theorem tX_two (n : Nat) : 2 * tX n = (n : Int) * ((n : Int) - 1) := by
  induction n with
  | zero => rfl
  | succ k ih =>
    rw [tX_succ, Int.mul_add, ih, Int.natCast_add, Int.natCast_one, show (k : Int) + 1 - 1 = k by omega, Int.mul_sub, Int.add_mul]
    omega
/-- The line's middle is nearest to the mean. -/
theorem line_mid {xs : List Int} (h2 : 2 ≤ xs.length) :
    -2100 ≤ 2000 * tStart xs + tSlope xs * ((xs.length : Int) - 1) - nearZ (2000 * sumZ xs) xs.length ∧ 2000 * tStart xs + tSlope xs * ((xs.length : Int) - 1) - nearZ (2000 * sumZ xs) xs.length ≤ 2100 := by
  have d1 := near_dist (1000 * sumZ xs - tSlope xs * tX xs.length) (1000 * xs.length) (by omega)
  have d2 := near_dist (2000 * sumZ xs) xs.length (by omega)
  have ht := tX_two xs.length
  have e0 : nearZ (1000 * sumZ xs - tSlope xs * tX xs.length) (1000 * xs.length) = tStart xs := rfl
  rw [e0] at d1
  generalize tStart xs = S at *
  generalize nearZ (2000 * sumZ xs) xs.length = W at *
  generalize tSlope xs = s at *
  generalize sumZ xs = m at *
  generalize tX xs.length = T at *
  have n2 : (2 : Int) ≤ (xs.length : Int) := by omega
  clear h2
  generalize (xs.length : Int) = n at *
  have e1 : n * (2000 * S + s * (n - 1) - W) = 2000 * (n * S) + 2 * (s * T) - n * W := by
    rw [Int.mul_sub, Int.mul_add, Int.mul_left_comm n 2000 S, Int.mul_left_comm n s (n - 1), ← ht, Int.mul_left_comm s 2 T]
  rw [Int.mul_assoc] at d1
  generalize hD : 2000 * S + s * (n - 1) - W = D at *
  clear hD
  constructor
  · refine Decidable.byContradiction fun hc => ?_
    have h3 : n * D ≤ n * (-2101) := Int.mul_le_mul_of_nonneg_left (by omega) (by omega)
    omega
  · refine Decidable.byContradiction fun hc => ?_
    have h3 : n * 2101 ≤ n * D := Int.mul_le_mul_of_nonneg_left (by omega) (by omega)
    omega
theorem sumZ_rev (xs : List Int) : sumZ xs.reverse = sumZ xs := by
  induction xs with
  | nil => rfl
  | cons x r ih => rw [List.reverse_cons, sumZ_append, ih]; simp [sumZ]; omega
theorem tXY_app (xs ys : List Int) : ∀ k, k ≤ xs.length → tXY (xs ++ ys) k = tXY xs k
  | 0, _ => rfl
  | k + 1, h => by
    rw [tXY, tXY, tXY_app xs ys k (by omega), List.getD_eq_getElem?_getD, List.getD_eq_getElem?_getD, List.getElem?_append_left (by omega)]
theorem tXY_cons (x : Int) (xs : List Int) : ∀ k, k ≤ xs.length → tXY (x :: xs) (k + 1) = tXY xs k + sumZ (xs.take k)
  | 0, _ => by simp [tXY, sumZ]
  | k + 1, h => by
    have hx : xs[k]? = some xs[k] := List.getElem?_eq_getElem (by omega)
    rw [tXY, tXY_cons x xs k (by omega), tXY_succ hx, sumZ_snoc hx, List.getD_cons_succ, List.getD_eq_getElem?_getD, hx]
    simp only [Option.getD_some, Int.natCast_add, Int.natCast_one, Int.add_mul]
    omega
theorem tXY_rev (xs : List Int) : tXY xs.reverse xs.length + tXY xs xs.length = ((xs.length : Int) - 1) * sumZ xs := by
  induction xs with
  | nil => rfl
  | cons x r ih =>
    have e1 : tXY (r.reverse ++ [x]) (r.length + 1) = tXY r.reverse r.length + r.length * x := by
      rw [tXY, tXY_app _ _ _ (by simp), List.getD_eq_getElem?_getD, List.getElem?_append_right (by simp)]
      simp
    have e2 := tXY_cons x r r.length (Nat.le_refl _)
    rw [List.take_length] at e2
    rw [List.reverse_cons, List.length_cons, e1, e2, sumZ, Int.natCast_add, Int.natCast_one, show (r.length : Int) + 1 - 1 = r.length by omega, Int.mul_add]
    rw [Int.sub_mul] at ih
    omega
theorem tNum_rev (xs : List Int) : tNum xs.reverse = -tNum xs := by
  have h1 := tXY_rev xs
  have h2 := tX_two xs.length
  unfold tNum
  rw [List.length_reverse, sumZ_rev]
  have e : (xs.length : Int) * tXY xs.reverse xs.length + (xs.length : Int) * tXY xs xs.length = 2 * (tX xs.length * sumZ xs) := by
    rw [← Int.mul_add, h1, ← Int.mul_assoc, ← h2, Int.mul_assoc]
  omega
theorem tSlope_rev {xs : List Int} (h2 : 2 ≤ xs.length) (h60 : xs.length ≤ 60) : tSlope xs.reverse = -tSlope xs := by
  unfold tSlope
  rw [tNum_rev, List.length_reverse, show 1000 * -tNum xs = -(1000 * tNum xs) by omega]
  exact near_odd _ _ (tD_pos xs.length h60 h2)
theorem okSer_rev (xs : List Int) : okSer xs.reverse = okSer xs := by
  unfold okSer; rw [List.length_reverse, List.all_reverse]

/-! ### runs -/
def Rise (xs : List Int) (f g : Nat) : Prop := ∀ i, f < i → i < g → xs.getD (i - 1) 0 < xs.getD i 0
theorem brZ_law (xs : List Int) (k : Nat) : (brZ xs k).2.2 ≤ k ∧ (brZ xs k).1 + (brZ xs k).2.1 ≤ k + 1 ∧ 1 ≤ (brZ xs k).2.1 ∧ Rise xs (brZ xs k).2.2 (k + 1) ∧ Rise xs (brZ xs k).1 ((brZ xs k).1 + (brZ xs k).2.1) := by
  induction k with
  | zero => exact ⟨by simp [brZ], by simp [brZ], by simp [brZ], fun i h1 h2 => by simp [brZ] at h1; omega, fun i h1 h2 => by simp [brZ] at h1 h2; omega⟩
  | succ k ih =>
    obtain ⟨a1, a2, a3, a4, a5⟩ := ih
    simp only [brZ]
    generalize brZ xs k = s at *
    obtain ⟨b, m, f⟩ := s
    simp only at a1 a2 a3 a4 a5 ⊢
    by_cases hle : xs.getD (k + 1) 0 ≤ xs.getD k 0
    · rw [if_pos hle]
      have R : Rise xs (k + 1) (k + 1 + 1) := fun i h1 h2 => by omega
      by_cases hm : m < k + 2 - (k + 1)
      · omega
      · rw [if_neg hm]
        exact ⟨Nat.le_refl _, by simp only; omega, a3, R, a5⟩
    · rw [if_neg hle]
      have R : Rise xs f (k + 1 + 1) := fun i h1 h2 => by
        by_cases hi : i = k + 1
        · subst hi; rw [Nat.add_sub_cancel]; omega
        · exact a4 i h1 (by omega)
      by_cases hm : m < k + 2 - f
      · rw [if_pos hm]
        refine ⟨by simp only; omega, by simp only; omega, by simp only; omega, R, ?_⟩
        simp only
        rw [show f + (k + 2 - f) = k + 1 + 1 by omega]
        exact R
      · rw [if_neg hm]
        exact ⟨by simp only; omega, by simp only; omega, a3, R, a5⟩
/-- A series agrees with itself. -/
theorem sgZ_self (xs : List Int) (k : Nat) : (sgZ xs xs k).2 = 0 := by
  induction k with
  | zero => rfl
  | succ k ih =>
    simp only [sgZ]
    have hp : cmpZ (xs.getD (k + 1) 0) (xs.getD k 0) * cmpZ (xs.getD (k + 1) 0) (xs.getD k 0) ≠ -1 := by
      rcases cmpZ_cases (xs.getD (k + 1) 0) (xs.getD k 0) with ⟨_, e⟩ | ⟨_, e⟩ | ⟨_, e⟩ <;> rw [e] <;> decide
    split
    · exact ih
    · exact ih
theorem sgZ_mono (xs : List Int) (k : Nat) : (sgZ xs xs k).1 ≤ (sgZ xs xs (k + 1)).1 := by
  simp only [sgZ]
  split
  · simp
  · split <;> simp
theorem sgZ_run (xs : List Int) : ∀ (k f m : Nat), Rise xs f (f + m) → f + m ≤ k + 1 → m - 1 ≤ (sgZ xs xs k).1
  | 0, f, m, _, h => by omega
  | k + 1, f, m, hr, h => by
    by_cases h1 : f + m ≤ k + 1
    · exact Nat.le_trans (sgZ_run xs k f m hr h1) (sgZ_mono xs k)
    · by_cases hm : m ≤ 1
      · omega
      · have hx := hr (k + 1) (by omega) (by omega)
        rw [Nat.add_sub_cancel] at hx
        have hi := sgZ_run xs k f (m - 1) (fun i a b => hr i a (by omega)) (by omega)
        have hc : cmpZ (xs.getD (k + 1) 0) (xs.getD k 0) = 1 := by
          unfold cmpZ; rw [if_neg (by omega), if_pos hx]
        simp only [sgZ]
        rw [hc, if_pos (by decide)]
        simp only
        omega

/-! ### histograms -/
theorem sumZ_set : ∀ (cs : List Int) (j : Nat) (y : Int), j < cs.length → sumZ (cs.set j y) = sumZ cs - cs.getD j 0 + y
  | [], j, y, h => by simp at h
  | x :: r, 0, y, h => by simp [sumZ]; omega
  | x :: r, j + 1, y, h => by
    have := sumZ_set r j y (by simpa using h)
    simp only [List.set_cons_succ, sumZ, List.getD_cons_succ, this]
    omega
theorem sumZ_zeros (m : Nat) : sumZ (List.replicate m 0) = 0 := by
  induction m with
  | zero => rfl
  | succ m ih => rw [List.replicate_succ, sumZ, ih]; rfl
theorem hist_sum (xs : List Int) (s m : Nat) : ∀ k, (∀ i, i < k → (xs.getD i 0).toNat / s < m) → sumZ (histL xs s m k) = k
  | 0, _ => sumZ_zeros m
  | k + 1, h => by
    have ih := hist_sum xs s m k fun i hi => h i (by omega)
    rw [histL, bump, sumZ_set _ _ _ (by rw [histL_len]; exact h k (by omega)), ih]
    omega
theorem bump_ge (cs : List Int) (i j : Nat) : cs.getD j 0 ≤ (bump cs i).getD j 0 := by
  unfold bump
  by_cases hl : i < cs.length
  · by_cases h : i = j
    · subst h
      rw [List.getD_eq_getElem?_getD, List.getD_eq_getElem?_getD, List.getElem?_set_self hl, List.getElem?_eq_getElem hl]
      simp only [Option.getD_some]
      omega
    · rw [List.getD_eq_getElem?_getD, List.getD_eq_getElem?_getD, List.getElem?_set_ne h]
      exact Int.le_refl _
  · rw [List.set_eq_of_length_le (by omega)]
    exact Int.le_refl _
theorem hist_has (xs : List Int) (s m j : Nat) (hj : j < m) : ∀ k i, i < k → (xs.getD i 0).toNat / s = j → 1 ≤ (histL xs s m k).getD j 0
  | 0, i, h, _ => by omega
  | k + 1, i, h, e => by
    rw [histL]
    by_cases hi : i < k
    · exact Int.le_trans (hist_has xs s m j hj k i hi e) (bump_ge _ _ _)
    · have hik : i = k := by omega
      subst hik
      rw [e]
      unfold bump
      rw [List.getD_eq_getElem?_getD, List.getElem?_set_self (by rw [histL_len]; exact hj)]
      have h0 := histL_bd xs s m i _ (List.getElem_mem (show j < (histL xs s m i).length by rw [histL_len]; exact hj))
      rw [List.getD_eq_getElem?_getD, List.getElem?_eq_getElem (by rw [histL_len]; exact hj)]
      simp only [Option.getD_some]
      omega
theorem mxZ_at (xs : List Int) : ∀ k, ∃ i, i ≤ k ∧ xs.getD i 0 = mxZ xs k
  | 0 => ⟨0, Nat.le_refl _, rfl⟩
  | k + 1 => by
    obtain ⟨i, h1, h2⟩ := mxZ_at xs k
    by_cases h : mxZ xs k ≤ xs.getD (k + 1) 0
    · exact ⟨k + 1, Nat.le_refl _, by rw [mxZ]; omega⟩
    · exact ⟨i, by omega, by rw [mxZ, h2]; omega⟩
theorem hist_law {xs : List Int} {st : Int} (h : hiC xs st = 0) : okSer xs = true ∧ sumZ (hiV xs st) = xs.length ∧ 0 < (hiV xs st).length ∧ (hiV xs st).length ≤ 60 ∧ (∀ x ∈ hiV xs st, 0 ≤ x ∧ x ≤ 60) ∧ 1 ≤ (hiV xs st).getD ((hiV xs st).length - 1) 0 := by
  have hk : keptC xs (withinB st 1 1000000) = 0 := by
    unfold hiC at h
    split at h
    · assumption
    · exact h
  have h60 : ¬ 60 < mxZ xs (xs.length - 1) / st + 1 := by
    unfold hiC at h
    rw [if_pos hk] at h
    split at h
    · omega
    · assumption
  have hok : okSer xs = true ∧ withinB st 1 1000000 = true := by
    unfold keptC at hk
    split at hk
    · split at hk
      · exact ⟨by assumption, by assumption⟩
      · omega
    · omega
  obtain ⟨l1, l2⟩ := ok_len hok.1
  obtain ⟨s1, s2⟩ := withinB_iff.1 hok.2
  have hv : hiV xs st = histL xs st.toNat ((mxZ xs (xs.length - 1)).toNat / st.toNat + 1) xs.length := by unfold hiV; rw [if_pos h]
  rw [hv, histL_len]
  have hm := mxZ_bd (ok_mem hok.1) (xs.length - 1) (by omega)
  have e : (((mxZ xs (xs.length - 1)).toNat / st.toNat : Nat) : Int) = mxZ xs (xs.length - 1) / st := by
    rw [Int.natCast_ediv, Int.toNat_of_nonneg hm.1, Int.toNat_of_nonneg (by omega)]
  have eq60 : (mxZ xs (xs.length - 1)).toNat / st.toNat + 1 ≤ 60 := by
    have : (((mxZ xs (xs.length - 1)).toNat / st.toNat : Nat) : Int) < 60 := by rw [e]; omega
    exact Int.ofNat_lt.1 this
  refine ⟨hok.1, ?_, Nat.succ_pos _, eq60, fun x hx => ?_, ?_⟩
  · refine hist_sum _ _ _ _ fun i hi => ?_
    have := mxZ_ge xs (xs.length - 1) i (by omega)
    exact Nat.lt_succ_of_le (Nat.div_le_div_right (by omega))
  · have := histL_bd _ _ _ _ x hx
    omega
  · obtain ⟨i, h1, h2⟩ := mxZ_at xs (xs.length - 1)
    rw [Nat.add_sub_cancel]
    exact hist_has xs _ _ _ (Nat.lt_succ_self _) xs.length i (by omega) (by rw [h2])

/-! ### growth, weeks -/
theorem grow_self (xs : List Int) : growV xs xs = 0 := by
  unfold growV
  split
  · split
    · rfl
    · rename_i h1 h2
      rw [Int.sub_self, Int.mul_zero]
      have := okSer_sum (xs := xs) (by simpa using h1)
      exact near_zero _ (by omega)
  · rfl
theorem growC_self {xs : List Int} (h : okSer xs = true) : growC xs xs = if sumZ xs = 0 then 6 else 0 := by unfold growC; rw [h]; rfl
theorem wkAll_len7 (xs : List Int) (f : Int) : ∀ k, (wkAll xs f k).length = k
  | 0 => rfl
  | k + 1 => by rw [wkAll, List.length_append, wkAll_len7 xs f k]; rfl

end Go.Proofs.Ytmpfkmbfbeejhaa
