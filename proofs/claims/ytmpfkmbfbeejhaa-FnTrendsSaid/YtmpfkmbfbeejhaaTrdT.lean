/- Plain: what FnTrends asks of the best days, the longest run and the signs. -/
import Derived.Test.YtmpfkmbfbeejhaaTrdL
import Derived.Test.YtmpfkmbfbeejhaaTopS
namespace Go.Proofs.Ytmpfkmbfbeejhaa
open Go.RowKit
set_option linter.unusedVariables false

theorem topZ_rise (vs : List Int) (k : Nat) : (topZ vs k).Pairwise (· < ·) := by
  have h1 := sortZ_rise ((dayO vs).take k)
  have h2 : (sortZ ((dayO vs).take k)).Nodup := (sortZ_perm _).symm.nodup ((dayO_nodup vs).sublist (List.take_sublist _ _))
  have h3 := List.Pairwise.and h1 (show (sortZ ((dayO vs).take k)).Pairwise (· ≠ ·) from h2)
  exact h3.imp fun ⟨a, b⟩ => by omega
theorem topZ_best {vs : List Int} {k : Nat} {x y : Int} (hx : x ∈ topZ vs k) (h1 : 0 ≤ y) (h2 : y < vs.length) (hy : y ∉ topZ vs k) : Ahd vs x y := by
  have a := topZ_mem.1 hx
  have b := drop_mem (k := k) (dayO_mem.2 ⟨h1, h2⟩) fun hc => hy (topZ_mem.2 hc)
  have h := dayO_sort vs
  rw [← List.take_append_drop k (dayO vs)] at h
  exact (List.pairwise_append.1 h).2.2 x a y b
theorem topC_ok {vs : List Int} {m : Int} (h : topC vs m = 0) : okSer vs = true ∧ 0 ≤ m ∧ m ≤ vs.length := by
  unfold topC keptC at h
  split at h
  · split at h
    · have := withinB_iff.1 (by assumption)
      exact ⟨by assumption, this.1, this.2⟩
    · omega
  · omega
theorem best_law {xs : List Int} (h : okSer xs = true) : ∃ f d s : Nat, bestA xs = f ∧ bestB xs = d ∧ bestC xs = 0 ∧ sgA xs xs = s ∧ sgB xs xs = 0 ∧ sgC xs xs = 0 ∧ 1 ≤ d ∧ f + d ≤ xs.length ∧ d - 1 ≤ s ∧ s ≤ 60 ∧ Rise xs f (f + d) := by
  obtain ⟨l1, l2⟩ := ok_len h
  obtain ⟨a1, a2, a3, a4, a5⟩ := brZ_law xs (xs.length - 1)
  have c : sgC xs xs = 0 := by unfold sgC; rw [h]; simp
  have hb := (sgZ_bd xs xs (xs.length - 1)).1
  refine ⟨(brZ xs (xs.length - 1)).1, (brZ xs (xs.length - 1)).2.1, (sgZ xs xs (xs.length - 1)).1, by unfold bestA; rw [if_pos h], by unfold bestB; rw [if_pos h], by unfold bestC; rw [if_pos h], by unfold sgA; rw [if_pos c], ?_, c, a3, by omega, sgZ_run xs _ _ _ a5 a2, by omega, a5⟩
  unfold sgB
  rw [if_pos c, sgZ_self]
  rfl
theorem week_law {xs : List Int} (h : okSer xs = true) : wkC xs 3 = 0 ∧ (wkV xs 3).length = 7 := by
  have c : wkC xs 3 = 0 := by unfold wkC keptC; rw [h]; rfl
  exact ⟨c, by unfold wkV; rw [if_pos c]; exact wkAll_len7 xs 3 7⟩
theorem grow_law {xs : List Int} (h : okSer xs = true) : growV xs xs = 0 ∧ ((growC xs xs = 6 ∧ sumZ xs = 0) ∨ (growC xs xs = 0 ∧ 0 < sumZ xs)) := by
  refine ⟨grow_self xs, ?_⟩
  rw [growC_self h]
  have := (okSer_sum h).1
  by_cases hs : sumZ xs = 0
  · exact .inl ⟨by rw [if_pos hs], hs⟩
  · exact .inr ⟨by rw [if_neg hs], by omega⟩
theorem ok_small {xs : List Int} (h : okSer xs = true) : Small xs := fun x hx => by have := ok_mem h x hx; omega
theorem tr_cases (xs : List Int) : (trC xs ≠ 0 ∧ trA xs = 0 ∧ trB xs = 0) ∨ (trC xs = 0 ∧ okSer xs = true ∧ 2 ≤ xs.length ∧ trA xs = tSlope xs ∧ trB xs = tStart xs) := by
  by_cases h : trC xs = 0
  · refine .inr ⟨h, ?_⟩
    have h2 := h
    unfold trC at h2
    split at h2
    · rename_i hok
      split at h2
      · omega
      · have := (ok_len hok).1
        exact ⟨hok, by omega, by unfold trA; rw [if_pos h], by unfold trB; rw [if_pos h]⟩
    · omega
  · exact .inl ⟨h, by unfold trA; rw [if_neg h], by unfold trB; rw [if_neg h]⟩
theorem tr_ok {xs : List Int} (hok : okSer xs = true) (h2 : 2 ≤ xs.length) : trC xs = 0 ∧ trA xs = tSlope xs ∧ trB xs = tStart xs := by
  have c : trC xs = 0 := by unfold trC; rw [hok, if_pos rfl, if_neg (by omega)]
  exact ⟨c, by unfold trA; rw [if_pos c], by unfold trB; rw [if_pos c]⟩
theorem start_bd {xs : List Int} {n : Nat} (hok : okSer xs = true) (hl : xs.length = n) (h2 : 2 ≤ n) : -1555200000000000 ≤ tStart xs ∧ tStart xs ≤ 1555260000000000 := by
  obtain ⟨_, ⟨s1, s2⟩⟩ := slope_bds hok hl h2
  have a := okSer_sum hok
  have n2 : (2 : Int) ≤ (n : Int) := by omega
  have hb : -1555260000000000 ≤ tStart xs ∧ tStart xs ≤ 1555260000000000 := by
    unfold tStart
    rw [hl]
    have hm : (1555260000000000 : Int) * (1000 * 1) ≤ 1555260000000000 * (1000 * (n : Int)) := Int.mul_le_mul_of_nonneg_left (by omega) (by omega)
    exact nearZ_bd _ _ _ (by omega) (by omega) (by omega)
  obtain ⟨d1, d2⟩ := near_dist (1000 * sumZ xs - tSlope xs * tX xs.length) (1000 * xs.length) (by omega)
  refine ⟨?_, hb.2⟩
  have e0 : nearZ (1000 * sumZ xs - tSlope xs * tX xs.length) (1000 * xs.length) = tStart xs := rfl
  rw [e0, hl] at d1 d2
  refine Decidable.byContradiction fun hc => ?_
  have h3 : (1000 * (n : Int)) * tStart xs ≤ (1000 * (n : Int)) * (-1555200000000001) := Int.mul_le_mul_of_nonneg_left (by omega) (by omega)
  omega
/-- The numbers of the end, and that none is too great. -/
theorem line_law {xs : List Int} {n : Nat} (hok : okSer xs = true) (hl : xs.length = n) (h2 : 2 ≤ n) : ∃ p D : Int, tSlope xs * ((n : Int) - 1) = p ∧ 2000 * tStart xs + p = D ∧ -9223372036854775000 ≤ D ∧ D ≤ 9223372036854775000 ∧ -25920000000000000 ≤ p ∧ p ≤ 25920000000000000 ∧ -2100 ≤ D - nearZ (2000 * sumZ xs) n ∧ D - nearZ (2000 * sumZ xs) n ≤ 2100 := by
  obtain ⟨⟨s1, s2⟩, _⟩ := slope_bds hok hl h2
  obtain ⟨t1, t2⟩ := start_bd hok hl h2
  have hm := line_mid (xs := xs) (by omega)
  rw [hl] at hm
  have h60 := (ok_len hok).2
  refine ⟨_, _, rfl, rfl, ?_, ?_, ?_, ?_, hm.1, hm.2⟩
  all_goals
    have p1 := Int.mul_nonneg (a := tSlope xs + 432000000000000) (b := (n : Int) - 1) (by omega) (by omega)
    have p2 := Int.mul_nonneg (a := 432000000000000 - tSlope xs) (b := (n : Int) - 1) (by omega) (by omega)
    rw [Int.add_mul] at p1
    rw [Int.sub_mul] at p2
    have hn : (n : Int) ≤ 60 := by omega
    generalize tSlope xs * ((n : Int) - 1) = p at *
    omega
theorem rev_snoc {xs : List Int} {n k : Nat} {x : Int} (hl : xs.length = n) (hk : k < n) (hx : xs[n - 1 - k]? = some x) : xs.reverse.take (k + 1) = xs.reverse.take k ++ [x] := by
  refine take_snoc ?_
  rw [List.getElem?_reverse (by omega), hl]
  exact hx

end Go.Proofs.Ytmpfkmbfbeejhaa
