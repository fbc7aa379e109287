/- Plain: the best days of a series, in the order of their numbers. -/
import Derived.Test.YtmpfkmbfbeejhaaSymZ
import Derived.Test.YtmpfkmbfbeejhaaMedian
namespace Go.Proofs.Ytmpfkmbfbeejhaa
open Go.RowKit
set_option linter.unusedVariables false

instance (vs : List Int) (x y : Int) : Decidable (Ahd vs x y) := by unfold Ahd; infer_instance
/-- All days. -/
def dayL (n : Nat) : List Int := (List.range n).map fun k : Nat => (k : Int)
theorem dayL_mem {n : Nat} {x : Int} : x ∈ dayL n ↔ 0 ≤ x ∧ x < n := by
  unfold dayL
  rw [List.mem_map]
  constructor
  · rintro ⟨k, hk, rfl⟩
    rw [List.mem_range] at hk
    omega
  · intro h
    exact ⟨x.toNat, List.mem_range.2 (by omega), by omega⟩
theorem dayL_len (n : Nat) : (dayL n).length = n := by unfold dayL; simp
theorem dayL_rise (n : Nat) : (dayL n).Pairwise (· < ·) := by
  unfold dayL
  rw [List.pairwise_map]
  exact List.pairwise_lt_range.imp fun h => by omega
theorem dayL_succ (n : Nat) : dayL (n + 1) = dayL n ++ [(n : Int)] := by
  unfold dayL; rw [List.range_succ, List.map_append]; rfl
/-- The days, the best first. -/
def dayO (vs : List Int) : List Int := (dayL vs.length).mergeSort fun x y => decide (¬ Ahd vs y x)
theorem dayO_perm (vs : List Int) : (dayO vs).Perm (dayL vs.length) := List.mergeSort_perm _ _
theorem dayO_nodup (vs : List Int) : (dayO vs).Nodup := by
  refine (dayO_perm vs).symm.nodup ((dayL_rise _).imp fun h => by omega)
theorem dayO_sort (vs : List Int) : (dayO vs).Pairwise (Ahd vs) := by
  have h := List.pairwise_mergeSort (le := fun x y : Int => decide (¬ Ahd vs y x)) (fun a b c h1 h2 => by
    simp only [decide_eq_true_eq] at *
    unfold Ahd at *; omega) (fun a b => by
    simp only [Bool.or_eq_true, decide_eq_true_eq]
    unfold Ahd; omega) (dayL vs.length)
  have h2 := List.Pairwise.and h (show ((dayL vs.length).mergeSort fun x y => decide (¬ Ahd vs y x)).Pairwise (· ≠ ·) from dayO_nodup vs)
  exact h2.imp fun ⟨h3, h4⟩ => (ahd_total h4).resolve_right (by simpa using h3)
theorem dayO_len (vs : List Int) : (dayO vs).length = vs.length := by rw [(dayO_perm vs).length_eq, dayL_len]
theorem dayO_mem {vs : List Int} {x : Int} : x ∈ dayO vs ↔ 0 ≤ x ∧ x < vs.length := by rw [(dayO_perm vs).mem_iff, dayL_mem]
theorem dayO_of {vs ys : List Int} (hp : ys.Perm (dayL vs.length)) (hs : ys.Pairwise (Ahd vs)) : ys = dayO vs :=
  List.Perm.eq_of_pairwise (fun a b _ _ h1 h2 => absurd h2 (ahd_asymm h1)) hs (dayO_sort vs) (hp.trans (dayO_perm vs).symm)

/-- The best k days, in rising order. -/
def topZ (vs : List Int) (k : Nat) : List Int := sortZ ((dayO vs).take k)
theorem topZ_len {vs : List Int} {k : Nat} (h : k ≤ vs.length) : (topZ vs k).length = k := by
  unfold topZ; rw [sortZ_len, List.length_take, dayO_len]; omega
theorem topZ_mem {vs : List Int} {k : Nat} {x : Int} : x ∈ topZ vs k ↔ x ∈ (dayO vs).take k := sortZ_mem
theorem topZ_bound {vs : List Int} {k : Nat} {x : Int} (h : x ∈ topZ vs k) : 0 ≤ x ∧ x < vs.length := dayO_mem.1 (List.mem_of_mem_take (topZ_mem.1 h))
theorem topZ_zero (vs : List Int) : topZ vs 0 = [] := by unfold topZ; rw [List.take_zero]; simp [sortZ]
/-- The search for the next best day has come to day i. -/
def NextB (vs : List Int) (k i : Nat) (b : Int) : Prop :=
  (b = -1 ∧ ∀ j : Nat, j < i → (j : Int) ∈ topZ vs k) ∨ (0 ≤ b ∧ b < i ∧ b ∉ topZ vs k ∧ ∀ j : Nat, j < i → (j : Int) ∉ topZ vs k → (j : Int) ≠ b → Ahd vs b j)
theorem nextB_zero (vs : List Int) (k : Nat) : NextB vs k 0 (-1) := .inl ⟨rfl, fun j h => absurd h (Nat.not_lt_zero _)⟩
theorem nextB_has {vs : List Int} {k i : Nat} {b : Int} (h : NextB vs k i b) (hi : (i : Int) ∈ topZ vs k) : NextB vs k (i + 1) b := by
  rcases h with ⟨h1, h2⟩ | ⟨h1, h2, h3, h4⟩
  · refine .inl ⟨h1, fun j hj => ?_⟩
    rcases Nat.lt_succ_iff_lt_or_eq.1 hj with h | rfl
    · exact h2 j h
    · exact hi
  · refine .inr ⟨h1, by omega, h3, fun j hj hn hne => ?_⟩
    rcases Nat.lt_succ_iff_lt_or_eq.1 hj with h | rfl
    · exact h4 j h hn hne
    · exact absurd hi hn
theorem nextB_take {vs : List Int} {k i : Nat} {b : Int} (h : NextB vs k i b) (hi : (i : Int) ∉ topZ vs k) (hb : b < 0 ∨ valI vs b < valI vs i) : NextB vs k (i + 1) i := by
  refine .inr ⟨by omega, by omega, hi, fun j hj hn hne => ?_⟩
  rcases Nat.lt_succ_iff_lt_or_eq.1 hj with hj | rfl
  · rcases h with ⟨h1, h2⟩ | ⟨h1, h2, h3, h4⟩
    · exact absurd (h2 j hj) hn
    · have hv := hb.resolve_left (by omega)
      by_cases e : (j : Int) = b
      · rw [e]; exact .inl hv
      · have := h4 j hj hn e
        unfold Ahd at *; omega
  · exact absurd rfl hne
theorem nextB_keep {vs : List Int} {k i : Nat} {b : Int} (h : NextB vs k i b) (hb : ¬ b < 0) (hv : ¬ valI vs b < valI vs i) : NextB vs k (i + 1) b := by
  rcases h with ⟨h1, h2⟩ | ⟨h1, h2, h3, h4⟩
  · omega
  · refine .inr ⟨h1, by omega, h3, fun j hj hn hne => ?_⟩
    rcases Nat.lt_succ_iff_lt_or_eq.1 hj with hj | rfl
    · exact h4 j hj hn hne
    · unfold Ahd; omega
theorem drop_mem {vs : List Int} {k : Nat} {x : Int} (hx : x ∈ dayO vs) (hn : x ∉ (dayO vs).take k) : x ∈ (dayO vs).drop k := by
  rw [← List.take_append_drop k (dayO vs)] at hx
  exact (List.mem_append.1 hx).resolve_left hn
theorem nextB_end {vs : List Int} {k : Nat} {b : Int} (hk : k < vs.length) (h : NextB vs k vs.length b) : 0 ≤ b ∧ b < vs.length ∧ b ∉ topZ vs k ∧ topZ vs (k + 1) = sortZ (topZ vs k ++ [b]) := by
  have hkl : k < (dayO vs).length := by rw [dayO_len]; exact hk
  have hD : (dayO vs)[k] ∈ dayO vs := List.getElem_mem hkl
  have hDn : (dayO vs)[k] ∉ (dayO vs).take k := by
    intro hc
    obtain ⟨j, hj, e⟩ := List.getElem_of_mem hc
    rw [List.getElem_take] at e
    simp only [List.length_take] at hj
    exact List.pairwise_iff_getElem.1 (dayO_nodup vs) j k (by omega) hkl (by omega) e
  have hb0 := dayO_mem.1 hD
  obtain ⟨q, hq⟩ : ∃ q : Nat, (q : Int) = (dayO vs)[k] := ⟨(dayO vs)[k].toNat, by omega⟩
  rcases h with ⟨h1, h2⟩ | ⟨h1, h2, h3, h4⟩
  · exact absurd (topZ_mem.1 (hq ▸ h2 q (by omega))) hDn
  · have e : b = (dayO vs)[k] := by
      refine Decidable.byContradiction fun hne => ?_
      have a1 := h4 q (by omega) (by rw [hq]; exact fun hc => hDn (topZ_mem.1 hc)) (by rw [hq]; exact fun hc => hne hc.symm)
      rw [hq] at a1
      have hbd := drop_mem (k := k) (dayO_mem.2 ⟨h1, h2⟩) fun hc => h3 (topZ_mem.2 hc)
      rw [List.drop_eq_getElem_cons hkl] at hbd
      rcases List.mem_cons.1 hbd with rfl | hbd
      · exact hne rfl
      · obtain ⟨j, hj, e⟩ := List.getElem_of_mem hbd
        rw [List.getElem_drop] at e
        simp only [List.length_drop] at hj
        have := List.pairwise_iff_getElem.1 (dayO_sort vs) k (k + 1 + j) hkl (by omega) (by omega)
        rw [e] at this
        exact ahd_asymm this a1
    refine ⟨h1, h2, h3, ?_⟩
    refine sortZ_of ?_ (sortZ_rise _)
    unfold topZ
    rw [List.take_succ_eq_append_getElem hkl, ← e]
    exact (sortZ_perm _).trans ((sortZ_perm _).append_right _).symm

end Go.Proofs.Ytmpfkmbfbeejhaa
