/- Gaps in a series: plain laws. -/
import Derived.Test.YtcclfmapbgdpdaaGreatDoorMoving
namespace Go.Proofs.YtcclfmapbgdpdaaGreatDoor
set_option linter.unusedVariables false

/-- The next place below, above, that isn't among ms. -/
def lowZ (ms : List Int) : Nat → Int
  | 0 => -1
  | l + 1 => if (l : Int) ∈ ms then lowZ ms l else l
def higZ (ms : List Int) (n : Nat) : Nat → Int
  | 0 => n
  | d + 1 => if ((n - (d + 1) : Nat) : Int) ∈ ms then higZ ms n d else ((n - (d + 1) : Nat) : Int)
theorem lowZ_yes {ms : List Int} {l : Nat} (h : (l : Int) ∈ ms) : lowZ ms (l + 1) = lowZ ms l := by rw [lowZ, if_pos h]
theorem lowZ_no {ms : List Int} {l : Nat} (h : ¬ (l : Int) ∈ ms) : lowZ ms (l + 1) = l := by rw [lowZ, if_neg h]
theorem higZ_yes {ms : List Int} {n k : Nat} (hk : k < n) (h : (k : Int) ∈ ms) : higZ ms n (n - k) = higZ ms n (n - (k + 1)) := by
  obtain ⟨d, rfl⟩ : ∃ d, n = k + (d + 1) := ⟨n - k - 1, by omega⟩
  rw [show k + (d + 1) - k = d + 1 by omega, show k + (d + 1) - (k + 1) = d by omega, higZ, show k + (d + 1) - (d + 1) = k by omega, if_pos h]
theorem higZ_no {ms : List Int} {n k : Nat} (hk : k < n) (h : ¬ (k : Int) ∈ ms) : higZ ms n (n - k) = k := by
  obtain ⟨d, rfl⟩ : ∃ d, n = k + (d + 1) := ⟨n - k - 1, by omega⟩
  rw [show k + (d + 1) - k = d + 1 by omega, higZ, show k + (d + 1) - (d + 1) = k by omega, if_neg h]
theorem higZ_end {ms : List Int} {n : Nat} : higZ ms n (n - n) = n := by rw [Nat.sub_self]; rfl

/-- What stands in a gap. -/
def fillZ (xs ms : List Int) (i : Nat) : Int :=
  if lowZ ms (i + 1) < 0 then xs.getD (higZ ms xs.length (xs.length - i)).toNat 0
  else if higZ ms xs.length (xs.length - i) = xs.length then xs.getD (lowZ ms (i + 1)).toNat 0
  else xs.getD (lowZ ms (i + 1)).toNat 0 + nearZ ((xs.getD (higZ ms xs.length (xs.length - i)).toNat 0 - xs.getD (lowZ ms (i + 1)).toNat 0) * (i - lowZ ms (i + 1))) (higZ ms xs.length (xs.length - i) - lowZ ms (i + 1))
def fillP (xs ms : List Int) (P : Nat → Bool) : List Int := xs.mapIdx fun j x => if P j then fillZ xs ms j else x
theorem fillP_len (xs ms : List Int) (P : Nat → Bool) : (fillP xs ms P).length = xs.length := by simp [fillP]
theorem fillP_congr {xs ms : List Int} {P Q : Nat → Bool} (h : ∀ j, j < xs.length → P j = Q j) : fillP xs ms P = fillP xs ms Q := by
  unfold fillP
  apply List.ext_getElem
  · simp
  · intro i h1 h2
    simp only [List.length_mapIdx] at h1
    simp [h i h1]
theorem fillP_set {xs ms : List Int} {P Q : Nat → Bool} {i : Nat} (hi : i < xs.length) (hQ : Q i = true) (h : ∀ j, j < xs.length → j ≠ i → P j = Q j) : (fillP xs ms P).set i (fillZ xs ms i) = fillP xs ms Q := by
  unfold fillP
  apply List.ext_getElem
  · simp
  · intro j h1 h2
    simp only [List.length_set, List.length_mapIdx] at h1
    rw [List.getElem_set]
    by_cases hj : i = j
    · subst hj; simp [hQ]
    · simp [hj, h j h1 (fun e => hj e.symm)]
theorem fillP_none (xs ms : List Int) : fillP xs ms (fun _ => false) = xs := by
  unfold fillP
  apply List.ext_getElem <;> simp
theorem getD_at {xs : List Int} {k : Nat} {x : Int} (h : xs[k]? = some x) : xs.getD k 0 = x := by rw [List.getD, h]; rfl

theorem fillZ_low {xs ms : List Int} {i h n : Nat} {y : Int} (hn : xs.length = n) (h1 : lowZ ms (i + 1) = -1) (h2 : higZ ms n (n - i) = h) (hy : xs[h]? = some y) : fillZ xs ms i = y := by
  unfold fillZ
  rw [h1, hn, h2, if_pos (by omega), Int.toNat_natCast, getD_at hy]
theorem fillZ_high {xs ms : List Int} {i l n : Nat} {y : Int} (hn : xs.length = n) (h1 : lowZ ms (i + 1) = l) (h2 : higZ ms n (n - i) = n) (hy : xs[l]? = some y) : fillZ xs ms i = y := by
  unfold fillZ
  rw [h1, hn, h2, if_neg (by omega), if_pos rfl, Int.toNat_natCast, getD_at hy]
theorem fillZ_mid {xs ms : List Int} {i l h n : Nat} {y z : Int} (hn : xs.length = n) (h1 : lowZ ms (i + 1) = l) (h2 : higZ ms n (n - i) = h) (hh : h < n) (hy : xs[l]? = some y) (hz : xs[h]? = some z) : fillZ xs ms i = y + nearZ ((z - y) * (i - l)) (h - l) := by
  unfold fillZ
  rw [h1, hn, h2, if_neg (by omega), if_neg (by omega), Int.toNat_natCast, Int.toNat_natCast, getD_at hy, getD_at hz]

/-- The bounds of a blend. -/
theorem blend_bd {y z : Int} {i l h : Nat} (hy : 0 ≤ y ∧ y ≤ 1000000) (hz : 0 ≤ z ∧ z ≤ 1000000) (h1 : l < i) (h2 : i < h) (h3 : h ≤ 60) :
    -60000000 ≤ (z - y) * ((i : Int) - l) ∧ (z - y) * ((i : Int) - l) ≤ 60000000 ∧ -1000000 ≤ nearZ ((z - y) * ((i : Int) - l)) ((h : Int) - l) ∧ nearZ ((z - y) * ((i : Int) - l)) ((h : Int) - l) ≤ 1000000 := by
  have a1 : -1000000 ≤ z - y ∧ z - y ≤ 1000000 := by omega
  have b1 : 0 ≤ (i : Int) - l ∧ (i : Int) - l ≤ (h : Int) - l ∧ (h : Int) - l ≤ 60 ∧ 0 < (h : Int) - l := by omega
  generalize z - y = u at *
  generalize (i : Int) - l = v at *
  generalize (h : Int) - l = t at *
  have p1 := Int.mul_nonneg (a := u + 1000000) (b := v) (by omega) (by omega)
  have p2 := Int.mul_nonneg (a := 1000000 - u) (b := v) (by omega) (by omega)
  simp only [Int.add_mul, Int.sub_mul] at p1 p2
  have := nearZ_bd (u * v) t 1000000 (by omega) (by omega) (by omega)
  omega

/-- Rising within bounds, as far as the first k. -/
def risB (ms : List Int) (lo hi : Int) : Nat → Bool
  | 0 => true
  | k + 1 => risB ms lo hi k && withinB (ms.getD k 0) lo hi && (decide (k = 0) || decide (ms.getD (k - 1) 0 < ms.getD k 0))
theorem risB_mono {ms : List Int} {lo hi : Int} {k m : Nat} (hkm : k ≤ m) (h : risB ms lo hi k = false) : risB ms lo hi m = false := by
  induction m with
  | zero => have : k = 0 := by omega
            subst this; exact h
  | succ m ih =>
    rcases Nat.lt_or_ge m k with hlt | hge
    · have : k = m + 1 := by omega
      subst this; exact h
    · rw [risB, ih hge]; rfl
theorem risB_step0 {ms : List Int} {lo hi x : Int} (h : ms[0]? = some x) : risB ms lo hi 1 = withinB x lo hi := by simp [risB, List.getD, h]
theorem risB_step {ms : List Int} {lo hi x y : Int} {k : Nat} (h : ms[k + 1]? = some x) (h' : ms[k]? = some y) : risB ms lo hi (k + 2) = (risB ms lo hi (k + 1) && withinB x lo hi && decide (y < x)) := by
  rw [risB]
  simp [List.getD, h, h']
theorem risB_at {ms : List Int} {lo hi : Int} {m : Nat} (h : risB ms lo hi m = true) {k : Nat} (hk : k < m) : lo ≤ ms.getD k 0 ∧ ms.getD k 0 ≤ hi ∧ (k = 0 ∨ ms.getD (k - 1) 0 < ms.getD k 0) := by
  induction m with
  | zero => omega
  | succ m ih =>
    rw [risB, Bool.and_eq_true, Bool.and_eq_true, Bool.or_eq_true, decide_eq_true_eq, decide_eq_true_eq] at h
    rcases Nat.lt_or_ge k m with hlt | hge
    · exact ih h.1.1 hlt
    · have : k = m := by omega
      subst this
      have := withinB_iff.1 h.1.2
      exact ⟨this.1, this.2, h.2⟩
theorem risB_ge {ms : List Int} {hi : Int} {m : Nat} (h : risB ms 0 hi m = true) : ∀ k, k < m → (k : Int) ≤ ms.getD k 0 := by
  intro k
  induction k with
  | zero => intro hk; have := risB_at h hk; omega
  | succ k ih =>
    intro hk
    have h1 := ih (by omega)
    have h2 := risB_at h hk
    rw [Nat.add_sub_cancel] at h2
    omega
/-- Not all of n places are among fewer or more that rise. -/
theorem risB_all {ms : List Int} {n : Nat} (h : risB ms 0 ((n : Int) - 1) ms.length = true) (hall : ∀ i, i < n → (i : Int) ∈ ms) : ms.length = n := by
  have key : ∀ i, i < n → ms[i]? = some (i : Int) := by
    intro i
    induction i using Nat.strongRecOn with
    | _ i ih =>
      intro hi
      obtain ⟨j, hj, he⟩ := List.getElem_of_mem (hall i hi)
      have hj2 : ms[j]? = some (i : Int) := by rw [List.getElem?_eq_getElem hj, he]
      have h1 := risB_ge h j hj
      rw [getD_at hj2] at h1
      rcases Nat.lt_or_ge j i with hlt | hge
      · have := ih j hlt (by omega)
        rw [hj2] at this
        simp at this
        omega
      · have : j = i := by omega
        subst this; exact hj2
  rcases Nat.lt_trichotomy ms.length n with h1 | h1 | h1
  · have := key ms.length h1
    rw [List.getElem?_eq_none (Nat.le_refl _)] at this
    cases this
  · exact h1
  · have h2 := risB_ge h n h1
    have h3 := risB_at h h1
    omega
theorem higZ_or {ms : List Int} {n : Nat} (i : Nat) (hi : i ≤ n) : (∃ h, i ≤ h ∧ h < n ∧ ¬ (h : Int) ∈ ms) ∨ ∀ h, i ≤ h → h < n → (h : Int) ∈ ms := by
  by_cases hc : ∃ h, i ≤ h ∧ h < n ∧ ¬ (h : Int) ∈ ms
  · exact .inl hc
  · refine .inr fun h h1 h2 => ?_
    by_cases hm : (h : Int) ∈ ms
    · exact hm
    · exact absurd ⟨h, h1, h2, hm⟩ hc

def fiC (xs ms : List Int) : Int := if okSer xs then (if risB ms 0 ((xs.length : Int) - 1) ms.length then (if ms.length = xs.length then 6 else 0) else 2) else 1
def fiV (xs ms : List Int) : List Int := if fiC xs ms = 0 then fillP xs ms (fun j => decide ((j : Int) ∈ ms)) else []
theorem fillP_bd {xs ms : List Int} {P : Nat → Bool} (h : ∀ i, i < xs.length → P i = true → I64 (fillZ xs ms i)) (hx : ∀ x ∈ xs, I64 x) : ∀ x ∈ fillP xs ms P, I64 x := by
  intro x hm
  obtain ⟨i, hi, rfl⟩ := List.getElem_of_mem hm
  rw [fillP_len] at hi
  simp only [fillP, List.getElem_mapIdx]
  split
  · exact h i hi (by assumption)
  · exact hx _ (List.getElem_mem _)

end Go.Proofs.YtcclfmapbgdpdaaGreatDoor
