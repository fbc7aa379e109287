/- Plain: the stages of the stable sort. -/
import Derived.Test.YtmpfkmbfbeejhaaStabZ
namespace Go.Proofs.Ytmpfkmbfbeejhaa
open Go.Sort
set_option linter.unusedVariables false
section
variable {α : Type} {T E : α → α → Prop}

/-- Behind k rows of 20 that are sorted by insertion. -/
def St1 (T : α → α → Prop) (xs0 xs : List α) (k a : Nat) : Prop := (∀ j, j < k → Okr T xs0 xs 20 j) ∧ xs.drop a = xs0.drop a ∧ xs.length = xs0.length ∧ a = k * 20
theorem st1_zero (xs : List α) : St1 T xs xs 0 0 := ⟨fun j h => absurd h (Nat.not_lt_zero _), rfl, rfl, rfl⟩
theorem st1_row {xs0 xs : List α} {k a : Nat} (h : St1 T xs0 xs k a) : rowN xs 20 k = rowN xs0 20 k := by
  obtain ⟨h1, h2, h3, h4⟩ := h
  unfold rowN; rw [← h4, h2]
theorem st1_step [Inhabited α] {cf : α → α → Int} (hT : Tot T) (hE0 : ∀ x, ¬ E x x) (yes : ∀ x y, E y x → cf x y < 0 → T x y) (no : ∀ x y, E y x → ¬ cf x y < 0 → T y x)
    {xs0 : List α} {d : Array α} {k a : Nat} (hp0 : xs0.Pairwise E) (h : St1 T xs0 d.toList k a) (hb : a + 20 ≤ d.size) :
    St1 T xs0 (insertionSort (ltOf cf) d a (a + 20)).toList (k + 1) (a + 20) ∧ (insertionSort (ltOf cf) d a (a + 20)).size = d.size := by
  have hr := st1_row h
  obtain ⟨h1, h2, h3, h4⟩ := h
  have hcut := rowN_cut d.toList 20 k
  have hdl : d.toList.length = d.size := Array.length_toList
  have hXl : (rowN d.toList 20 k).length = 20 := by rw [rowN_len]; omega
  have hPl : (d.toList.take (k * 20)).length = a := by rw [List.length_take]; omega
  obtain ⟨M, m1, m2, m3, m4⟩ := ins_row (cf := cf) hT hE0 yes no hcut (by rw [hr]; exact rowN_sub hp0 20 k) hPl.symm (b := a + 20) (by rw [hXl])
  have hMl : M.length = 20 := by rw [m2.length_eq, hXl]
  refine ⟨?_, m4⟩
  rw [m1]
  refine ⟨fun j hj => ?_, ?_, ?_, by omega⟩
  · by_cases hjk : j < k
    · have := h1 j hjk
      rw [hcut] at this
      refine this.keep_before ?_
      rw [hPl, h4]
      have : (j + 1) * 20 ≤ k * 20 := Nat.mul_le_mul_right 20 hjk
      omega
    · have e : j = k := by omega
      subst e
      exact okr_at (by omega) (.inl hMl) (by rw [← hr]; exact m2) m3
  · rw [List.drop_left' (by rw [List.length_append, hPl, hMl]), ← h4, ← List.drop_drop, h2, List.drop_drop]
  · rw [← h3]
    conv => rhs; rw [hcut]
    simp only [List.length_append, hMl, hXl]
theorem st1_end [Inhabited α] {cf : α → α → Int} (hT : Tot T) (hE0 : ∀ x, ¬ E x x) (yes : ∀ x y, E y x → cf x y < 0 → T x y) (no : ∀ x y, E y x → ¬ cf x y < 0 → T y x)
    {xs0 : List α} {d : Array α} {k a : Nat} (hp0 : xs0.Pairwise E) (h : St1 T xs0 d.toList k a) (ha : a ≤ d.size) (hb : d.size < a + 20) :
    (∀ j, Okr T xs0 (insertionSort (ltOf cf) d a d.size).toList 20 j) ∧ (insertionSort (ltOf cf) d a d.size).size = d.size ∧ (insertionSort (ltOf cf) d a d.size).toList.length = xs0.length := by
  have hr := st1_row h
  obtain ⟨h1, h2, h3, h4⟩ := h
  have hcut := rowN_cut d.toList 20 k
  have hdl : d.toList.length = d.size := Array.length_toList
  have hXl : (rowN d.toList 20 k).length = d.size - a := by rw [rowN_len]; omega
  have hPl : (d.toList.take (k * 20)).length = a := by rw [List.length_take]; omega
  have hSl : d.toList.drop (k * 20 + 20) = [] := List.drop_eq_nil_of_le (by omega)
  obtain ⟨M, m1, m2, m3, m4⟩ := ins_row (cf := cf) hT hE0 yes no hcut (by rw [hr]; exact rowN_sub hp0 20 k) hPl.symm (b := d.size) (by rw [hXl]; omega)
  have hMl : M.length = d.size - a := by rw [m2.length_eq, hXl]
  have hlen : (insertionSort (ltOf cf) d a d.size).toList.length = xs0.length := by rw [Array.length_toList, m4, ← hdl, h3]
  refine ⟨fun j => ?_, m4, hlen⟩
  by_cases hjk : j < k
  · rw [m1]
    have := h1 j hjk
    rw [hcut] at this
    refine this.keep_before ?_
    rw [hPl, h4]
    have : (j + 1) * 20 ≤ k * 20 := Nat.mul_le_mul_right 20 hjk
    omega
  · by_cases e : j = k
    · subst e
      rw [m1]
      exact okr_at (by omega) (.inr ⟨hSl, by omega⟩) (by rw [← hr]; exact m2) m3
    · refine okr_none hlen ?_
      have : (k + 1) * 20 ≤ j * 20 := Nat.mul_le_mul_right 20 (by omega)
      rw [Array.length_toList, m4]
      omega

/-- Behind k pairs of rows that are merged. -/
def St3 (T : α → α → Prop) (xs0 xs : List α) (s k a : Nat) : Prop := (∀ j, j < k → Okr T xs0 xs (2 * s) j) ∧ (∀ j, 2 * k ≤ j → Okr T xs0 xs s j) ∧ xs.length = xs0.length ∧ a = k * (2 * s)
theorem st3_zero {xs0 xs : List α} {s : Nat} (h : ∀ j, Okr T xs0 xs s j) (hl : xs.length = xs0.length) : St3 T xs0 xs s 0 0 := ⟨fun j h => absurd h (Nat.not_lt_zero _), fun j _ => h j, hl, by omega⟩
theorem two_mul_row (k s : Nat) : k * (2 * s) = 2 * k * s := by rw [← Nat.mul_assoc, Nat.mul_comm k 2]
theorem st3_cut {xs0 xs : List α} {s k a : Nat} (hp0 : xs0.Pairwise E) (h : St3 T xs0 xs s k a) (h0 : a + s < xs.length) :
    ∃ P L R S, xs = P ++ L ++ R ++ S ∧ P.length = a ∧ L.length = s ∧ R.length = min s (xs.length - a - s) ∧ S.length = xs.length - a - 2 * s ∧ L.Pairwise T ∧ R.Pairwise T ∧ (∀ x ∈ L, ∀ y ∈ R, E x y) ∧
      (∀ M, M.Perm (L ++ R) → M.Pairwise T → (a + 2 * s ≤ xs.length → St3 T xs0 (P ++ M ++ S) s (k + 1) (a + 2 * s)) ∧ (xs.length ≤ a + 2 * s → ∀ j, Okr T xs0 (P ++ M ++ S) (2 * s) j)) := by
  obtain ⟨h1, h2, h3, h4⟩ := h
  have hcut := rowN_cut xs (2 * s) k
  rw [rowN_two, ← List.append_assoc, ← h4] at hcut
  have e2 := two_mul_row k s
  have e3 : (2 * k + 1) * s = 2 * k * s + s := by rw [Nat.add_mul, Nat.one_mul]
  have lP : (xs.take a).length = a := by rw [List.length_take]; omega
  have lL : (rowN xs s (2 * k)).length = s := by rw [rowN_len]; omega
  have lR : (rowN xs s (2 * k + 1)).length = min s (xs.length - a - s) := by rw [rowN_len]; congr 1; omega
  have o1 := h2 (2 * k) (Nat.le_refl _)
  have o2 := h2 (2 * k + 1) (by omega)
  refine ⟨xs.take a, rowN xs s (2 * k), rowN xs s (2 * k + 1), xs.drop (a + 2 * s), hcut, lP, lL, lR, by rw [List.length_drop]; omega, o1.2, o2.2, ?_, ?_⟩
  · intro x hx y hy
    exact rowN_rel hp0 s (show 2 * k < 2 * k + 1 by omega) x (o1.1.mem_iff.1 hx) y (o2.1.mem_iff.1 hy)
  · intro M p1 p2
    have lM : M.length = s + min s (xs.length - a - s) := by rw [p1.length_eq, List.length_append, lL, lR]
    have pM : M.Perm (rowN xs0 (2 * s) k) := by
      rw [rowN_two]
      exact p1.trans (o1.1.append o2.1)
    have lS : (xs.drop (a + 2 * s)).length = xs.length - (a + 2 * s) := List.length_drop
    have hl : (xs.take a ++ M ++ xs.drop (a + 2 * s)).length = xs0.length := by
      rw [List.length_append, List.length_append, lP, lM, lS, ← h3]; omega
    have hcut2 : xs = xs.take a ++ (rowN xs s (2 * k) ++ rowN xs s (2 * k + 1)) ++ xs.drop (a + 2 * s) := by rw [← List.append_assoc]; exact hcut
    have before : ∀ j, j < k → Okr T xs0 (xs.take a ++ M ++ xs.drop (a + 2 * s)) (2 * s) j := fun j hj => by
      have := h1 j hj
      rw [hcut2] at this
      refine this.keep_before ?_
      rw [lP, h4]
      have : (j + 1) * (2 * s) ≤ k * (2 * s) := Nat.mul_le_mul_right _ hj
      rw [Nat.add_mul, Nat.one_mul] at this
      exact this
    constructor
    · intro hb
      refine ⟨fun j hj => ?_, fun j hj => ?_, hl, by rw [h4, Nat.add_mul, Nat.one_mul]⟩
      · by_cases hjk : j < k
        · exact before j hjk
        · have e : j = k := by omega
          subst e
          exact okr_at (by rw [lP]; exact h4) (.inl (by rw [lM]; omega)) pM p2
      · have := h2 j (by omega)
        rw [hcut2] at this
        refine this.keep_behind ?_ (by rw [lM, List.length_append, lL, lR])
        rw [lP, List.length_append, lL, lR]
        have h5 : (2 * (k + 1)) * s ≤ j * s := Nat.mul_le_mul_right s hj
        have h6 : 2 * (k + 1) * s = 2 * k * s + 2 * s := by rw [Nat.mul_add, Nat.add_mul]
        omega
    · intro hb j
      by_cases hjk : j < k
      · exact before j hjk
      · by_cases e : j = k
        · subst e
          exact okr_at (by rw [lP]; exact h4) (.inr ⟨List.drop_eq_nil_of_le hb, by rw [lM]; omega⟩) pM p2
        · refine okr_none hl ?_
          have : (k + 1) * (2 * s) ≤ j * (2 * s) := Nat.mul_le_mul_right _ (by omega)
          rw [Nat.add_mul, Nat.one_mul] at this
          rw [hl, ← h3]
          omega
theorem st3_stop {xs0 xs : List α} {s k a : Nat} (h : St3 T xs0 xs s k a) (h0 : xs.length ≤ a + s) : ∀ j, Okr T xs0 xs (2 * s) j := by
  obtain ⟨h1, h2, h3, h4⟩ := h
  intro j
  have e2 := two_mul_row k s
  by_cases hjk : j < k
  · exact h1 j hjk
  · by_cases e : j = k
    · subst e
      refine okr_one h3 ?_ (h2 _ (Nat.le_refl _))
      rw [Nat.add_mul, Nat.one_mul]; omega
    · refine okr_none h3 ?_
      have : (k + 1) * (2 * s) ≤ j * (2 * s) := Nat.mul_le_mul_right _ (by omega)
      rw [Nat.add_mul, Nat.one_mul] at this
      omega
end

end Go.Proofs.Ytmpfkmbfbeejhaa
