/- Plain: the laws of means and medians that FnStatistics asks. -/
import Derived.Test.YtcclfmapbgdpdaaGreatDoorGapL
import Derived.Test.YtcclfmapbgdpdaaGreatDoorMedOf
namespace Go.Proofs.YtcclfmapbgdpdaaGreatDoor
set_option linter.unusedVariables false

theorem near_ge {a b lo : Int} (hb : 0 < b) (h : lo * b ≤ a) : lo ≤ nearZ a b := by
  have := near_mono hb h
  rwa [near_whole _ _ hb] at this
theorem near_le {a b hi : Int} (hb : 0 < b) (h : a ≤ hi * b) : nearZ a b ≤ hi := by
  have := near_mono hb h
  rwa [near_whole _ _ hb] at this
theorem mean_between {xs : List Int} {lo hi : Int} (hn : 1 ≤ xs.length) (h : ∀ x ∈ xs, lo ≤ x ∧ x ≤ hi) : lo ≤ meanZ xs ∧ meanZ xs ≤ hi := by
  have := sumZ_bd lo hi xs h
  exact ⟨near_ge (by omega) this.1, near_le (by omega) this.2⟩

theorem cnt_lt {ys : List Int} {t : Nat} {m y : Int} (hr : ys.Pairwise (· ≤ ·)) (hy : ys[t]? = some y) (hm : m ≤ y) : ys.countP (fun x => decide (x < m)) ≤ t := by
  obtain ⟨ht, hty⟩ := List.getElem?_eq_some_iff.1 hy
  have e : ys.countP (fun x => decide (x < m)) = (ys.take t).countP (fun x => decide (x < m)) + (ys.drop t).countP (fun x => decide (x < m)) := by
    rw [← List.countP_append, List.take_append_drop]
  have h1 : (ys.take t).countP (fun x => decide (x < m)) ≤ t := Nat.le_trans List.countP_le_length (by simp; omega)
  have h2 : (ys.drop t).countP (fun x => decide (x < m)) = 0 := by
    rw [List.countP_eq_zero]
    intro x hx
    obtain ⟨k, hk⟩ := List.mem_iff_getElem?.1 hx
    rw [List.getElem?_drop] at hk
    obtain ⟨hk1, hk2⟩ := List.getElem?_eq_some_iff.1 hk
    rw [decide_eq_true_eq]
    by_cases h0 : k = 0
    · subst h0
      simp only [Nat.add_zero] at hk2
      omega
    · have := List.pairwise_iff_getElem.1 hr t (t + k) ht hk1 (by omega)
      omega
  omega
theorem cnt_gt {ys : List Int} {s : Nat} {m y : Int} (hr : ys.Pairwise (· ≤ ·)) (hy : ys[s]? = some y) (hm : y ≤ m) : ys.countP (fun x => decide (m < x)) + s + 1 ≤ ys.length := by
  obtain ⟨hs, hsy⟩ := List.getElem?_eq_some_iff.1 hy
  have e : ys.countP (fun x => decide (m < x)) = (ys.take (s + 1)).countP (fun x => decide (m < x)) + (ys.drop (s + 1)).countP (fun x => decide (m < x)) := by
    rw [← List.countP_append, List.take_append_drop]
  have h1 : (ys.drop (s + 1)).countP (fun x => decide (m < x)) ≤ ys.length - (s + 1) := Nat.le_trans List.countP_le_length (by simp)
  have h2 : (ys.take (s + 1)).countP (fun x => decide (m < x)) = 0 := by
    rw [List.countP_eq_zero]
    intro x hx
    obtain ⟨k, hk⟩ := List.mem_iff_getElem?.1 hx
    rw [List.getElem?_take] at hk
    split at hk
    · next hks =>
      obtain ⟨hk1, hk2⟩ := List.getElem?_eq_some_iff.1 hk
      rw [decide_eq_true_eq]
      by_cases h0 : k = s
      · subst h0; omega
      · have := List.pairwise_iff_getElem.1 hr k s hk1 hs (by omega)
        omega
    · cases hk
  omega
/-- The median lies between, and at most half are below, above it. -/
theorem med_between {xs : List Int} {lo hi : Int} (hn : 1 ≤ xs.length) (h : ∀ x ∈ xs, lo ≤ x ∧ x ≤ hi) :
    lo ≤ medZ xs ∧ medZ xs ≤ hi ∧ 2 * xs.countP (fun x => decide (x < medZ xs)) ≤ xs.length ∧ 2 * xs.countP (fun x => decide (medZ xs < x)) ≤ xs.length := by
  have hl := sortZ_len xs
  have hr := sortZ_rise xs
  have hp := sortZ_perm xs
  have hmem : ∀ x ∈ sortZ xs, lo ≤ x ∧ x ≤ hi := fun x hx => h x (sortZ_mem.1 hx)
  rw [← hp.countP_eq (fun x => decide (x < medZ xs)), ← hp.countP_eq (fun x => decide (medZ xs < x))]
  unfold medZ
  generalize sortZ xs = ys at *
  generalize xs.length = n at *
  clear hp h
  obtain ⟨y, hy⟩ : ∃ y, ys[n / 2]? = some y := ⟨_, List.getElem?_eq_getElem (by omega)⟩
  have by1 := hmem y (List.mem_of_getElem? hy)
  rw [getD_at hy]
  by_cases ho : n % 2 = 1
  · rw [if_pos ho]
    have c1 := cnt_lt hr hy (Int.le_refl y)
    have c2 := cnt_gt hr hy (Int.le_refl y)
    exact ⟨by1.1, by1.2, by omega, by omega⟩
  · rw [if_neg ho]
    obtain ⟨x, hx⟩ : ∃ x, ys[n / 2 - 1]? = some x := ⟨_, List.getElem?_eq_getElem (by omega)⟩
    have bx := hmem x (List.mem_of_getElem? hx)
    rw [getD_at hx]
    have hxy : x ≤ y := by
      obtain ⟨p1, p2⟩ := List.getElem?_eq_some_iff.1 hx
      obtain ⟨q1, q2⟩ := List.getElem?_eq_some_iff.1 hy
      have := List.pairwise_iff_getElem.1 hr (n / 2 - 1) (n / 2) p1 q1 (by omega)
      omega
    have m1 := near_ge (a := x + y) (b := 2) (lo := x) (by decide) (by omega)
    have m2 := near_le (a := x + y) (b := 2) (hi := y) (by decide) (by omega)
    have c1 := cnt_lt hr hy m2
    have c2 := cnt_gt hr hx m1
    exact ⟨by omega, by omega, by omega, by omega⟩

theorem movL_at (xs : List Int) (W : Nat) : ∀ K i, i < K → (movL xs W K)[i]? = some (meanZ ((xs.drop i).take W))
  | 0, i, h => absurd h (Nat.not_lt_zero _)
  | K + 1, i, h => by
    rw [movL]
    by_cases hi : i < K
    · rw [List.getElem?_append_left (by rw [movL_len]; exact hi)]
      exact movL_at xs W K i hi
    · obtain rfl : i = K := by omega
      rw [List.getElem?_append_right (by rw [movL_len]; exact Nat.le_refl _), movL_len, Nat.sub_self]
      rfl
/-- Moving means: their number, and each is the mean of its part. -/
theorem mov_law {xs : List Int} {wide : Int} (h : movC xs wide = 0) :
    ∃ W : Nat, wide = (W : Int) ∧ 1 ≤ W ∧ W ≤ xs.length ∧ (movV xs wide).length + W = xs.length + 1 ∧ ∀ i, i < (movV xs wide).length → ∃ y, (movV xs wide)[i]? = some y ∧ okCode ((xs.drop i).take W) = 0 ∧ meanV ((xs.drop i).take W) = y := by
  rcases kept_cases xs (withinB wide 1 xs.length) with ⟨_, e⟩ | ⟨_, _, e⟩ | ⟨ho, hw, _⟩
  · unfold movC at h; rw [e] at h; exact absurd h (by decide)
  · unfold movC at h; rw [e] at h; exact absurd h (by decide)
  have hb := withinB_iff.1 hw
  obtain ⟨W, rfl⟩ : ∃ W : Nat, wide = (W : Int) := ⟨wide.toNat, by omega⟩
  have hv : movV xs W = movL xs W (xs.length + 1 - W) := by
    unfold movV
    have e : keptC xs (withinB (W : Int) 1 xs.length) = 0 := h
    rw [if_pos e, Int.toNat_natCast]
  refine ⟨W, rfl, by omega, by omega, by rw [hv, movL_len]; omega, ?_⟩
  intro i hi
  rw [hv, movL_len] at hi
  refine ⟨meanZ ((xs.drop i).take W), by rw [hv, movL_at _ _ _ _ hi], ?_⟩
  have hs : okSer ((xs.drop i).take W) = true := by
    unfold okSer at ho ⊢
    rw [Bool.and_eq_true, Bool.and_eq_true] at ho
    have h60 := of_decide_eq_true ho.1.2
    have hlen : ((xs.drop i).take W).length = W := by simp; omega
    rw [hlen, decide_eq_true (by omega), decide_eq_true (by omega), Bool.true_and, Bool.true_and, List.all_eq_true]
    intro x hx
    exact List.all_eq_true.1 ho.2 x (List.mem_of_mem_drop (List.mem_of_mem_take hx))
  unfold okCode meanV
  rw [hs]
  exact ⟨rfl, rfl⟩

end Go.Proofs.YtcclfmapbgdpdaaGreatDoor
