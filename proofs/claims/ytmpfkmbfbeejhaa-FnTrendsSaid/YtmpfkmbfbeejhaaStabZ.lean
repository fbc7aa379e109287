/- Plain: rows of a list, each in order; insertion into a row keeps what stands first. -/
import Derived.Test.YtmpfkmbfbeejhaaSymM
import Derived.Sort.LotA
namespace Go.Proofs.Ytmpfkmbfbeejhaa
open Go.Sort
set_option linter.unusedVariables false
section
variable {α : Type}

/-- A strict order of all elements. -/
structure Tot (T : α → α → Prop) : Prop where
  irrefl : ∀ x, ¬ T x x
  trans : ∀ x y z, T x y → T y z → T x z
  total : ∀ x y, x ≠ y → T x y ∨ T y x

open Classical in
noncomputable def ltT (T : α → α → Prop) (x y : α) : Bool := decide (T x y)
theorem ltT_true {T : α → α → Prop} {x y : α} : ltT T x y = true ↔ T x y := by unfold ltT; exact @decide_eq_true_iff _ (Classical.propDecidable _)
theorem ltT_false {T : α → α → Prop} {x y : α} : ltT T x y = false ↔ ¬ T x y := by unfold ltT; exact @decide_eq_false_iff_not _ (Classical.propDecidable _)
theorem Tot.swo {T : α → α → Prop} (h : Tot T) : SWO (ltT T) where
  irrefl x := ltT_false.2 (h.irrefl x)
  trans x y z a b := ltT_true.2 (h.trans x y z (ltT_true.1 a) (ltT_true.1 b))
  ntrans x y z a b := ltT_false.2 fun c => by
    have a := ltT_false.1 a
    have b := ltT_false.1 b
    by_cases e1 : x = y
    · subst e1; exact b c
    · by_cases e2 : y = z
      · subst e2; exact a c
      · have a1 : T y x := (h.total x y e1).resolve_left a
        have b1 : T z y := (h.total y z e2).resolve_left b
        exact h.irrefl x (h.trans _ _ _ c (h.trans _ _ _ b1 a1))

theorem insInner_perm [Inhabited α] (lt : α → α → Bool) (a b : Nat) : ∀ (j : Nat) (d : Array α), a ≤ j → j < b → b ≤ d.size → PermIn a b d (insInner lt a j d)
  | 0, d, _, _, _ => by unfold insInner; exact permIn_refl d a b
  | j + 1, d, haj, hjb, hb => by
    unfold insInner
    split
    · rename_i hc
      simp only [Bool.and_eq_true, decide_eq_true_eq] at hc
      exact permIn_trans _ _ _ a b (swp_permIn d a b (j + 1) j haj hjb (by omega) (by omega) hb) (insInner_perm lt a b j (swp d (j + 1) j) (by omega) (by omega) (by rw [swp_size]; exact hb))
    · exact permIn_refl d a b
theorem insInner_agree [Inhabited α] {lt lt' : α → α → Bool} {E : α → α → Prop} (hag : ∀ x y, E y x → lt x y = lt' x y) (a : Nat) : ∀ (j : Nat) (d : Array α), j < d.size → (∀ k, a ≤ k → k < j → E d[k]! d[j]!) → insInner lt a j d = insInner lt' a j d
  | 0, d, _, _ => by unfold insInner; rfl
  | j + 1, d, hj, hE => by
    unfold insInner
    by_cases h : j + 1 > a
    · rw [hag _ _ (hE j (by omega) (by omega))]
      split
      · have g := swp_get d hj (show j < d.size by omega)
        refine insInner_agree hag a j (swp d (j + 1) j) (by rw [swp_size]; omega) fun k h1 h2 => ?_
        rw [g, g, if_neg (by omega), if_neg (by omega), if_pos rfl]
        exact hE k h1 (by omega)
      · rfl
    · simp [h]
theorem insOuter_agree [Inhabited α] {lt lt' : α → α → Bool} {E : α → α → Prop} (hag : ∀ x y, E y x → lt x y = lt' x y) (a b : Nat) : ∀ (n i : Nat) (d : Array α), b - i = n → a < i → b ≤ d.size → (∀ m, i ≤ m → m < b → ∀ k, a ≤ k → k < m → E d[k]! d[m]!) → insOuter lt a b i d = insOuter lt' a b i d
  | 0, i, d, hn, hai, hb, hE => by
    rw [insOuter, if_neg (by omega), insOuter, if_neg (by omega)]
  | n + 1, i, d, hn, hai, hb, hE => by
    have hlt : i < b := by omega
    have u1 : insOuter lt a b i d = insOuter lt a b (i + 1) (insInner lt a i d) := by rw [insOuter, if_pos hlt]
    have u2 : insOuter lt' a b i d = insOuter lt' a b (i + 1) (insInner lt' a i d) := by rw [insOuter, if_pos hlt]
    rw [u1, u2, insInner_agree hag a i d (by omega) (hE i (Nat.le_refl _) hlt)]
    have hp := insInner_perm lt' a (i + 1) i d (by omega) (by omega) (by omega)
    refine insOuter_agree hag a b n (i + 1) _ (by omega) (by omega) (by rw [hp.1]; exact hb) fun m h1 h2 k h3 h4 => ?_
    rw [hp.2.1 m (Or.inr h1)]
    by_cases hk : i + 1 ≤ k
    · rw [hp.2.1 k (Or.inr hk)]; exact hE m (by omega) h2 k h3 h4
    · exact permIn_all d _ a (i + 1) (fun x => E x d[m]!) (by omega) hp (fun q q1 q2 => hE m (by omega) h2 q q1 (by omega)) k h3 (by omega)
theorem insertionSort_agree [Inhabited α] {lt lt' : α → α → Bool} {E : α → α → Prop} (hag : ∀ x y, E y x → lt x y = lt' x y) (a b : Nat) (d : Array α) (hb : b ≤ d.size) (hE : ∀ m, m < b → ∀ k, a ≤ k → k < m → E d[k]! d[m]!) : insertionSort lt d a b = insertionSort lt' d a b := by
  unfold insertionSort
  exact insOuter_agree hag a b _ (a + 1) d rfl (by omega) hb fun m h1 h2 => hE m h2

theorem get_list [Inhabited α] {d : Array α} {xs : List α} (h : d.toList = xs) {k : Nat} (hk : k < xs.length) : d[k]! = xs[k] := by
  subst h
  rw [getElem!_pos d k (by simpa using hk)]
  simp
/-- What insertion leaves of a row. -/
theorem ins_row [Inhabited α] {cf : α → α → Int} {T E : α → α → Prop} (hT : Tot T) (hE0 : ∀ x, ¬ E x x) (yes : ∀ x y, E y x → cf x y < 0 → T x y) (no : ∀ x y, E y x → ¬ cf x y < 0 → T y x)
    {d : Array α} {P X S : List α} (hd : d.toList = P ++ X ++ S) (hX : X.Pairwise E) {a b : Nat} (ha : a = P.length) (hb : b = a + X.length) :
    ∃ M, (insertionSort (ltOf cf) d a b).toList = P ++ M ++ S ∧ M.Perm X ∧ M.Pairwise T ∧ (insertionSort (ltOf cf) d a b).size = d.size := by
  have hl : d.size = P.length + X.length + S.length := by rw [← Array.length_toList, hd]; simp; omega
  have hag : ∀ x y, E y x → ltOf cf x y = ltT T x y := fun x y h => by
    unfold ltOf
    by_cases hc : cf x y < 0
    · rw [decide_eq_true hc, ltT_true.2 (yes x y h hc)]
    · rw [decide_eq_false hc, ltT_false.2]
      intro ht
      exact hT.irrefl _ (hT.trans _ _ _ ht (no x y h hc))
  have at_X : ∀ k (h1 : a ≤ k) (h2 : k < b), d[k]! = X[k - a]'(by omega) := fun k h1 h2 => by
    rw [get_list hd (by simp; omega)]
    rw [List.getElem_append_left (by simp; omega), List.getElem_append_right (by omega)]
    simp only [ha]
  rw [insertionSort_agree hag a b d (by omega) fun m h1 k h2 h3 => by
    rw [at_X k h2 (by omega), at_X m (by omega) h1]
    exact List.pairwise_iff_getElem.1 hX _ _ _ _ (by omega)]
  obtain ⟨⟨h1, h2, h3⟩, h4⟩ := insertionSort_holds hT.swo d a b (by omega) (by omega)
  generalize insertionSort (ltT T) d a b = d' at h1 h2 h3 h4
  rw [Array.toList_extract, Array.toList_extract] at h3
  simp only [List.extract_eq_take_drop] at h3
  have hXe : (d.toList.drop a).take (b - a) = X := by
    rw [hd, List.append_assoc, List.drop_left' ha.symm, List.take_left' (by omega)]
  rw [hXe] at h3
  have hl' : d'.toList.length = P.length + X.length + S.length := by rw [Array.length_toList]; omega
  refine ⟨(d'.toList.drop a).take (b - a), ?_, h3, ?_, h1⟩
  · have e1 : d'.toList.take a = P := by
      refine List.ext_getElem (by simp; omega) fun k k1 k2 => ?_
      rw [List.getElem_take]
      have := h2 k (Or.inl (by omega))
      rw [get_list rfl (by omega), get_list hd (by simp; omega)] at this
      rw [this]
      simp only [List.append_assoc]
      rw [List.getElem_append_left (by omega)]
    have e2 : d'.toList.drop b = S := by
      refine List.ext_getElem (by simp; omega) fun k k1 k2 => ?_
      rw [List.getElem_drop]
      have := h2 (b + k) (Or.inr (by omega))
      rw [get_list rfl (by omega), get_list hd (by simp; omega)] at this
      rw [this, List.getElem_append_right (by simp; omega)]
      congr 1
      simp; omega
    conv => lhs; rw [← List.take_append_drop a d'.toList, ← List.take_append_drop (b - a) (d'.toList.drop a), List.drop_drop]
    rw [show a + (b - a) = b by omega, e1, e2, List.append_assoc]
  · have hnd : X.Nodup := hX.imp fun h e => by subst e; exact hE0 _ h
    have hnd2 := h3.symm.nodup hnd
    rw [List.pairwise_iff_getElem]
    intro i j hi hj hij
    have hi2 := hi
    have hj2 := hj
    simp only [List.length_take, List.length_drop] at hi2 hj2
    have := ltT_false.1 (h4 (a + i) (a + j) (by omega) (by omega) (by omega))
    rw [get_list rfl (by omega), get_list rfl (by omega)] at this
    have ne : ((d'.toList.drop a).take (b - a))[i] ≠ ((d'.toList.drop a).take (b - a))[j] := fun e => by
      exact List.pairwise_iff_getElem.1 hnd2 i j hi hj hij e
    rw [List.getElem_take, List.getElem_drop, List.getElem_take, List.getElem_drop] at ne ⊢
    exact (hT.total _ _ ne).resolve_right this
end

/-! ### rows of one length -/
section
variable {α : Type}
def rowN (xs : List α) (s k : Nat) : List α := (xs.drop (k * s)).take s
/-- The row holds the same as at first, in order. -/
def Okr (T : α → α → Prop) (xs0 xs : List α) (s k : Nat) : Prop := (rowN xs s k).Perm (rowN xs0 s k) ∧ (rowN xs s k).Pairwise T
theorem rowN_len (xs : List α) (s k : Nat) : (rowN xs s k).length = min s (xs.length - k * s) := by unfold rowN; simp
/-- A list cut at a row. -/
theorem rowN_cut (xs : List α) (s k : Nat) : xs = xs.take (k * s) ++ rowN xs s k ++ xs.drop (k * s + s) := by
  unfold rowN
  conv => lhs; rw [← List.take_append_drop (k * s) xs, ← List.take_append_drop s (xs.drop (k * s)), List.drop_drop]
  rw [List.append_assoc]
theorem rowN_before {P Y Z : List α} {s j : Nat} (h : j * s + s ≤ P.length) : rowN (P ++ Y) s j = rowN (P ++ Z) s j := by
  unfold rowN
  rw [List.drop_append_of_le_length (by omega), List.drop_append_of_le_length (by omega), List.take_append_of_le_length (by simp; omega), List.take_append_of_le_length (by simp; omega)]
theorem rowN_behind {P X M S : List α} {s j : Nat} (h : P.length + X.length ≤ j * s) (hl : M.length = X.length) : rowN (P ++ M ++ S) s j = rowN (P ++ X ++ S) s j := by
  unfold rowN
  have e1 : (P ++ M).drop (j * s) = [] := List.drop_eq_nil_of_le (by rw [List.length_append]; omega)
  have e2 : (P ++ X).drop (j * s) = [] := List.drop_eq_nil_of_le (by rw [List.length_append]; omega)
  rw [List.drop_append (l₁ := P ++ M), List.drop_append (l₁ := P ++ X), e1, e2, List.length_append, List.length_append, hl]
theorem rowN_at {P M S : List α} {s k : Nat} (hP : P.length = k * s) (hM : M.length = s ∨ S = [] ∧ M.length ≤ s) : rowN (P ++ M ++ S) s k = M := by
  unfold rowN
  rw [List.append_assoc, List.drop_left' hP]
  rcases hM with h | ⟨rfl, h⟩
  · exact List.take_left' h
  · rw [List.append_nil]; exact List.take_of_length_le h
theorem rowN_two (xs : List α) (s k : Nat) : rowN xs (2 * s) k = rowN xs s (2 * k) ++ rowN xs s (2 * k + 1) := by
  unfold rowN
  have e : k * (2 * s) = 2 * k * s := by rw [← Nat.mul_assoc, Nat.mul_comm k 2]
  have e2 : (2 * k + 1) * s = 2 * k * s + s := by rw [Nat.add_mul, Nat.one_mul]
  rw [e, e2, ← List.drop_drop, show 2 * s = s + s by omega, List.take_add]
theorem rowN_none {xs : List α} {s k : Nat} (h : xs.length ≤ k * s) : rowN xs s k = [] := by
  unfold rowN; rw [List.drop_eq_nil_of_le h, List.take_nil]
theorem rowN_whole {xs : List α} {s : Nat} (h : xs.length ≤ s) : rowN xs s 0 = xs := by
  unfold rowN; rw [Nat.zero_mul, List.drop_zero, List.take_of_length_le h]
theorem rowN_rel {E : α → α → Prop} {xs : List α} (h : xs.Pairwise E) (s : Nat) {i j : Nat} (hij : i < j) : ∀ x ∈ rowN xs s i, ∀ y ∈ rowN xs s j, E x y := by
  intro x hx y hy
  unfold rowN at hx hy
  obtain ⟨p, hp, rfl⟩ := List.getElem_of_mem hx
  obtain ⟨q, hq, rfl⟩ := List.getElem_of_mem hy
  simp only [List.length_take, List.length_drop] at hp hq
  rw [List.getElem_take, List.getElem_drop, List.getElem_take, List.getElem_drop]
  refine List.pairwise_iff_getElem.1 h _ _ _ _ ?_
  have : (i + 1) * s ≤ j * s := Nat.mul_le_mul_right s hij
  rw [Nat.add_mul, Nat.one_mul] at this
  omega
theorem rowN_sub {E : α → α → Prop} {xs : List α} (h : xs.Pairwise E) (s k : Nat) : (rowN xs s k).Pairwise E :=
  h.sublist ((List.take_sublist _ _).trans (List.drop_sublist _ _))
/-- Rows before a place that changes stay. -/
theorem Okr.keep_before {T : α → α → Prop} {xs0 P X M S : List α} {s j : Nat} (h : Okr T xs0 (P ++ X ++ S) s j) (hj : j * s + s ≤ P.length) : Okr T xs0 (P ++ M ++ S) s j := by
  unfold Okr at *
  rw [List.append_assoc, rowN_before (Z := X ++ S) hj, ← List.append_assoc]; exact h
theorem Okr.keep_behind {T : α → α → Prop} {xs0 P X M S : List α} {s j : Nat} (h : Okr T xs0 (P ++ X ++ S) s j) (hj : P.length + X.length ≤ j * s) (hl : M.length = X.length) : Okr T xs0 (P ++ M ++ S) s j := by
  unfold Okr at *
  rw [rowN_behind hj hl]; exact h
theorem okr_at {T : α → α → Prop} {xs0 P M S : List α} {s k : Nat} (hP : P.length = k * s) (hM : M.length = s ∨ S = [] ∧ M.length ≤ s) (hp : M.Perm (rowN xs0 s k)) (hs : M.Pairwise T) : Okr T xs0 (P ++ M ++ S) s k := by
  unfold Okr
  rw [rowN_at hP hM]; exact ⟨hp, hs⟩
theorem okr_none {T : α → α → Prop} {xs0 xs : List α} {s k : Nat} (hl : xs.length = xs0.length) (h : xs.length ≤ k * s) : Okr T xs0 xs s k := by
  unfold Okr
  rw [rowN_none h, rowN_none (by omega)]; exact ⟨.nil, .nil⟩
theorem okr_one {T : α → α → Prop} {xs0 xs : List α} {s k : Nat} (hl : xs.length = xs0.length) (h : xs.length ≤ (2 * k + 1) * s) (ho : Okr T xs0 xs s (2 * k)) : Okr T xs0 xs (2 * s) k := by
  unfold Okr at *
  rw [rowN_two, rowN_two, rowN_none h, rowN_none (k := 2 * k + 1) (by omega), List.append_nil, List.append_nil]; exact ho
theorem okr_whole {T : α → α → Prop} {xs0 xs : List α} {s : Nat} (hl : xs.length = xs0.length) (h : xs.length ≤ s) (ho : Okr T xs0 xs s 0) : xs.Perm xs0 ∧ xs.Pairwise T := by
  unfold Okr at ho
  rwa [rowN_whole h, rowN_whole (by omega)] at ho
end

end Go.Proofs.Ytmpfkmbfbeejhaa
