/- Plain words on valid states: they are sorted by name; looking a name up. No program in sight. -/
import Derived.Test.YtmcdafaadodekaaState
namespace Go.Proofs.Ytmcdafaadodekaa
open Go.RowKit
set_option linter.unusedVariables false

def SortedZ (ss : List SetZ) : Prop := ∀ (i j : Nat) (a b : SetZ), i < j → ss[i]? = some a → ss[j]? = some b → strLess a.name b.name = true
def hasZ (ss : List SetZ) (nm : ByteArray) : Bool := ss.any (fun s => decide (s.name = nm))
def getZ (ss : List SetZ) (nm : ByteArray) : Option SetZ := ss.find? (fun s => decide (s.name = nm))
def valZ (ss : List SetZ) (nm : ByteArray) : Int := match getZ ss nm with | some s => s.value | none => -1
/-- The place at which a name stands, or would. -/
def IsIdx (ss : List SetZ) (nm : ByteArray) (i : Nat) : Prop := i ≤ ss.length ∧ (∀ (k : Nat) (s : SetZ), ss[k]? = some s → k < i → strLess s.name nm = true) ∧ ∀ (k : Nat) (s : SetZ), ss[k]? = some s → i ≤ k → strLess s.name nm = false

theorem state_step {ss : List SetZ} (h : stateB ss = true) (k : Nat) (hk : k < ss.length) : stepB ss k = true := by
  unfold stateB at h
  rw [Bool.and_eq_true, List.all_eq_true] at h
  exact h.1 k (by simpa using hk)
theorem state_len {ss : List SetZ} (h : stateB ss = true) : ss.length ≤ 24 := by
  unfold stateB at h
  rw [Bool.and_eq_true] at h
  simpa using h.2
theorem state_set {ss : List SetZ} (h : stateB ss = true) {k : Nat} {s : SetZ} (hs : ss[k]? = some s) : setB s.name s.value = true := by
  have h1 := state_step h k (List.getElem?_eq_some_iff.1 hs).1
  unfold stepB at h1
  rw [hs, Bool.and_eq_true] at h1
  exact h1.1
theorem state_mem {ss : List SetZ} (h : stateB ss = true) {s : SetZ} (hs : s ∈ ss) : setB s.name s.value = true := by
  obtain ⟨k, hk⟩ := List.mem_iff_getElem?.1 hs
  exact state_set h hk
theorem set_val {s : ByteArray} {v : Int} (h : setB s v = true) : 0 ≤ v ∧ v ≤ 1000 := by
  unfold setB at h
  rw [Bool.and_eq_true] at h
  exact withinB_iff.1 h.2
theorem state_adj {ss : List SetZ} (h : stateB ss = true) {k : Nat} {a b : SetZ} (ha : ss[k]? = some a) (hb : ss[k + 1]? = some b) : strLess a.name b.name = true := by
  have h1 := state_step h (k + 1) (List.getElem?_eq_some_iff.1 hb).1
  unfold stepB at h1
  rw [hb, Bool.and_eq_true] at h1
  have h2 := h1.2
  have e1 : (k + 1 == 0) = false := by simp
  rw [show k + 1 - 1 = k by omega, ha, e1] at h2
  simpa using h2
theorem state_sorted {ss : List SetZ} (h : stateB ss = true) : SortedZ ss := by
  intro i j a b hij ha hb
  induction j generalizing b with
  | zero => omega
  | succ j ih =>
    have hj := (List.getElem?_eq_some_iff.1 hb).1
    rcases Nat.lt_or_ge i j with h1 | h1
    · have hc := List.getElem?_eq_getElem (l := ss) (i := j) (by omega)
      exact strLess_trans (ih _ h1 hc) (state_adj h hc hb)
    · obtain rfl : i = j := by omega
      exact state_adj h ha hb
theorem sorted_uniq {ss : List SetZ} (h : SortedZ ss) {i j : Nat} {a b : SetZ} (ha : ss[i]? = some a) (hb : ss[j]? = some b) (he : a.name = b.name) : i = j := by
  rcases Nat.lt_trichotomy i j with h1 | h1 | h1
  · have := h i j a b h1 ha hb
    rw [he, strLess_irrefl] at this
    cases this
  · exact h1
  · have := h j i b a h1 hb ha
    rw [he, strLess_irrefl] at this
    cases this
theorem getZ_at {ss : List SetZ} (h : SortedZ ss) {i : Nat} {s : SetZ} (hs : ss[i]? = some s) : getZ ss s.name = some s := by
  unfold getZ
  rcases hq : ss.find? (fun t => decide (t.name = s.name)) with _ | t
  · rw [List.find?_eq_none] at hq
    have := hq s (List.mem_of_getElem? hs)
    simp at this
  · have h1 := List.find?_some hq
    obtain ⟨j, hj⟩ := List.mem_iff_getElem?.1 (List.mem_of_find?_eq_some hq)
    have h2 := sorted_uniq h hj hs (by simpa using h1)
    subst h2
    exact hq.trans (hj.symm.trans hs)
theorem getZ_name {ss : List SetZ} {nm : ByteArray} {s : SetZ} (h : getZ ss nm = some s) : s.name = nm ∧ s ∈ ss := by
  unfold getZ at h
  have := List.find?_some h
  exact ⟨by simpa using this, List.mem_of_find?_eq_some h⟩
theorem getZ_none {ss : List SetZ} {nm : ByteArray} : getZ ss nm = none ↔ hasZ ss nm = false := by
  unfold getZ hasZ
  rw [List.find?_eq_none, List.any_eq_false]
theorem hasZ_iff {ss : List SetZ} {nm : ByteArray} : hasZ ss nm = true ↔ ∃ s ∈ ss, s.name = nm := by
  unfold hasZ
  simp
/-- What stands at the place of a name. -/
theorem idx_get {ss : List SetZ} {nm : ByteArray} {i : Nat} (h : IsIdx ss nm i) (hs : SortedZ ss) : getZ ss nm = match ss[i]? with | some s => if s.name = nm then some s else none | none => none := by
  rcases hi : ss[i]? with _ | s
  · simp only
    rw [getZ_none, ← Bool.not_eq_true, hasZ_iff]
    rintro ⟨t, ht, rfl⟩
    obtain ⟨k, hk⟩ := List.mem_iff_getElem?.1 ht
    have h1 := (List.getElem?_eq_some_iff.1 hk).1
    have h2 := List.getElem?_eq_none_iff.1 hi
    have := h.2.1 k t hk (by omega)
    rw [strLess_irrefl] at this
    cases this
  · simp only
    split
    · rename_i he
      subst he
      exact getZ_at hs hi
    · rename_i he
      rw [getZ_none, ← Bool.not_eq_true, hasZ_iff]
      rintro ⟨t, ht, rfl⟩
      obtain ⟨k, hk⟩ := List.mem_iff_getElem?.1 ht
      rcases Nat.lt_trichotomy k i with h1 | h1 | h1
      · have := h.2.1 k t hk h1
        rw [strLess_irrefl] at this
        cases this
      · subst h1
        rw [hk] at hi
        exact he (by rw [Option.some.inj hi])
      · have h2 := hs i k s t h1 hi hk
        have h3 := h.2.2 i s hi (Nat.le_refl _)
        rw [h2] at h3
        cases h3
/-- The binary search's two steps. -/
theorem idx_low {ss : List SetZ} {nm : ByteArray} (hs : SortedZ ss) {h : Nat} {s : SetZ} (hx : ss[h]? = some s) (hl : strLess s.name nm = true) : ∀ k t, ss[k]? = some t → k < h + 1 → strLess t.name nm = true := by
  intro k t hk hlt
  rcases Nat.lt_or_ge k h with h1 | h1
  · exact strLess_trans (hs k h t s h1 hk hx) hl
  · obtain rfl : k = h := by omega
    rw [hk] at hx
    rw [Option.some.inj hx]
    exact hl
theorem idx_high {ss : List SetZ} {nm : ByteArray} (hs : SortedZ ss) {h : Nat} {s : SetZ} (hx : ss[h]? = some s) (hl : strLess s.name nm = false) : ∀ k t, ss[k]? = some t → h ≤ k → strLess t.name nm = false := by
  intro k t hk hle
  rcases Nat.lt_or_ge h k with h1 | h1
  · rcases b_cases (strLess t.name nm) with e | e
    · exact e
    · have := strLess_trans (hs h k s t h1 hx hk) e
      rw [hl] at this
      cases this
  · obtain rfl : k = h := by omega
    rw [hk] at hx
    rw [Option.some.inj hx]
    exact hl
theorem val_has {ss : List SetZ} (h : stateB ss = true) (nm : ByteArray) : decide (valZ ss nm < 0) = !hasZ ss nm := by
  unfold valZ
  rcases hq : getZ ss nm with _ | s
  · rw [getZ_none.1 hq]; rfl
  · have h1 := set_val (state_mem h (getZ_name hq).2)
    have h2 : hasZ ss nm = true := by
      rw [← Bool.not_eq_false, ← getZ_none, hq]
      simp
    rw [h2]
    simp
    omega
theorem val_range {ss : List SetZ} (h : stateB ss = true) (nm : ByteArray) : -1 ≤ valZ ss nm ∧ valZ ss nm ≤ 1000 := by
  unfold valZ
  rcases hq : getZ ss nm with _ | s
  · simp
  · have h1 := set_val (state_mem h (getZ_name hq).2)
    exact ⟨by simp only; omega, h1.2⟩
theorem val_mem {ss : List SetZ} (h : stateB ss = true) {nm : ByteArray} {v : Int} (hv : 0 ≤ v) : valZ ss nm = v ↔ (⟨nm, v⟩ : SetZ) ∈ ss := by
  unfold valZ
  constructor
  · rcases hq : getZ ss nm with _ | s
    · intro h1; simp only at h1; omega
    · intro h1
      obtain ⟨h2, h3⟩ := getZ_name hq
      simp only at h1
      subst h1 h2
      exact h3
  · intro h1
    obtain ⟨k, hk⟩ := List.mem_iff_getElem?.1 h1
    rw [getZ_at (state_sorted h) hk]

end Go.Proofs.Ytmcdafaadodekaa
