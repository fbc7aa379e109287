/- Plain words on the names of states: a state with another setting, all names of three states in order. No program in sight. -/
import Derived.Test.YtmcdafaadodekaaStates
namespace Go.Proofs.Ytmcdafaadodekaa
open Go.RowKit
set_option linter.unusedVariables false

/-- A sorted list with another setting. -/
def setZ : List SetZ → SetZ → List SetZ
  | [], e => [e]
  | s :: ss, e => if strLess e.name s.name = true then e :: s :: ss else if s.name = e.name then e :: ss else s :: setZ ss e
def SortP (ss : List SetZ) : Prop := ss.Pairwise (fun a b => strLess a.name b.name = true)
def SortB (xs : List ByteArray) : Prop := xs.Pairwise (fun a b => strLess a b = true)
theorem sortP_iff {ss : List SetZ} : SortedZ ss ↔ SortP ss := by
  unfold SortP
  rw [List.pairwise_iff_getElem]
  constructor
  · intro h i j hi hj hij
    exact h i j _ _ hij (List.getElem?_eq_getElem hi) (List.getElem?_eq_getElem hj)
  · intro h i j a b hij ha hb
    obtain ⟨hi, rfl⟩ := List.getElem?_eq_some_iff.1 ha
    obtain ⟨hj, rfl⟩ := List.getElem?_eq_some_iff.1 hb
    exact h i j hi hj hij
theorem less_ne {s t : ByteArray} (h : strLess s t = true) : s ≠ t := by rintro rfl; rw [strLess_irrefl] at h; cases h
theorem not_less {s t : ByteArray} (h : strLess s t = false) (hne : s ≠ t) : strLess t s = true := by
  rcases b_cases (strLess t s) with e | e
  · exact absurd (strLess_total h e) hne
  · exact e
theorem set_less {xs : List SetZ} {e : SetZ} (h : ∀ x ∈ xs, strLess x.name e.name = true) : setZ xs e = xs ++ [e] := by
  induction xs with
  | nil => rfl
  | cons s ss ih =>
    have h1 := h s (by simp)
    rw [setZ, if_neg (by rw [strLess_asymm h1]; simp), if_neg (less_ne h1), ih (fun x hx => h x (by simp [hx]))]
    rfl
theorem set_at_more {xs : List SetZ} {e s : SetZ} (h : ∀ x ∈ xs, strLess x.name e.name = true) (hs : strLess e.name s.name = true) : setZ (xs ++ [s]) e = xs ++ [e, s] := by
  induction xs with
  | nil => simp [setZ, hs]
  | cons x ss ih =>
    have h1 := h x (by simp)
    rw [List.cons_append, setZ, if_neg (by rw [strLess_asymm h1]; simp), if_neg (less_ne h1), ih (fun y hy => h y (by simp [hy]))]
    rfl
theorem set_at_same {xs : List SetZ} {e s : SetZ} (h : ∀ x ∈ xs, strLess x.name e.name = true) (hs : s.name = e.name) : setZ (xs ++ [s]) e = xs ++ [e] := by
  induction xs with
  | nil => simp [setZ, hs, strLess_irrefl]
  | cons x ss ih =>
    have h1 := h x (by simp)
    rw [List.cons_append, setZ, if_neg (by rw [strLess_asymm h1]; simp), if_neg (less_ne h1), ih (fun y hy => h y (by simp [hy]))]
    rfl
theorem set_done {xs : List SetZ} {e s : SetZ} (h : ∃ x ∈ xs, strLess x.name e.name = false) : setZ (xs ++ [s]) e = setZ xs e ++ [s] := by
  induction xs with
  | nil => obtain ⟨x, hx, _⟩ := h; simp at hx
  | cons x ss ih =>
    rw [List.cons_append, setZ, setZ]
    split
    · rfl
    · split
      · rfl
      · rename_i h1 h2
        rw [ih ?_]
        · rfl
        · obtain ⟨y, hy, hl⟩ := h
          rcases List.mem_cons.1 hy with rfl | hy
          · exact absurd (not_less hl h2) h1
          · exact ⟨y, hy, hl⟩
theorem mem_setZ {ss : List SetZ} {e x : SetZ} (h : x ∈ setZ ss e) : x = e ∨ x ∈ ss := by
  induction ss with
  | nil => simp [setZ] at h; exact .inl h
  | cons s ss ih =>
    rw [setZ] at h
    split at h
    · simpa using h
    · split at h
      · rcases List.mem_cons.1 h with h | h
        · exact .inl h
        · exact .inr (by simp [h])
      · rcases List.mem_cons.1 h with rfl | h
        · exact .inr (by simp)
        · rcases ih h with h | h
          · exact .inl h
          · exact .inr (by simp [h])
theorem has_setZ {ss : List SetZ} {e : SetZ} {nm : ByteArray} : hasZ (setZ ss e) nm = (decide (e.name = nm) || hasZ ss nm) := by
  induction ss with
  | nil => simp [setZ, hasZ]
  | cons s ss ih =>
    rw [setZ]
    split
    · simp [hasZ]
    · split
      · rename_i h
        simp only [hasZ, List.any_cons]
        rw [h]
        cases decide (e.name = nm) <;> simp
      · simp only [hasZ, List.any_cons] at ih ⊢
        rw [ih]
        cases decide (e.name = nm) <;> cases decide (s.name = nm) <;> simp
theorem sort_setZ {ss : List SetZ} {e : SetZ} (h : SortP ss) : SortP (setZ ss e) := by
  induction ss with
  | nil => simp [setZ, SortP]
  | cons s ss ih =>
    unfold SortP at h ih ⊢
    rw [List.pairwise_cons] at h
    rw [setZ]
    split
    · rename_i h1
      rw [List.pairwise_cons, List.pairwise_cons]
      exact ⟨fun x hx => by
        rcases List.mem_cons.1 hx with rfl | hx
        · exact h1
        · exact strLess_trans h1 (h.1 x hx), h.1, h.2⟩
    · split
      · rename_i h1 h2
        rw [List.pairwise_cons]
        exact ⟨fun x hx => by rw [← h2]; exact h.1 x hx, h.2⟩
      · rename_i h1 h2
        rw [List.pairwise_cons]
        refine ⟨fun x hx => ?_, ih h.2⟩
        rcases mem_setZ hx with rfl | hx
        · exact not_less (by simpa using h1) (fun e => h2 e.symm)
        · exact h.1 x hx
theorem len_setZ (ss : List SetZ) (e : SetZ) : (setZ ss e).length ≤ ss.length + 1 := by
  induction ss with
  | nil => simp [setZ]
  | cons s ss ih =>
    rw [setZ]
    split
    · simp
    · split
      · simp
      · simp; exact ih

/-- All settings, by name, of some lists. -/
def foldZ (all : List SetZ) (xs : List SetZ) : List SetZ := xs.foldl setZ all
def namesZ (base a b : List SetZ) : List ByteArray := (foldZ (foldZ (foldZ [] base) a) b).map SetZ.name
theorem foldZ_snoc {all xs : List SetZ} {k : Nat} {s : SetZ} (h : xs[k]? = some s) : foldZ all (xs.take (k + 1)) = setZ (foldZ all (xs.take k)) s := by
  unfold foldZ; rw [take_snoc h, List.foldl_append]; rfl
theorem foldZ_sort {all xs : List SetZ} (h : SortP all) : SortP (foldZ all xs) := by
  induction xs generalizing all with
  | nil => exact h
  | cons x xs ih => exact ih (sort_setZ h)
theorem foldZ_has {all xs : List SetZ} {nm : ByteArray} : hasZ (foldZ all xs) nm = (hasZ all nm || hasZ xs nm) := by
  induction xs generalizing all with
  | nil => simp [foldZ, hasZ]
  | cons x xs ih =>
    have e : foldZ all (x :: xs) = foldZ (setZ all x) xs := rfl
    rw [e, ih, has_setZ]
    have e2 : hasZ (x :: xs) nm = (decide (x.name = nm) || hasZ xs nm) := by simp [hasZ]
    rw [e2]
    cases decide (x.name = nm) <;> cases hasZ all nm <;> simp
theorem foldZ_len {all xs : List SetZ} : (foldZ all xs).length ≤ all.length + xs.length := by
  induction xs generalizing all with
  | nil => simp [foldZ]
  | cons x xs ih =>
    have e : foldZ all (x :: xs) = foldZ (setZ all x) xs := rfl
    rw [e]
    have h1 := ih (all := setZ all x)
    have h2 := len_setZ all x
    simp only [List.length_cons]
    omega
theorem foldZ_mem {all xs : List SetZ} {s : SetZ} (h : s ∈ foldZ all xs) : s ∈ all ∨ s ∈ xs := by
  induction xs generalizing all with
  | nil => exact .inl h
  | cons x xs ih =>
    have e : foldZ all (x :: xs) = foldZ (setZ all x) xs := rfl
    rw [e] at h
    rcases ih h with h | h
    · rcases mem_setZ h with rfl | h
      · exact .inr (by simp)
      · exact .inl h
    · exact .inr (by simp [h])
theorem namesZ_sort (base a b : List SetZ) : SortB (namesZ base a b) := by
  have h : SortP (foldZ (foldZ (foldZ [] base) a) b) := foldZ_sort (foldZ_sort (foldZ_sort (by simp [SortP])))
  unfold SortB namesZ
  unfold SortP at h
  rw [List.pairwise_map]
  exact h
theorem namesZ_mem {base a b : List SetZ} {nm : ByteArray} : nm ∈ namesZ base a b ↔ hasZ base nm = true ∨ hasZ a nm = true ∨ hasZ b nm = true := by
  have h1 : nm ∈ namesZ base a b ↔ hasZ (foldZ (foldZ (foldZ [] base) a) b) nm = true := by
    rw [hasZ_iff]
    unfold namesZ
    rw [List.mem_map]
  rw [h1, foldZ_has, foldZ_has, foldZ_has]
  simp only [hasZ, List.any_nil, Bool.false_or, Bool.or_eq_true]
  constructor
  · rintro ((h | h) | h)
    · exact .inl h
    · exact .inr (.inl h)
    · exact .inr (.inr h)
  · rintro (h | h | h)
    · exact .inl (.inl h)
    · exact .inl (.inr h)
    · exact .inr h
theorem namesZ_len (base a b : List SetZ) : (namesZ base a b).length ≤ base.length + a.length + b.length := by
  unfold namesZ
  rw [List.length_map]
  have h1 := foldZ_len (all := foldZ (foldZ [] base) a) (xs := b)
  have h2 := foldZ_len (all := foldZ [] base) (xs := a)
  have h3 := foldZ_len (all := []) (xs := base)
  simp only [List.length_nil] at h3
  omega
/-- Two sorted lists of the same strings are one. -/
theorem sortB_ext : ∀ {xs ys : List ByteArray}, SortB xs → SortB ys → (∀ x, x ∈ xs ↔ x ∈ ys) → xs = ys
  | [], [], _, _, _ => rfl
  | [], y :: ys, _, _, h => by have := (h y).2 (by simp); simp at this
  | x :: xs, [], _, _, h => by have := (h x).1 (by simp); simp at this
  | x :: xs, y :: ys, h1, h2, h => by
    unfold SortB at h1 h2
    rw [List.pairwise_cons] at h1 h2
    have hxy : x = y := by
      rcases List.mem_cons.1 ((h x).1 (by simp)) with e | e
      · exact e
      · rcases List.mem_cons.1 ((h y).2 (by simp)) with e' | e'
        · exact e'.symm
        · have := strLess_trans (h1.1 y e') (h2.1 x e)
          rw [strLess_irrefl] at this
          cases this
    subst hxy
    rw [sortB_ext h1.2 h2.2 (fun z => ?_)]
    constructor
    · intro hz
      rcases List.mem_cons.1 ((h z).1 (by simp [hz])) with rfl | e
      · have := h1.1 z hz
        rw [strLess_irrefl] at this
        cases this
      · exact e
    · intro hz
      rcases List.mem_cons.1 ((h z).2 (by simp [hz])) with rfl | e
      · have := h2.1 z hz
        rw [strLess_irrefl] at this
        cases this
      · exact e

/-! ### conflicts and merging -/
/-- Have both states changed a name in different ways? -/
def confB (base a b : List SetZ) (nm : ByteArray) : Bool := decide (valZ a nm ≠ valZ b nm) && decide (valZ a nm ≠ valZ base nm) && decide (valZ b nm ≠ valZ base nm)
def confZ (base a b : List SetZ) : List ByteArray := (namesZ base a b).filter (confB base a b)
/-- The merged value of a name. -/
def mrgV (base a b : List SetZ) (nm : ByteArray) : Int := if valZ a nm = valZ base nm then valZ b nm else valZ a nm
def mrgF (base a b : List SetZ) (nm : ByteArray) : List SetZ := if 0 ≤ mrgV base a b nm then [⟨nm, mrgV base a b nm⟩] else []
def mrgZ (base a b : List SetZ) (nms : List ByteArray) : List SetZ := nms.flatMap (mrgF base a b)
theorem mrgZ_snoc {base a b : List SetZ} {nms : List ByteArray} {k : Nat} {nm : ByteArray} (h : nms[k]? = some nm) : mrgZ base a b (nms.take (k + 1)) = mrgZ base a b (nms.take k) ++ mrgF base a b nm := by
  unfold mrgZ; rw [take_snoc h]; simp
theorem mrgF_yes {base a b : List SetZ} {nm : ByteArray} (h : 0 ≤ mrgV base a b nm) : mrgF base a b nm = [⟨nm, mrgV base a b nm⟩] := by unfold mrgF; rw [if_pos h]
theorem mrgF_no {base a b : List SetZ} {nm : ByteArray} (h : mrgV base a b nm < 0) : mrgF base a b nm = [] := by unfold mrgF; rw [if_neg (by omega)]
theorem mrgZ_len (base a b : List SetZ) (nms : List ByteArray) : (mrgZ base a b nms).length ≤ nms.length := by
  induction nms with
  | nil => simp [mrgZ]
  | cons x xs ih =>
    have e : mrgZ base a b (x :: xs) = mrgF base a b x ++ mrgZ base a b xs := by simp [mrgZ]
    rw [e, List.length_append]
    have : (mrgF base a b x).length ≤ 1 := by unfold mrgF; split <;> simp
    simp only [List.length_cons]
    omega
def mrgC (base a b : List SetZ) : Int := if confZ base a b = [] then (if (mrgZ base a b (namesZ base a b)).length ≤ 24 then 0 else 5) else 6
def mrgR (base a b : List SetZ) : List SetZ := if confZ base a b = [] then (if (mrgZ base a b (namesZ base a b)).length ≤ 24 then mrgZ base a b (namesZ base a b) else []) else []
def three (base a b : List SetZ) : Bool := stateB base && stateB a && stateB b
def conC (base a b : List SetZ) : Int := if three base a b then 0 else 1
def conR (base a b : List SetZ) : List ByteArray := if three base a b then confZ base a b else []
def mstC (base a b : List SetZ) : Int := if three base a b then mrgC base a b else 1
def mstR (base a b : List SetZ) : List SetZ := if three base a b then mrgR base a b else []
theorem confZ_take {base a b : List SetZ} {k : Nat} {nm : ByteArray} {nms : List ByteArray} (h : nms[k]? = some nm) : (nms.take (k + 1)).filter (confB base a b) = (nms.take k).filter (confB base a b) ++ (if confB base a b nm then [nm] else []) := by
  rw [take_snoc h, List.filter_append]
  rcases b_cases (confB base a b nm) with e | e <;> simp [e]
/-- The name of a valid setting is not empty. -/
theorem name_ne {ss : List SetZ} (h : stateB ss = true) {nm : ByteArray} (hh : hasZ ss nm = true) : nm.size ≠ 0 := by
  obtain ⟨s, hs, rfl⟩ := hasZ_iff.1 hh
  have h1 := state_mem h hs
  unfold setB at h1
  rw [Bool.and_eq_true] at h1
  intro h0
  have := h1.1
  unfold nameB at this
  simp [h0] at this
theorem fine_of_mem {ss : List SetZ} {nm : ByteArray} (hf : ∀ s ∈ ss, s.fine) (hh : hasZ ss nm = true) : nm.size ≤ 9223372036854775807 := by
  obtain ⟨s, hs, rfl⟩ := hasZ_iff.1 hh
  exact (hf s hs).1
theorem val_no {ss : List SetZ} {nm : ByteArray} (h : hasZ ss nm = false) : valZ ss nm = -1 := by
  unfold valZ; rw [getZ_none.2 h]

end Go.Proofs.Ytmcdafaadodekaa
