/- Rising lists of strings, plainly. -/
import Derived.Test.YtcclfmapbgdpdaaGreatDoorIn
namespace Go.Proofs.YtcclfmapbgdpdaaGreatDoor
open Go.RowKit
set_option linter.unusedVariables false

/-- The strings rise strictly. -/
def SortB (xs : List ByteArray) : Prop := xs.Pairwise (fun a b => strLess a b = true)
theorem less_ne {s t : ByteArray} (h : strLess s t = true) : s ≠ t := by rintro rfl; rw [strLess_irrefl] at h; cases h
theorem not_less {s t : ByteArray} (h : strLess s t = false) (hne : s ≠ t) : strLess t s = true := by
  rcases b_cases (strLess t s) with e | e
  · exact absurd (strLess_total h e) hne
  · exact e
/-- Two sorted lists of the same strings are one. -/
theorem sortB_ext : ∀ {xs ys : List ByteArray}, SortB xs → SortB ys → (∀ x, x ∈ xs ↔ x ∈ ys) → xs = ys
  | [], [], _, _, _ => rfl
  | [], y :: ys, _, _, h => by have := (h y).2 (by simp); simp at this
  | x :: xs, [], _, _, h => by have := (h x).1 (by simp); simp at this
  | x :: xs, y :: ys, h1, h2, h => by
    unfold SortB at h1 h2
    rw [List.pairwise_cons] at h1 h2
    have hxy : x = y := by
      rcases List.mem_cons.1 ((h x).1 (by simp)) with e | e
      · exact e
      · rcases List.mem_cons.1 ((h y).2 (by simp)) with e' | e'
        · exact e'.symm
        · have := strLess_trans (h1.1 y e') (h2.1 x e)
          rw [strLess_irrefl] at this
          cases this
    subst hxy
    rw [sortB_ext h1.2 h2.2 (fun z => ?_)]
    constructor
    · intro hz
      rcases List.mem_cons.1 ((h z).1 (by simp [hz])) with rfl | e
      · have := h1.1 z hz
        rw [strLess_irrefl] at this
        cases this
      · exact e
    · intro hz
      rcases List.mem_cons.1 ((h z).2 (by simp [hz])) with rfl | e
      · have := h2.1 z hz
        rw [strLess_irrefl] at this
        cases this
      · exact e

/-- Is the string there? -/
def inB (xs : List ByteArray) (x : ByteArray) : Bool := xs.any fun y => decide (y = x)
theorem inB_iff {xs : List ByteArray} {x : ByteArray} : inB xs x = true ↔ x ∈ xs := by
  unfold inB
  rw [List.any_eq_true]
  constructor
  · rintro ⟨y, hy, h⟩
    rw [decide_eq_true_iff] at h
    exact h ▸ hy
  · intro h
    exact ⟨x, h, by simp⟩
theorem inB_not {xs : List ByteArray} {x : ByteArray} : inB xs x = false ↔ x ∉ xs := by
  rw [← inB_iff]; simp
/-- Does the string at k come behind the one before it? -/
def upB (xs : List ByteArray) : Nat → Bool
  | 0 => true
  | k + 1 => strLess (xs.getD k ⟨#[]⟩) (xs.getD (k + 1) ⟨#[]⟩)
theorem upB_at {xs : List ByteArray} {k : Nat} {a b : ByteArray} (h1 : xs[k]? = some a) (h2 : xs[k + 1]? = some b) : upB xs (k + 1) = strLess a b := by
  simp [upB, List.getD, h1, h2]
/-- The strings rise if each comes behind the one before it. -/
theorem sortB_take {xs : List ByteArray} {k : Nat} {x : ByteArray} (hx : xs[k]? = some x) (h : SortB (xs.take k)) (hu : upB xs k = true) : SortB (xs.take (k + 1)) := by
  rw [take_snoc hx]
  unfold SortB at *
  rw [List.pairwise_append]
  refine ⟨h, by simp, fun a ha b hb => ?_⟩
  simp only [List.mem_singleton] at hb
  subst hb
  cases k with
  | zero => simp at ha
  | succ k =>
    have hk := (List.getElem?_eq_some_iff.1 hx).1
    have hy : xs[k]? = some xs[k] := List.getElem?_eq_getElem (by omega)
    rw [upB_at hy hx] at hu
    rw [take_snoc hy] at h ha
    rw [List.pairwise_append] at h
    rcases List.mem_append.1 ha with ha | ha
    · exact strLess_trans (h.2.2 a ha _ (by simp)) hu
    · simp only [List.mem_singleton] at ha
      subst ha
      exact hu
theorem sortB_up {xs : List ByteArray} (h : SortB xs) {k : Nat} (hk : k < xs.length) : upB xs k = true := by
  cases k with
  | zero => rfl
  | succ k =>
    rw [upB_at (List.getElem?_eq_getElem (by omega)) (List.getElem?_eq_getElem hk)]
    exact List.pairwise_iff_getElem.1 h k (k + 1) (by omega) hk (by omega)
theorem sortB_nodup {xs : List ByteArray} (h : SortB xs) : xs.Nodup := by
  refine List.Pairwise.imp ?_ h
  intro a b hab
  exact less_ne hab
theorem nodup_len {α : Type} [DecidableEq α] : ∀ {ys xs : List α}, xs.Nodup → (∀ x ∈ xs, x ∈ ys) → xs.length ≤ ys.length
  | [], xs, _, h => by
    cases xs with
    | nil => simp
    | cons x xs => have := h x (by simp); simp at this
  | y :: ys, xs, hn, h => by
    have h1 : (xs.filter (fun x => decide (x ≠ y))).length ≤ ys.length := by
      refine nodup_len (hn.filter _) (fun x hx => ?_)
      obtain ⟨hx, he⟩ := List.mem_filter.1 hx
      have he' : x ≠ y := by simpa using he
      rcases List.mem_cons.1 (h x hx) with e | e
      · exact absurd e he'
      · exact e
    have h2 : xs.length ≤ (xs.filter (fun x => decide (x ≠ y))).length + 1 := by
      clear h h1
      induction xs with
      | nil => simp
      | cons x xs ih =>
        rw [List.nodup_cons] at hn
        by_cases e : x = y
        · subst e
          have : xs.filter (fun z => decide (z ≠ x)) = xs := List.filter_eq_self.2 fun a ha => by
            simp only [ne_eq, decide_not, Bool.not_eq_true', decide_eq_false_iff_not]
            rintro rfl
            exact hn.1 ha
          rw [List.filter_cons_of_neg (by simp), this]
          simp
        · rw [List.filter_cons_of_pos (by simpa using e)]
          have := ih hn.2
          simp only [List.length_cons]
          omega
    simp only [List.length_cons]
    omega

end Go.Proofs.YtcclfmapbgdpdaaGreatDoor
