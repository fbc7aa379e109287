/- Applying changes to a state: plain laws. -/
import Derived.Test.YtmpfkmbfbeejhaaDoorMg
import Derived.Test.YtmpfkmbfbeejhaaDoorStChange
namespace Go.Proofs.YtmpfkmbfbeejhaaDoor
set_option linter.unusedVariables false

theorem idx_take {ss : List SetZ} {nm : ByteArray} {i : Nat} (h : IsIdx ss nm i) : ∀ x ∈ ss.take i, strLess x.name nm = true := by
  intro x hx
  obtain ⟨k, hk, rfl⟩ := List.getElem_of_mem hx
  simp only [List.length_take] at hk
  rw [List.getElem_take]
  exact h.2.1 k _ (List.getElem?_eq_getElem (by omega)) (by omega)
theorem set_skip {xs ys : List SetZ} {e : SetZ} (h : ∀ x ∈ xs, strLess x.name e.name = true) : setZ (xs ++ ys) e = xs ++ setZ ys e := by
  induction xs with
  | nil => rfl
  | cons x r ih =>
    have h1 := h x (by simp)
    rw [List.cons_append, setZ, if_neg (by rw [strLess_asymm h1]; simp), if_neg (less_ne h1), ih (fun y hy => h y (by simp [hy])), List.cons_append]
/-- Setting a name that is there, one that isn't. -/
theorem set_found {ss : List SetZ} {e s : SetZ} {i : Nat} (h : IsIdx ss e.name i) (hs : ss[i]? = some s) (he : s.name = e.name) : setZ ss e = ss.set i e := by
  obtain ⟨hi, rfl⟩ := List.getElem?_eq_some_iff.1 hs
  have h1 := set_skip (ys := ss.drop i) (idx_take h)
  rw [List.take_append_drop] at h1
  rw [h1, List.drop_eq_getElem_cons hi, setZ, if_neg (by rw [he, strLess_irrefl]; simp), if_pos he, List.set_eq_take_append_cons_drop, if_pos hi]
theorem set_new {ss : List SetZ} {e : SetZ} {i : Nat} (h : IsIdx ss e.name i) (hn : ∀ s, ss[i]? = some s → s.name ≠ e.name) : setZ ss e = ss.take i ++ [e] ++ ss.drop i := by
  have h1 := set_skip (ys := ss.drop i) (idx_take h)
  rw [List.take_append_drop] at h1
  rw [h1, List.append_assoc]
  congr 1
  cases hd : ss.drop i with
  | nil => rfl
  | cons s r =>
    have hi : i < ss.length := by
      have := congrArg List.length hd
      rw [List.length_drop, List.length_cons] at this
      omega
    have hs : ss[i]? = some s := by
      rw [List.drop_eq_getElem_cons hi] at hd
      injection hd with hd _
      rw [List.getElem?_eq_getElem hi, hd]
    have h2 := h.2.2 i s hs (Nat.le_refl _)
    have h3 := hn s hs
    have h4 : strLess e.name s.name = true := not_less h2 h3
    rw [setZ, if_pos h4]
    rfl

/-- One change: its code and what it leaves. -/
def delZ (ss : List SetZ) (nm : ByteArray) : List SetZ := ss.filter (fun s => !decide (s.name = nm))
def chgC (ss : List SetZ) (c : ChangeZ) : Int :=
  if c.kind = 1 then (if 24 < (setZ ss ⟨c.name, c.value⟩).length then 5 else 0)
  else match getZ ss c.name with
    | none => 3
    | some s => if s = ⟨c.name, c.value⟩ then 0 else 6
def chgL (ss : List SetZ) (c : ChangeZ) : List SetZ := if c.kind = 1 then setZ ss ⟨c.name, c.value⟩ else delZ ss c.name
theorem idx_less {ss : List SetZ} (h : SortedZ ss) {i : Nat} {s : SetZ} (hs : ss[i]? = some s) : delZ ss s.name = ss.take i ++ ss.drop (i + 1) := by
  obtain ⟨hi, rfl⟩ := List.getElem?_eq_some_iff.1 hs
  unfold delZ
  have e : ss.filter (fun s => !decide (s.name = ss[i].name)) = (ss.take i ++ ss.drop i).filter (fun s => !decide (s.name = ss[i].name)) := by rw [List.take_append_drop]
  rw [e, List.filter_append, List.drop_eq_getElem_cons hi, List.filter_cons]
  simp only [decide_true, Bool.not_true, Bool.false_eq_true, if_false]
  congr 1
  · apply List.filter_eq_self.2
    intro x hx
    obtain ⟨k, hk, rfl⟩ := List.getElem_of_mem hx
    simp only [List.length_take] at hk
    rw [List.getElem_take]
    have := h k i _ _ (by omega) (List.getElem?_eq_getElem (by omega)) (List.getElem?_eq_getElem hi)
    simpa using less_ne this
  · apply List.filter_eq_self.2
    intro x hx
    obtain ⟨k, hk, rfl⟩ := List.getElem_of_mem hx
    simp only [List.length_drop] at hk
    rw [List.getElem_drop]
    have := h i (i + 1 + k) _ _ (by omega) (List.getElem?_eq_getElem hi) (List.getElem?_eq_getElem (by omega))
    simpa using (less_ne this).symm
theorem len_new {ss : List SetZ} {e : SetZ} {i : Nat} (h : IsIdx ss e.name i) (hn : ∀ s, ss[i]? = some s → s.name ≠ e.name) : (setZ ss e).length = ss.length + 1 := by
  have := h.1
  rw [set_new h hn]; simp; omega
theorem len_found {ss : List SetZ} {e s : SetZ} {i : Nat} (h : IsIdx ss e.name i) (hs : ss[i]? = some s) (he : s.name = e.name) : (setZ ss e).length = ss.length := by
  rw [set_found h hs he, List.length_set]
theorem sorted_del {ss : List SetZ} {nm : ByteArray} (h : SortedZ ss) : SortedZ (delZ ss nm) := by
  rw [sortP_iff] at *
  exact h.sublist (List.filter_sublist)
theorem sorted_chg {ss : List SetZ} {c : ChangeZ} (h : SortedZ ss) : SortedZ (chgL ss c) := by
  unfold chgL
  split
  · rw [sortP_iff] at *; exact sort_setZ h
  · exact sorted_del h

end Go.Proofs.YtmpfkmbfbeejhaaDoor
