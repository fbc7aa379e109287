/- l27Merge of the reference. -/
import Derived.Test.YtmpfkmbfbeejhaaMergeS
namespace Go.Proofs.Ytmpfkmbfbeejhaa
open Go.RowKit
set_option linter.unusedVariables false

theorem emp_yes {s : ByteArray} (h : s.size = 0) : s.toList.isEmpty = true := by
  rw [toList_bs, List.isEmpty_iff]
  exact List.eq_nil_of_length_eq_zero h
theorem emp_no {s : ByteArray} (h : s.size ≠ 0) : s.toList.isEmpty = false := by
  rw [toList_bs, ← Bool.not_eq_true, List.isEmpty_iff]
  intro e
  exact h (by rw [← bs_len, e]; rfl)
/-- The setting that merging takes for a name. -/
def pickS (base a b : List SetZ) (nm : ByteArray) : SetZ := if getS a nm = getS base nm then getS b nm else getS a nm
theorem pick_val {base a b : List SetZ} (g0 : stateB base = true) (g1 : stateB a = true) (g2 : stateB b = true) {nm : ByteArray} (hn : nm.size ≠ 0) :
    ((pickS base a b nm).name.size ≠ 0 ↔ 0 ≤ mrgV base a b nm) ∧ (0 ≤ mrgV base a b nm → pickS base a b nm = ⟨nm, mrgV base a b nm⟩) := by
  have h := getS_eq g1 g0 hn
  unfold pickS mrgV
  by_cases c : valZ a nm = valZ base nm
  · rw [if_pos (h.2 c), if_pos c]
    exact ⟨getS_ne g2 hn, getS_val⟩
  · rw [if_neg (fun e => c (h.1 e)), if_neg c]
    exact ⟨getS_ne g1 hn, getS_val⟩
def MrgPost (base a b : List SetZ) (w : World) (e : Ending) (w' : World) : Prop :=
  ∃ A' n' c', e = .returned (.tuple #[.slice A' n' c', .int .i64 (mrgC base a b)]) ∧ FrK kSetting w' w.heap.size w'.heap.size 77 A' n' (mrgR base a b) ∧ n' ≤ 1048576 ∧ Below w.heap.size w w'
theorem mrg_conf {base a b : List SetZ} (h : confZ base a b ≠ []) : mrgC base a b = 6 ∧ mrgR base a b = [] := by unfold mrgC mrgR; rw [if_neg h, if_neg h]; exact ⟨rfl, rfl⟩
theorem mrg_full {base a b : List SetZ} (h : confZ base a b = []) (h2 : 24 < (mrgZ base a b (namesZ base a b)).length) : mrgC base a b = 5 ∧ mrgR base a b = [] := by unfold mrgC mrgR; rw [if_pos h, if_pos h, if_neg (by omega), if_neg (by omega)]; exact ⟨rfl, rfl⟩
theorem mrg_ok {base a b : List SetZ} (h : confZ base a b = []) (h2 : (mrgZ base a b (namesZ base a b)).length ≤ 24) : mrgC base a b = 0 ∧ mrgR base a b = mrgZ base a b (namesZ base a b) := by unfold mrgC mrgR; rw [if_pos h, if_pos h, if_pos h2, if_pos h2]; exact ⟨rfl, rfl⟩
theorem mrgZ_fine {s0 s1 s2 : List SetZ} (g0 : stateB s0 = true) (g1 : stateB s1 = true) (g2 : stateB s2 = true) (f0 : ∀ s ∈ s0, s.fine) (f1 : ∀ s ∈ s1, s.fine) (f2 : ∀ s ∈ s2, s.fine) : ∀ s ∈ mrgZ s0 s1 s2 (namesZ s0 s1 s2), kSetting.fine s := fun s hs => by
  unfold mrgZ at hs
  obtain ⟨nm, hm, hs⟩ := List.mem_flatMap.1 hs
  have hf := names_fine f0 f1 f2 nm hm
  unfold mrgF at hs
  split at hs
  · simp only [List.mem_singleton] at hs
    subst hs
    refine ⟨hf, ?_⟩
    have r1 := val_range g1 nm
    have r2 := val_range g2 nm
    simp only
    unfold mrgV
    split <;> exact ⟨by omega, by omega⟩
  · simp at hs

end Go.Proofs.Ytmpfkmbfbeejhaa
