/- Plain: the line of versions from which a version comes. -/
import Derived.Test.YtmpfkmbfbeejhaaDoorValidHist
namespace Go.Proofs.YtmpfkmbfbeejhaaDoor
open Go.RowKit
set_option linter.unusedVariables false

/-- A version's parent. -/
def parN (vs : List VerZ) (k : Nat) : Nat := match vs[k - 1]? with | some v => v.parent.toNat | none => 0
def lineF (vs : List VerZ) : Nat → Nat → List Int
  | 0, _ => []
  | f + 1, k => if k = 0 then [] else (k : Int) :: lineF vs f (parN vs k)
/-- A version and the versions from which it comes. -/
def lineV (vs : List VerZ) (k : Nat) : List Int := lineF vs k k

theorem hist_len {vs : List VerZ} (h : histB vs = true) : vs.length ≤ 32 := by
  unfold histB at h
  simp at h
  exact h.2
theorem hist_at {vs : List VerZ} {k : Nat} {v : VerZ} (h : histB vs = true) (hv : vs[k]? = some v) : v.number = (k : Int) + 1 ∧ 0 ≤ v.parent ∧ v.parent ≤ k := by
  unfold histB at h
  rw [Bool.and_eq_true, List.all_eq_true] at h
  have hk := (List.getElem?_eq_some_iff.1 hv).1
  have := h.1 k (by simpa using hk)
  unfold verKB at this
  rw [hv] at this
  simp only [Bool.and_eq_true, decide_eq_true_eq] at this
  have h2 := withinB_iff.1 this.2.1
  exact ⟨this.1, h2⟩
theorem par_at {vs : List VerZ} {k : Nat} {v : VerZ} (h : histB vs = true) (hv : vs[k]? = some v) : v.parent = (parN vs (k + 1) : Int) := by
  have := hist_at h hv
  unfold parN
  simp only [Nat.add_sub_cancel, hv]
  omega
theorem par_lt {vs : List VerZ} (h : histB vs = true) (k : Nat) : parN vs (k + 1) ≤ k := by
  unfold parN
  simp only [Nat.add_sub_cancel]
  split
  · rename_i v hv
    have := hist_at h hv
    omega
  · omega
theorem lineF_eq {vs : List VerZ} (h : histB vs = true) : ∀ (k f : Nat), k ≤ f → lineF vs f k = lineV vs k := by
  intro k
  induction k using Nat.strongRecOn with
  | _ k ih =>
    intro f hf
    unfold lineV
    rcases Nat.eq_zero_or_pos k with h0 | h0
    · subst h0
      cases f <;> simp [lineF]
    · obtain ⟨k', rfl⟩ : ∃ k', k = k' + 1 := ⟨k - 1, by omega⟩
      obtain ⟨f', rfl⟩ : ∃ f', f = f' + 1 := ⟨f - 1, by omega⟩
      have hp := par_lt h k'
      simp only [lineF]
      rw [if_neg (by omega), if_neg (by omega), ih _ (by omega) f' (by omega), ih _ (by omega) k' (by omega)]
theorem lineV_step {vs : List VerZ} (h : histB vs = true) (k : Nat) : lineV vs (k + 1) = ((k + 1 : Nat) : Int) :: lineV vs (parN vs (k + 1)) := by
  have hp := par_lt h k
  conv => lhs; unfold lineV
  simp only [lineF]
  rw [if_neg (by omega), lineF_eq h _ _ (by omega)]
theorem lineV_zero {vs : List VerZ} : lineV vs 0 = [] := rfl
theorem lineV_len {vs : List VerZ} (h : histB vs = true) : ∀ k, (lineV vs k).length ≤ k := by
  intro k
  induction k using Nat.strongRecOn with
  | _ k ih =>
    rcases Nat.eq_zero_or_pos k with h0 | h0
    · subst h0; simp [lineV_zero]
    · obtain ⟨k', rfl⟩ : ∃ k', k = k' + 1 := ⟨k - 1, by omega⟩
      have hp := par_lt h k'
      rw [lineV_step h]
      have := ih _ (show parN vs (k' + 1) < k' + 1 by omega)
      simp only [List.length_cons]
      omega
theorem lineV_mem {vs : List VerZ} (h : histB vs = true) : ∀ k x, x ∈ lineV vs k → 1 ≤ x ∧ x ≤ k := by
  intro k
  induction k using Nat.strongRecOn with
  | _ k ih =>
    intro x hx
    rcases Nat.eq_zero_or_pos k with h0 | h0
    · subst h0; simp [lineV_zero] at hx
    · obtain ⟨k', rfl⟩ : ∃ k', k = k' + 1 := ⟨k - 1, by omega⟩
      have hp := par_lt h k'
      rw [lineV_step h, List.mem_cons] at hx
      rcases hx with rfl | hx
      · omega
      · have := ih _ (show parN vs (k' + 1) < k' + 1 by omega) x hx
        omega

end Go.Proofs.YtmpfkmbfbeejhaaDoor
