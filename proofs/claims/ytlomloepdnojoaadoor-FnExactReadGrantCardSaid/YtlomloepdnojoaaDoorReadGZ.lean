/- Plain: a grant that is read from its text. -/
import Derived.Test.YtlomloepdnojoaaDoorJoinZ
import Derived.Test.YtlomloepdnojoaaDoorGrant
namespace Go.Proofs.YtlomloepdnojoaaDoor
open Go.RowKit
set_option linter.unusedVariables false

/-- The action among the first K ones whose name a word is. -/
def actL (b : ByteArray) : Nat → Int
  | 0 => 0
  | K + 1 => if actName ((K : Int) + 1) = b then (K : Int) + 1 else actL b K
def rdG (W : List ByteArray) : GrantZ := ⟨W.getD 0 ⟨#[]⟩, W.getD 2 ⟨#[]⟩, actL (W.getD 1 ⟨#[]⟩) 3⟩
def rgC (s : ByteArray) : Bool := decide ((splitS 32 s).length = 3) && fineG (rdG (splitS 32 s))
def rgV (s : ByteArray) : GrantZ := if rgC s = true then rdG (splitS 32 s) else ⟨⟨#[]⟩, ⟨#[]⟩, 0⟩
theorem rg_short {s : ByteArray} (h : (splitS 32 s).length ≠ 3) : rgC s = false ∧ rgV s = ⟨⟨#[]⟩, ⟨#[]⟩, 0⟩ := by
  have e : rgC s = false := by unfold rgC; rw [decide_eq_false h]; rfl
  exact ⟨e, by unfold rgV; rw [if_neg (by rw [e]; simp)]⟩
theorem rg_bad {s : ByteArray} (h : fineG (rdG (splitS 32 s)) = false) : rgC s = false ∧ rgV s = ⟨⟨#[]⟩, ⟨#[]⟩, 0⟩ := by
  have e : rgC s = false := by unfold rgC; rw [h, Bool.and_false]
  exact ⟨e, by unfold rgV; rw [if_neg (by rw [e]; simp)]⟩
theorem rg_good {s : ByteArray} (h3 : (splitS 32 s).length = 3) (h : fineG (rdG (splitS 32 s)) = true) : rgC s = true ∧ rgV s = rdG (splitS 32 s) := by
  have e : rgC s = true := by unfold rgC; rw [h, decide_eq_true h3]; rfl
  exact ⟨e, by unfold rgV; rw [if_pos e]⟩
theorem actL_bound (b : ByteArray) : ∀ K, 0 ≤ actL b K ∧ actL b K ≤ K
  | 0 => by simp [actL]
  | K + 1 => by
    have := actL_bound b K
    rw [actL]
    split <;> omega
theorem actL_name (b : ByteArray) : ∀ K, 1 ≤ actL b K → actName (actL b K) = b
  | 0, h => by simp [actL] at h
  | K + 1, h => by
    rw [actL] at h ⊢
    split
    · assumption
    · next hn => rw [if_neg hn] at h; exact actL_name b K h
theorem rg_iff {s : ByteArray} (h3 : (splitS 32 s).length = 3) : grantText (rdG (splitS 32 s)) = s ↔ fineG (rdG (splitS 32 s)) = true := by
  have hj : Lib.join ((splitS 32 s).map bs) [32] = bs s := by rw [split_bs, join_split]
  generalize splitS 32 s = W at *
  obtain ⟨a, b, c, rfl⟩ : ∃ a b c, W = [a, b, c] := by
    match W, h3 with
    | [a, b, c], _ => exact ⟨a, b, c, rfl⟩
  rw [List.map_cons, List.map_cons, List.map_cons, List.map_nil, join_two 32 _ (by simp), join_two 32 _ (by simp), Lib.join_one] at hj
  have e : rdG [a, b, c] = ⟨a, c, actL b 3⟩ := rfl
  rw [e]
  constructor
  · intro h
    rcases b_cases (fineG ⟨a, c, actL b 3⟩) with hf | hf
    · unfold grantText at h
      rw [if_neg (by rw [hf]; simp)] at h
      rw [← h] at hj
      have := congrArg List.length hj
      simp [bs] at this
    · exact hf
  · intro hf
    unfold grantText
    rw [if_pos hf]
    have hf' := hf
    unfold fineG at hf'
    simp only [Bool.and_eq_true] at hf'
    have ha : 1 ≤ actL b 3 ∧ actL b 3 ≤ 3 := withinB_iff.1 hf'.2
    refine bs_inj ?_
    unfold textG
    simp only [bs_app]
    rw [actL_name b 3 ha.1, ← hj]
    simp [bs]

end Go.Proofs.YtlomloepdnojoaaDoor
