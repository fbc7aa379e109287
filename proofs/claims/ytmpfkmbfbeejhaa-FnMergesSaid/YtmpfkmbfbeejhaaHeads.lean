/- HeadsOf of the program and of the reference. -/
import Derived.Test.YtmpfkmbfbeejhaaAncestors
namespace Go.Proofs.Ytmpfkmbfbeejhaa
open Go.RowKit
set_option linter.unusedVariables false

/-- Is a number no version's parent? -/
def headB (vs : List VerZ) (x : Int) : Bool := !vs.any (fun v => decide (v.parent = x))
/-- The heads among the first k versions. -/
def headsK (vs : List VerZ) (k : Nat) : List Int := ((vs.take k).map VerZ.number).filter (headB vs)
theorem headsK_yes {vs : List VerZ} {k : Nat} {v : VerZ} (h : vs[k]? = some v) (hb : headB vs v.number = true) : headsK vs (k + 1) = headsK vs k ++ [v.number] := by
  unfold headsK; rw [take_snoc h]; simp [hb]
theorem headsK_no {vs : List VerZ} {k : Nat} {v : VerZ} (h : vs[k]? = some v) (hb : headB vs v.number = false) : headsK vs (k + 1) = headsK vs k := by
  unfold headsK; rw [take_snoc h]; simp [hb]
theorem headsK_len (vs : List VerZ) (k : Nat) : (headsK vs k).length ≤ k := by
  unfold headsK
  refine Nat.le_trans (List.length_filter_le _ _) ?_
  simp
  omega
/-- What HeadsOf returns. -/
def heaC (vs : List VerZ) : Int := codeV vs []
def heaR (vs : List VerZ) : List Int := if heaC vs = 0 then headsK vs vs.length else []
theorem codeV_none {vs : List VerZ} : codeV vs [] = if histB vs then 0 else 1 := by unfold codeV; simp
theorem heads_i64 {vs : List VerZ} (hh : histB vs = true) (k : Nat) : ∀ x ∈ headsK vs k, I64 x := by
  intro x hx
  unfold headsK at hx
  have h1 := (List.mem_filter.1 hx).1
  obtain ⟨v, hv, rfl⟩ := List.mem_map.1 h1
  obtain ⟨i, hi⟩ := List.mem_iff_getElem?.1 (List.mem_of_mem_take hv)
  have h2 := hist_at hh hi
  have h3 := (List.getElem?_eq_some_iff.1 hi).1
  have h4 := hist_len hh
  exact ⟨by omega, by omega⟩

theorem codeV_nil_ok {vs : List VerZ} (h : histB vs = true) : codeV vs [] = 0 := by rw [codeV_none, h]; rfl
theorem codeV_nil_bad {vs : List VerZ} (h : histB vs = false) : codeV vs [] = 1 := by rw [codeV_none, h]; rfl
theorem heaC_ok {vs : List VerZ} (h : histB vs = true) : heaC vs = 0 := codeV_nil_ok h
theorem heaC_bad {vs : List VerZ} (h : histB vs = false) : heaC vs = 1 := codeV_nil_bad h
theorem heaR_ok {vs : List VerZ} {n : Nat} (hl : vs.length = n) (h : histB vs = true) : heaR vs = headsK vs n := by unfold heaR; rw [heaC_ok h, if_pos rfl, hl]
theorem heaR_bad {vs : List VerZ} (h : histB vs = false) : heaR vs = [] := by unfold heaR; rw [heaC_bad h]; rfl

end Go.Proofs.Ytmpfkmbfbeejhaa
