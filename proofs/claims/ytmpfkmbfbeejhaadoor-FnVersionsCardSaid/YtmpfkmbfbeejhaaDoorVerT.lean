/- A version as text: plain, and VersionText of the reference. -/
import Derived.Test.YtmpfkmbfbeejhaaDoorVerTo
import Derived.Test.YtmpfkmbfbeejhaaDoorMg
import Derived.Test.YtmpfkmbfbeejhaaDoorMemo
import Derived.Test.YtmpfkmbfbeejhaaDoorDec
import Derived.Deep.RegionHeld3
namespace Go.Proofs.YtmpfkmbfbeejhaaDoor
open Go.RowKit
set_option linter.unusedVariables false

def verB (v : VerZ) : Bool := withinB v.number 1 32 && withinB v.parent 0 (v.number - 1) && memoB v.memo && stateB v.state
/-- A setting in a version's text. -/
def partZ (s : SetZ) : ByteArray := ⟨#[32]⟩ ++ s.name ++ ⟨#[61]⟩ ++ decZ s.value
def headZ (n p : Int) : ByteArray := decZ n ++ ⟨#[60]⟩ ++ decZ p
def partsZ (h : ByteArray) (ss : List SetZ) : ByteArray := ss.foldl (fun a s => a ++ partZ s) h
def memZ (m : ByteArray) : ByteArray := if m.size = 0 then ⟨#[]⟩ else ⟨#[32, 35, 32]⟩ ++ m
def verT (v : VerZ) : ByteArray := if verB v = true then partsZ (headZ v.number v.parent) v.state ++ memZ v.memo else ⟨#[]⟩
theorem parts_snoc (h : ByteArray) (ss : List SetZ) (s : SetZ) : partsZ h (ss ++ [s]) = partsZ h ss ++ partZ s := by
  unfold partsZ; rw [List.foldl_append, List.foldl_cons, List.foldl_nil]
theorem parts_step {h : ByteArray} {ss : List SetZ} {k : Nat} {s : SetZ} (hx : ss[k]? = some s) : partsZ h (ss.take (k + 1)) = partsZ h (ss.take k) ++ partZ s := by
  rw [take_snoc hx, parts_snoc]
theorem verT_bad {v : VerZ} (h : verB v = false) : verT v = ⟨#[]⟩ := by unfold verT; rw [if_neg (by rw [h]; simp)]
theorem verT_good {v : VerZ} (h : verB v = true) : verT v = partsZ (headZ v.number v.parent) v.state ++ memZ v.memo := by unfold verT; rw [if_pos h]
theorem app_empty (a : ByteArray) : a ++ ⟨#[]⟩ = a := bs_inj (by simp [bs])
theorem state_name {ss : List SetZ} (h : stateB ss = true) : ∀ s ∈ ss, s.name.size ≤ 10 := by
  intro s hs
  obtain ⟨k, hk⟩ := List.mem_iff_getElem?.1 hs
  have hl := (List.getElem?_eq_some_iff.1 hk).1
  unfold stateB at h
  rw [Bool.and_eq_true] at h
  have h1 := List.all_eq_true.1 h.1 k (List.mem_range.2 hl)
  rcases b_cases (setB s.name s.value) with hb | hb
  · rw [step_set hk hb] at h1; exact absurd h1 (by simp)
  · unfold setB nameB at hb
    simp only [Bool.and_eq_true] at hb
    exact of_decide_eq_true hb.1.1.1.2
theorem memo_len {s : ByteArray} (h : memoB s = true) : s.size ≤ 20 := by
  unfold memoB at h
  simp only [Bool.and_eq_true] at h
  first | exact of_decide_eq_true h.1 | exact of_decide_eq_true h.2
theorem ret_strE {s : ByteArray} {t : ByteArray} (h : s = t) : Ending.returned (.string s) = .returned (.string t) := by rw [h]
theorem size_lit1 : (⟨#[32]⟩ : ByteArray).size = 1 ∧ (⟨#[61]⟩ : ByteArray).size = 1 ∧ (⟨#[60]⟩ : ByteArray).size = 1 ∧ (⟨#[32, 35, 32]⟩ : ByteArray).size = 3 := ⟨rfl, rfl, rfl, rfl⟩
theorem part_size {s : SetZ} (h : s.name.size ≤ 10) (hv : I64 s.value) : (partZ s).size ≤ 32 := by
  have := itoa_len hv
  obtain ⟨a1, a2, _, _⟩ := size_lit1
  unfold partZ
  simp only [ByteArray.size_append]
  omega

theorem mem_empty {m : ByteArray} (h : m.size = 0) : m.toList.isEmpty = true := by
  rw [toList_bs, List.eq_nil_of_length_eq_zero (show (bs m).length = 0 by rw [bs_len]; exact h)]; rfl
theorem mem_some {m : ByteArray} (h : ¬ m.size = 0) : m.toList.isEmpty = false := by
  rw [toList_bs, List.isEmpty_eq_false_iff]
  intro e
  exact h (by rw [← bs_len, e]; rfl)


end Go.Proofs.YtmpfkmbfbeejhaaDoor
