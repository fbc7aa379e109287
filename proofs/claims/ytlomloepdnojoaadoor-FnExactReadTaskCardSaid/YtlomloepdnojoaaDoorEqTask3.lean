/- eqTask of the laws. Printed by gen_read3.py. -/
import Derived.Test.YtlomloepdnojoaaDoorReadHe
namespace Go.Proofs.YtlomloepdnojoaaDoor
open Go.RowKit
set_option linter.unusedVariables false

theorem HlpZ_iff3 {a b : HlpZ} : a = b ↔ a.id = b.id ∧ a.sk = b.sk ∧ a.n = b.n := by cases a; cases b; simp
instance : DecidableEq HlpZ := fun a b => decidable_of_iff _ HlpZ_iff3.symm
def eqTaskB (x y : HlpZ) : Bool := decide (x = y)
theorem eqTaskB_iff {x y : HlpZ} : eqTaskB x y = true ↔ x = y := by simp [eqTaskB]
theorem eqTaskB_not {x y : HlpZ} : eqTaskB x y = false ↔ x ≠ y := by simp [eqTaskB]

set_option maxHeartbeats 1000000 in
theorem eqTask_calls (a0 : ByteArray) (a1 : Int) (a2 : Int) (b0 : ByteArray) (b1 : Int) (b2 : Int) (w : World) :
    Calls Tryd.prog 22 #[.agg #[.string a0, .int .i64 a1, .int .i64 a2], .agg #[.string b0, .int .i64 b1, .int .i64 b2]] w fun e w' => e = .returned (.bool (eqTaskB ⟨a0, a1, a2⟩ ⟨b0, b1, b2⟩)) ∧ Below w.heap.size w w' := by
  have B := hide (((Below.refl w.heap.size w).alloc (Nat.le_refl _) (.cells #[.string a0, .int .i64 a1, .int .i64 a2] 38)).alloc (by simp) (.cells #[.string b0, .int .i64 b1, .int .i64 b2] 38))
  by_cases c0 : a0 = b0
  case neg =>
    obtain ⟨e1, e2⟩ := str_ne c0
    have HF := hide ((eqTaskB_not (x := ⟨a0, a1, a2⟩) (y := ⟨b0, b1, b2⟩)).2 (fun h => c0 (congrArg HlpZ.id h)))
    clear c0
    go_enter Tryd.func22, Tryd.ntmps22
    go_wp2
    go_ret
    exact ⟨ret_bool HF.out.symm, B.out⟩
  subst c0
  by_cases c1 : a1 = b1
  case neg =>
    have e1 : (a1 == b1) = false := by simpa using c1
    have e2 : (a1 != b1) = true := by simpa using c1
    have HF := hide ((eqTaskB_not (x := ⟨a0, a1, a2⟩) (y := ⟨a0, b1, b2⟩)).2 (fun h => c1 (congrArg HlpZ.sk h)))
    clear c1
    go_enter Tryd.func22, Tryd.ntmps22
    go_wp2
    go_ret
    exact ⟨ret_bool HF.out.symm, B.out⟩
  subst c1
  by_cases c2 : a2 = b2
  case neg =>
    have e1 : (a2 == b2) = false := by simpa using c2
    have e2 : (a2 != b2) = true := by simpa using c2
    have HF := hide ((eqTaskB_not (x := ⟨a0, a1, a2⟩) (y := ⟨a0, a1, b2⟩)).2 (fun h => c2 (congrArg HlpZ.n h)))
    clear c2
    go_enter Tryd.func22, Tryd.ntmps22
    go_wp2
    go_ret
    exact ⟨ret_bool HF.out.symm, B.out⟩
  subst c2
  have HF := hide (eqTaskB_iff.2 (rfl : (⟨a0, a1, a2⟩ : HlpZ) = ⟨a0, a1, a2⟩))
  go_enter Tryd.func22, Tryd.ntmps22
  go_wp2
  go_ret
  exact ⟨ret_bool HF.out.symm, B.out⟩

end Go.Proofs.YtlomloepdnojoaaDoor
