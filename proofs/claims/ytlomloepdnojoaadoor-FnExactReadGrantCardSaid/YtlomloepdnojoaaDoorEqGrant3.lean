/- eqGrant of the laws. Printed by gen_read3.py. -/
import Derived.Test.YtlomloepdnojoaaDoorReadG
namespace Go.Proofs.YtlomloepdnojoaaDoor
open Go.RowKit
set_option linter.unusedVariables false

theorem GrantZ_iff3 {a b : GrantZ} : a = b ↔ a.role = b.role ∧ a.object = b.object ∧ a.action = b.action := by cases a; cases b; simp
instance : DecidableEq GrantZ := fun a b => decidable_of_iff _ GrantZ_iff3.symm
def eqGrantB (x y : GrantZ) : Bool := decide (x = y)
theorem eqGrantB_iff {x y : GrantZ} : eqGrantB x y = true ↔ x = y := by simp [eqGrantB]
theorem eqGrantB_not {x y : GrantZ} : eqGrantB x y = false ↔ x ≠ y := by simp [eqGrantB]

set_option maxHeartbeats 1000000 in
theorem eqGrant_calls (a0 : ByteArray) (a1 : ByteArray) (a2 : Int) (b0 : ByteArray) (b1 : ByteArray) (b2 : Int) (w : World) :
    Calls Tryd.prog 33 #[.agg #[.string a0, .string a1, .int .i64 a2], .agg #[.string b0, .string b1, .int .i64 b2]] w fun e w' => e = .returned (.bool (eqGrantB ⟨a0, a1, a2⟩ ⟨b0, b1, b2⟩)) ∧ Below w.heap.size w w' := by
  have B := hide (((Below.refl w.heap.size w).alloc (Nat.le_refl _) (.cells #[.string a0, .string a1, .int .i64 a2] 51)).alloc (by simp) (.cells #[.string b0, .string b1, .int .i64 b2] 51))
  by_cases c0 : a0 = b0
  case neg =>
    obtain ⟨e1, e2⟩ := str_ne c0
    have HF := hide ((eqGrantB_not (x := ⟨a0, a1, a2⟩) (y := ⟨b0, b1, b2⟩)).2 (fun h => c0 (congrArg GrantZ.role h)))
    clear c0
    go_enter Tryd.func33, Tryd.ntmps33
    go_wp2
    go_ret
    exact ⟨ret_bool HF.out.symm, B.out⟩
  subst c0
  by_cases c1 : a1 = b1
  case neg =>
    obtain ⟨e1, e2⟩ := str_ne c1
    have HF := hide ((eqGrantB_not (x := ⟨a0, a1, a2⟩) (y := ⟨a0, b1, b2⟩)).2 (fun h => c1 (congrArg GrantZ.object h)))
    clear c1
    go_enter Tryd.func33, Tryd.ntmps33
    go_wp2
    go_ret
    exact ⟨ret_bool HF.out.symm, B.out⟩
  subst c1
  by_cases c2 : a2 = b2
  case neg =>
    have e1 : (a2 == b2) = false := by simpa using c2
    have e2 : (a2 != b2) = true := by simpa using c2
    have HF := hide ((eqGrantB_not (x := ⟨a0, a1, a2⟩) (y := ⟨a0, a1, b2⟩)).2 (fun h => c2 (congrArg GrantZ.action h)))
    clear c2
    go_enter Tryd.func33, Tryd.ntmps33
    go_wp2
    go_ret
    exact ⟨ret_bool HF.out.symm, B.out⟩
  subst c2
  have HF := hide (eqGrantB_iff.2 (rfl : (⟨a0, a1, a2⟩ : GrantZ) = ⟨a0, a1, a2⟩))
  go_enter Tryd.func33, Tryd.ntmps33
  go_wp2
  go_ret
  exact ⟨ret_bool HF.out.symm, B.out⟩

end Go.Proofs.YtlomloepdnojoaaDoor
