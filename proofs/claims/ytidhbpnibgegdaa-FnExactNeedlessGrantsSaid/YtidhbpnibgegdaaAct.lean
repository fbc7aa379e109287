/- Contracts: actions and their names. -/
import Derived.Test.YtidhbpnibgegdaaBase
import Derived.Test.YtidhbpnibgegdaaIn
import Derived.Deep.RegionHeld3
namespace Go.Proofs.Ytidhbpnibgegdaa
open Go.RowKit
set_option linter.unusedVariables false

/-- The name of an action. -/
def actName (a : Int) : ByteArray := if a = 1 then ⟨#[114, 101, 97, 100]⟩ else if a = 2 then ⟨#[99, 104, 97, 110, 103, 101]⟩ else if a = 3 then ⟨#[114, 101, 108, 101, 97, 115, 101]⟩ else ⟨#[]⟩
def isActB (a : Int) : Bool := withinB a 1 3

theorem isAction_calls (a : Int) (w : World) : Calls Try.prog 77 #[.int .i64 a] w fun e w' => e = .returned (.bool (isActB a)) ∧ w = w' := by
  go_enter Try.func77, Try.ntmps77
  go_wp2_with (go_at_call 107; refine (within_calls _ _ _ _).mono ?_; rintro e w' ⟨rfl, rfl⟩)
  go_ret
  exact ⟨rfl, rfl⟩

theorem l28Action_calls (a : Int) (w : World) : Calls Try.prog 72 #[.int .i64 a] w fun e w' => e = .returned (.bool (isActB a)) ∧ w = w' := by
  go_enter Try.func72, Try.ntmps72
  go_wp2_with (go_at_call 104; refine (l00In_calls _ _ _ _).mono ?_; rintro e w' ⟨rfl, rfl⟩)
  go_ret
  exact ⟨rfl, rfl⟩

theorem act_cases (a : Int) : a = 1 ∨ a = 2 ∨ a = 3 ∨ ((a == 1) = false ∧ (a == 2) = false ∧ (a == 3) = false ∧ actName a = ⟨#[]⟩ ∧ isActB a = false) := by
  by_cases h1 : a = 1
  · exact .inl h1
  by_cases h2 : a = 2
  · exact .inr (.inl h2)
  by_cases h3 : a = 3
  · exact .inr (.inr (.inl h3))
  refine .inr (.inr (.inr ⟨by simpa using h1, by simpa using h2, by simpa using h3, by simp [actName, h1, h2, h3], ?_⟩))
  rw [isActB, withinB_not]; omega


theorem isActB_iff {a : Int} : isActB a = true ↔ 1 ≤ a ∧ a ≤ 3 := withinB_iff

end Go.Proofs.Ytidhbpnibgegdaa
