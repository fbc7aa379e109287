/- The law FnExactSealOf returns true for all arguments: its walk. -/
import Derived.Test.YtofombleojbehaaDoorSealOf
namespace Go.Proofs.YtofombleojbehaaDoor
open Go.RowKit
set_option linter.unusedVariables false

set_option maxHeartbeats 2000000 in
theorem law_SealOf (a0 : Int) (a1 : Int) (a2 : Int) (a3 : ByteArray) (w : World) (HT : TabPM w) (h0 : I64 a0) (h1 : I64 a1) (h2 : I64 a2) (h3 : a3.size ≤ 9223372036854775807) :
    Calls Tryd.prog 5 #[.int .i64 a0, .int .i64 a1, .int .i64 a2, .string a3] w fun e w' => e = .returned (.bool true) ∧ Below w.heap.size w w' := by
  by_cases hn3 : a3.size ≤ 1048576
  case neg =>
    have hn' : decide ((1048576 : Int) < a3.size) = true := by simp; omega
    go_enter Tryd.func5, Tryd.ntmps5
    go_wp2
    go_ret
    exact ⟨rfl, Below.refl _ _⟩
  have hd3 : decide ((1048576 : Int) < a3.size) = false := by simp; omega
  have B0 := Below.refl w.heap.size w
  go_enter Tryd.func5, Tryd.ntmps5
  go_wp2_with fail
  refine (specSealOf_calls _ _ _ _ _ h0 h1 h2 h3 hn3).mono ?_
  rintro e w1 ⟨rfl, hbS⟩
  have B1 := B0.trans (Below.mono hbS B0.size)
  go_wp2_with fail
  refine (implSealOf_calls _ _ _ _ _ (HT.below B1 (Nat.le_refl _)) h0 h1 h2 h3 hn3).mono ?_
  rintro e w2 ⟨rfl, hbI⟩
  have B2 := B1.trans (Below.mono hbI B1.size)
  go_wp2
  go_ret
  exact ⟨rfl, B2⟩

end Go.Proofs.YtofombleojbehaaDoor
