/- The law FnExactSeriesText returns true for all arguments: its walk. -/
import Derived.Test.YtlomloepdnojoaaDoorSerT
import Derived.Test.YtlomloepdnojoaaDoorHelpI
import Derived.Test.YtlomloepdnojoaaDoorMarkI
namespace Go.Proofs.YtlomloepdnojoaaDoor
open Go.RowKit
set_option linter.unusedVariables false

set_option maxHeartbeats 2000000 in
theorem law_SeriesText (A0 : Option Addr) (n0 c0 : Nat) (x0 : List Int) (w : World) (HT : TabP w) (h0 : RdI w A0 n0 x0) :
    Calls Tryd.prog 6 #[.slice A0 n0 c0] w fun e w' => e = .returned (.bool true) ∧ Below w.heap.size w w' := by
  by_cases hn0 : n0 ≤ 1048576
  case neg =>
    have hn' : decide ((1048576 : Int) < n0) = true := by simp; omega
    go_enter Tryd.func6, Tryd.ntmps6
    go_wp2
    go_ret
    exact ⟨rfl, Below.refl _ _⟩
  have hd0 : decide ((1048576 : Int) < n0) = false := by simp; omega
  have B0 := Below.refl w.heap.size w
  go_enter Tryd.func6, Tryd.ntmps6
  go_wp2_with fail
  refine (toInt64S_calls _ _ _ _ _ (RdI.below h0 B0 (Nat.le_refl _)) hn0).mono ?_
  rintro e w1 ⟨As0, cs0, rfl, hos0, hbs0⟩
  have B1 := B0.trans (Below.mono hbs0 B0.size)
  have rs0 := RdI.of_own hos0 h0.2
  go_wp2_with fail
  refine (specSeriesText_calls _ _ _ _ _ rs0 hn0).mono ?_
  rintro e w2 ⟨rfl, hbS⟩
  have B2 := B1.trans (Below.mono hbS B1.size)
  have rs0 := RdI.below rs0 hbS (Nat.le_refl _)
  go_wp2_with fail
  refine (toInt64S_calls _ _ _ _ _ (RdI.below h0 B2 (Nat.le_refl _)) hn0).mono ?_
  rintro e w3 ⟨Ai0, ci0, rfl, hoi0, hbi0⟩
  have B3 := B2.trans (Below.mono hbi0 B2.size)
  have rs0 := RdI.below rs0 hbi0 (Nat.le_refl _)
  have ri0 := RdI.of_own hoi0 h0.2
  go_wp2_with fail
  refine (implSeriesText_calls _ _ _ _ _ (HT.below B3 (Nat.le_refl _)) ri0 hn0).mono ?_
  rintro e w4 ⟨rfl, hbI⟩
  have B4 := B3.trans (Below.mono hbI B3.size)
  have rs0 := RdI.below rs0 hbI (Nat.le_refl _)
  have ri0 := RdI.below ri0 hbI (Nat.le_refl _)
  go_wp2_with fail
  refine (toInt64S_calls _ _ _ _ _ (RdI.below h0 B4 (Nat.le_refl _)) hn0).mono ?_
  rintro e w5 ⟨Ae0, ce0, rfl, hoe0, hbe0⟩
  have B5 := B4.trans (Below.mono hbe0 B4.size)
  have rs0 := RdI.below rs0 hbe0 (Nat.le_refl _)
  have ri0 := RdI.below ri0 hbe0 (Nat.le_refl _)
  have re0 := RdI.of_own hoe0 h0.2
  go_wp2_with fail
  refine (eqInt64S_calls _ _ _ _ _ _ _ _ _ ri0 re0 hn0 hn0).mono ?_
  rintro e w6 ⟨rfl, hqe0⟩
  have hbe0' := below_of_draws hqe0
  clear hqe0
  have B6 := B5.trans (Below.mono hbe0' B5.size)
  have rs0 := RdI.below rs0 hbe0' (Nat.le_refl _)
  have ri0 := RdI.below ri0 hbe0' (Nat.le_refl _)
  have re0 := RdI.below re0 hbe0' (Nat.le_refl _)
  go_wp2
  go_ret
  exact ⟨rfl, B6⟩

end Go.Proofs.YtlomloepdnojoaaDoor
