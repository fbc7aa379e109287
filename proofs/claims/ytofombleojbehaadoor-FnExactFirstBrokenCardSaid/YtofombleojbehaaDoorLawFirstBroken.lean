/- The law FnExactFirstBroken returns true for all arguments: its walk. -/
import Derived.Test.YtofombleojbehaaDoorLogS
namespace Go.Proofs.YtofombleojbehaaDoor
open Go.RowKit
set_option linter.unusedVariables false

set_option maxHeartbeats 2000000 in
theorem law_FirstBroken (A0 : Option Addr) (n0 c0 : Nat) (x0 : List LineZ) (w : World) (HT : TabPM w) (h0 : RdK kLine w A0 n0 x0) (N0 : n0 ≤ 9223372036854775807) :
    Calls Tryd.prog 7 #[.slice A0 n0 c0] w fun e w' => e = .returned (.bool true) ∧ Below w.heap.size w w' := by
  have B0 := Below.refl w.heap.size w
  go_enter Tryd.func7, Tryd.ntmps7
  go_wp2_with fail
  refine (szLineS_calls _ _ _ _ _ _ (RdK.below h0 B0 (Nat.le_refl _)) (by omega) (by omega) N0).mono ?_
  rintro e w1 ⟨r0, rfl, ra0, rb0, rc0, hz0⟩
  have B1 := B0.trans (Below.mono hz0 B0.size)
  by_cases hneg0 : r0 < 0
  case pos =>
    go_wp2
    go_ret
    exact ⟨rfl, B1⟩
  obtain ⟨hl0, F0⟩ := rc0 (by omega)
  have hn0 : n0 ≤ 1048576 := by omega
  have HF0 := hide F0
  have hx0 : MidL x0 := fun v hv => by have := F0 v hv; omega
  clear F0 rc0
  go_wp2_with fail
  refine (toLineS_calls _ _ _ _ _ (RdK.below h0 B1 (Nat.le_refl _)) hn0).mono ?_
  rintro e w2 ⟨As0, cs0, rfl, hos0, hbs0⟩
  have B2 := B1.trans (Below.mono hbs0 B1.size)
  have rs0 := RdK.of_own (K := kLine) hos0 h0.2.1 h0.2.2
  go_wp2_with fail
  refine (specFirstBroken_calls _ _ _ _ _ rs0 hn0 hx0).mono ?_
  rintro e w3 ⟨rfl, hbS⟩
  have B3 := B2.trans (Below.mono hbS B2.size)
  have rs0 := RdK.below rs0 hbS (Nat.le_refl _)
  go_wp2_with fail
  refine (toLineS_calls _ _ _ _ _ (RdK.below h0 B3 (Nat.le_refl _)) hn0).mono ?_
  rintro e w4 ⟨Ai0, ci0, rfl, hoi0, hbi0⟩
  have B4 := B3.trans (Below.mono hbi0 B3.size)
  have rs0 := RdK.below rs0 hbi0 (Nat.le_refl _)
  have ri0 := RdK.of_own (K := kLine) hoi0 h0.2.1 h0.2.2
  go_wp2_with fail
  refine (implFirstBroken_calls _ _ _ _ _ (HT.below B4 (Nat.le_refl _)) ri0 hn0 hx0).mono ?_
  rintro e w5 ⟨rfl, hbI⟩
  have B5 := B4.trans (Below.mono hbI B4.size)
  have rs0 := RdK.below rs0 hbI (Nat.le_refl _)
  have ri0 := RdK.below ri0 hbI (Nat.le_refl _)
  go_wp2_with fail
  refine (toLineS_calls _ _ _ _ _ (RdK.below h0 B5 (Nat.le_refl _)) hn0).mono ?_
  rintro e w6 ⟨Ae0, ce0, rfl, hoe0, hbe0⟩
  have B6 := B5.trans (Below.mono hbe0 B5.size)
  have rs0 := RdK.below rs0 hbe0 (Nat.le_refl _)
  have ri0 := RdK.below ri0 hbe0 (Nat.le_refl _)
  have re0 := RdK.of_own (K := kLine) hoe0 h0.2.1 h0.2.2
  go_wp2_with fail
  refine (eqLineS_calls _ _ _ _ _ _ _ _ _ ri0 re0 hn0 hn0).mono ?_
  rintro e w7 ⟨rfl, hqe0⟩
  have hbe0' := hqe0
  have B7 := B6.trans (Below.mono hbe0' B6.size)
  have rs0 := RdK.below rs0 hbe0' (Nat.le_refl _)
  have ri0 := RdK.below ri0 hbe0' (Nat.le_refl _)
  have re0 := RdK.below re0 hbe0' (Nat.le_refl _)
  go_wp2
  go_ret
  exact ⟨rfl, B7⟩

end Go.Proofs.YtofombleojbehaaDoor
