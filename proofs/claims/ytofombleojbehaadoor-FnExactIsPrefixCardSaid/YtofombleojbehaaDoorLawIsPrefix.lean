/- The law FnExactIsPrefix returns true for all arguments: its walk. -/
import Derived.Test.YtofombleojbehaaDoorPrefix
namespace Go.Proofs.YtofombleojbehaaDoor
open Go.RowKit
set_option linter.unusedVariables false

set_option maxHeartbeats 2000000 in
theorem law_IsPrefix (A0 : Option Addr) (n0 c0 : Nat) (x0 : List LineZ) (A1 : Option Addr) (n1 c1 : Nat) (x1 : List LineZ) (w : World) (HT : TabPM w) (h0 : RdK kLine w A0 n0 x0) (N0 : n0 ≤ 9223372036854775807) (h1 : RdK kLine w A1 n1 x1) (N1 : n1 ≤ 9223372036854775807) :
    Calls Tryd.prog 8 #[.slice A0 n0 c0, .slice A1 n1 c1] w fun e w' => e = .returned (.bool true) ∧ Below w.heap.size w w' := by
  have B0 := Below.refl w.heap.size w
  go_enter Tryd.func8, Tryd.ntmps8
  go_wp2_with fail
  refine (szLineS_calls _ _ _ _ _ _ (RdK.below h0 B0 (Nat.le_refl _)) (by omega) (by omega) N0).mono ?_
  rintro e w1 ⟨r0, rfl, ra0, rb0, rc0, hz0⟩
  have B1 := B0.trans (Below.mono hz0 B0.size)
  by_cases hneg0 : r0 < 0
  case pos =>
    go_wp2
    go_ret
    exact ⟨rfl, B1⟩
  obtain ⟨hl0, F0⟩ := rc0 (by omega)
  have hn0 : n0 ≤ 1048576 := by omega
  have HF0 := hide F0
  have hx0 : MidL x0 := fun v hv => by have := F0 v hv; omega
  clear F0 rc0
  go_wp2_with fail
  refine (szLineS_calls _ _ _ _ _ _ (RdK.below h1 B1 (Nat.le_refl _)) (by omega) (by omega) N1).mono ?_
  rintro e w2 ⟨r1, rfl, ra1, rb1, rc1, hz1⟩
  have B2 := B1.trans (Below.mono hz1 B1.size)
  by_cases hneg1 : r1 < 0
  case pos =>
    go_wp2
    go_ret
    exact ⟨rfl, B2⟩
  obtain ⟨hl1, F1⟩ := rc1 (by omega)
  have hn1 : n1 ≤ 1048576 := by omega
  have HF1 := hide F1
  have hx1 : MidL x1 := fun v hv => by have := F1 v hv; omega
  clear F1 rc1
  go_wp2_with fail
  refine (toLineS_calls _ _ _ _ _ (RdK.below h0 B2 (Nat.le_refl _)) hn0).mono ?_
  rintro e w3 ⟨As0, cs0, rfl, hos0, hbs0⟩
  have B3 := B2.trans (Below.mono hbs0 B2.size)
  have ccs0 := own_cap hos0
  have rs0 := RdK.of_own (K := kLine) hos0 h0.2.1 h0.2.2
  go_wp2_with fail
  refine (toLineS_calls _ _ _ _ _ (RdK.below h1 B3 (Nat.le_refl _)) hn1).mono ?_
  rintro e w4 ⟨As1, cs1, rfl, hos1, hbs1⟩
  have B4 := B3.trans (Below.mono hbs1 B3.size)
  have rs0 := RdK.below rs0 hbs1 (Nat.le_refl _)
  have ccs1 := own_cap hos1
  have rs1 := RdK.of_own (K := kLine) hos1 h1.2.1 h1.2.2
  go_wp2_with fail
  refine (specIsPrefix_calls _ _ _ _ _ _ _ _ _ rs0 rs1 hn0 hn1 hx0 hx1 ccs0 ccs1).mono ?_
  rintro e w5 ⟨rfl, hbS⟩
  have B5 := B4.trans (Below.mono hbS B4.size)
  have rs0 := RdK.below rs0 hbS (Nat.le_refl _)
  have rs1 := RdK.below rs1 hbS (Nat.le_refl _)
  go_wp2_with fail
  refine (toLineS_calls _ _ _ _ _ (RdK.below h0 B5 (Nat.le_refl _)) hn0).mono ?_
  rintro e w6 ⟨Ai0, ci0, rfl, hoi0, hbi0⟩
  have B6 := B5.trans (Below.mono hbi0 B5.size)
  have rs0 := RdK.below rs0 hbi0 (Nat.le_refl _)
  have rs1 := RdK.below rs1 hbi0 (Nat.le_refl _)
  have cci0 := own_cap hoi0
  have ri0 := RdK.of_own (K := kLine) hoi0 h0.2.1 h0.2.2
  go_wp2_with fail
  refine (toLineS_calls _ _ _ _ _ (RdK.below h1 B6 (Nat.le_refl _)) hn1).mono ?_
  rintro e w7 ⟨Ai1, ci1, rfl, hoi1, hbi1⟩
  have B7 := B6.trans (Below.mono hbi1 B6.size)
  have rs0 := RdK.below rs0 hbi1 (Nat.le_refl _)
  have rs1 := RdK.below rs1 hbi1 (Nat.le_refl _)
  have ri0 := RdK.below ri0 hbi1 (Nat.le_refl _)
  have cci1 := own_cap hoi1
  have ri1 := RdK.of_own (K := kLine) hoi1 h1.2.1 h1.2.2
  go_wp2_with fail
  refine (implIsPrefix_calls _ _ _ _ _ _ _ _ _ (HT.below B7 (Nat.le_refl _)) ri0 ri1 hn0 hn1 hx0 hx1 cci0 cci1).mono ?_
  rintro e w8 ⟨rfl, hbI⟩
  have B8 := B7.trans (Below.mono hbI B7.size)
  have rs0 := RdK.below rs0 hbI (Nat.le_refl _)
  have rs1 := RdK.below rs1 hbI (Nat.le_refl _)
  have ri0 := RdK.below ri0 hbI (Nat.le_refl _)
  have ri1 := RdK.below ri1 hbI (Nat.le_refl _)
  go_wp2_with fail
  refine (toLineS_calls _ _ _ _ _ (RdK.below h0 B8 (Nat.le_refl _)) hn0).mono ?_
  rintro e w9 ⟨Ae0, ce0, rfl, hoe0, hbe0⟩
  have B9 := B8.trans (Below.mono hbe0 B8.size)
  have rs0 := RdK.below rs0 hbe0 (Nat.le_refl _)
  have rs1 := RdK.below rs1 hbe0 (Nat.le_refl _)
  have ri0 := RdK.below ri0 hbe0 (Nat.le_refl _)
  have ri1 := RdK.below ri1 hbe0 (Nat.le_refl _)
  have cce0 := own_cap hoe0
  have re0 := RdK.of_own (K := kLine) hoe0 h0.2.1 h0.2.2
  go_wp2_with fail
  refine (eqLineS_calls _ _ _ _ _ _ _ _ _ ri0 re0 hn0 hn0).mono ?_
  rintro e w10 ⟨rfl, hqe0⟩
  have hbe0' := hqe0
  have B10 := B9.trans (Below.mono hbe0' B9.size)
  have rs0 := RdK.below rs0 hbe0' (Nat.le_refl _)
  have rs1 := RdK.below rs1 hbe0' (Nat.le_refl _)
  have ri0 := RdK.below ri0 hbe0' (Nat.le_refl _)
  have ri1 := RdK.below ri1 hbe0' (Nat.le_refl _)
  have re0 := RdK.below re0 hbe0' (Nat.le_refl _)
  go_wp2_with fail
  refine (toLineS_calls _ _ _ _ _ (RdK.below h1 B10 (Nat.le_refl _)) hn1).mono ?_
  rintro e w11 ⟨Ae1, ce1, rfl, hoe1, hbe1⟩
  have B11 := B10.trans (Below.mono hbe1 B10.size)
  have rs0 := RdK.below rs0 hbe1 (Nat.le_refl _)
  have rs1 := RdK.below rs1 hbe1 (Nat.le_refl _)
  have ri0 := RdK.below ri0 hbe1 (Nat.le_refl _)
  have ri1 := RdK.below ri1 hbe1 (Nat.le_refl _)
  have re0 := RdK.below re0 hbe1 (Nat.le_refl _)
  have cce1 := own_cap hoe1
  have re1 := RdK.of_own (K := kLine) hoe1 h1.2.1 h1.2.2
  go_wp2_with fail
  refine (eqLineS_calls _ _ _ _ _ _ _ _ _ ri1 re1 hn1 hn1).mono ?_
  rintro e w12 ⟨rfl, hqe1⟩
  have hbe1' := hqe1
  have B12 := B11.trans (Below.mono hbe1' B11.size)
  have rs0 := RdK.below rs0 hbe1' (Nat.le_refl _)
  have rs1 := RdK.below rs1 hbe1' (Nat.le_refl _)
  have ri0 := RdK.below ri0 hbe1' (Nat.le_refl _)
  have ri1 := RdK.below ri1 hbe1' (Nat.le_refl _)
  have re0 := RdK.below re0 hbe1' (Nat.le_refl _)
  have re1 := RdK.below re1 hbe1' (Nat.le_refl _)
  go_wp2
  go_ret
  exact ⟨rfl, B12⟩

end Go.Proofs.YtofombleojbehaaDoor
