/- The law FnExactCountWords returns true for all arguments: its walk. -/
import Derived.Test.YtlomloepdnojoaaGreatDoorCountS
import Derived.Test.YtlomloepdnojoaaGreatDoorCountI
import Derived.Test.YtlomloepdnojoaaGreatDoorMarkT
import Derived.Test.YtlomloepdnojoaaGreatDoorMarkI
namespace Go.Proofs.YtlomloepdnojoaaGreatDoor
open Go.RowKit
set_option linter.unusedVariables false

set_option maxRecDepth 100000 in
set_option maxHeartbeats 4000000 in
theorem law_CountWords (A0 : Option Addr) (n0 c0 : Nat) (x0 : List LineZ) (w : World) (HT : TabPM w) (h0 : RdK kLine w A0 n0 x0) (N0 : n0 ≤ 9223372036854775807) :
    Calls Tryz.prog 3 #[.slice A0 n0 c0] w fun e w' => e = .returned (.bool true) ∧ Below w.heap.size w w' := by
  have B0 := Below.refl w.heap.size w
  have z0 : w.heap.size ≤ w.heap.size := Nat.le_refl _
  go_enter Tryz.func3, Tryz.ntmps3
  go_wp2_with fail
  refine (szLineS_calls _ _ _ _ _ _ (RdK.below h0 B0 (Nat.le_refl _)) (by omega) (by omega) N0).mono ?_
  rintro e w1 ⟨r0, rfl, ra0, rb0, rc0, hz0⟩
  have z1 := hz0.size
  have B1 := B0.trans (Below.mono hz0 B0.size)
  by_cases hneg0 : r0 < 0
  case pos =>
    go_wp2
    go_ret
    exact ⟨rfl, B1⟩
  obtain ⟨hl0, F0⟩ := rc0 (by omega)
  have hn0 : n0 ≤ 1048576 := by omega
  have HF0 := hide F0
  have hx0 : MidL x0 := fun v hv => by have := F0 v hv; omega
  clear F0 rc0
  go_wp2_with fail
  refine (toLineS_calls _ _ _ _ _ (RdK.below h0 B1 (Nat.le_refl _)) hn0).mono ?_
  rintro e w2 ⟨As0, cs0, rfl, hos0, hbs0⟩
  have z2 := hbs0.size
  have B2 := B1.trans (Below.mono hbs0 B1.size)
  have rs0 := FrK.of_own (K := kLine) hos0 h0.2.1 h0.2.2
  go_wp2_with fail
  refine (specCountWords_calls _ _ _ _ _ rs0.rd hn0 hx0).mono ?_
  rintro e w3 ⟨Aw0, nw0, cw0, Aw1, nw1, cw1, low0, upw0, low1, upw1, rfl, rw0, Nw0, rw1, Nw1, obw, hbw⟩
  have z3 := hbw.size
  have B3 := B2.trans (Below.mono hbw B2.size)
  have rs0 := FrK.below rs0 hbw (by omega)
  go_wp2_with fail
  refine (toLineS_calls _ _ _ _ _ (RdK.below h0 B3 (Nat.le_refl _)) hn0).mono ?_
  rintro e w4 ⟨Ai0, ci0, rfl, hoi0, hbi0⟩
  have z4 := hbi0.size
  have B4 := B3.trans (Below.mono hbi0 B3.size)
  have rw0 := FrK.below rw0 hbi0 (by omega)
  have rw1 := FrI.below rw1 hbi0 (by omega)
  have ri0 := FrK.of_own (K := kLine) hoi0 h0.2.1 h0.2.2
  go_wp2_with fail
  refine (implCountWords_calls _ _ _ _ _ (HT.below B4 (Nat.le_refl _)) ri0.rd hn0 hx0).mono ?_
  rintro e w5 ⟨Ag0, ng0, cg0, Ag1, ng1, cg1, log0, upg0, log1, upg1, rfl, rg0, Ng0, rg1, Ng1, obg, hbg⟩
  have z5 := hbg.size
  have B5 := B4.trans (Below.mono hbg B4.size)
  have rw0 := FrK.below rw0 hbg (by omega)
  have rw1 := FrI.below rw1 hbg (by omega)
  have ri0 := FrK.below ri0 hbg (by omega)
  go_wp2_with fail
  refine (eqStringS_calls _ _ _ _ _ _ _ _ _ rg0.rd rw0.rd Ng0 Nw0).mono ?_
  rintro e w6 ⟨rfl, hqp0⟩
  have hbp0 := hqp0
  clear hqp0
  have z6 := hbp0.size
  have B6 := B5.trans (Below.mono hbp0 B5.size)
  have rw0 := FrK.below rw0 hbp0 (by omega)
  have rw1 := FrI.below rw1 hbp0 (by omega)
  have ri0 := FrK.below ri0 hbp0 (by omega)
  have rg0 := FrK.below rg0 hbp0 (by omega)
  have rg1 := FrI.below rg1 hbp0 (by omega)
  go_wp2_with fail
  refine (eqInt64S_calls _ _ _ _ _ _ _ _ _ rg1.rd rw1.rd Ng1 Nw1).mono ?_
  rintro e w7 ⟨rfl, hqp1⟩
  have hbp1 := below_of_draws hqp1
  clear hqp1
  have z7 := hbp1.size
  have B7 := B6.trans (Below.mono hbp1 B6.size)
  have rw0 := FrK.below rw0 hbp1 (by omega)
  have rw1 := FrI.below rw1 hbp1 (by omega)
  have ri0 := FrK.below ri0 hbp1 (by omega)
  have rg0 := FrK.below rg0 hbp1 (by omega)
  have rg1 := FrI.below rg1 hbp1 (by omega)
  go_wp2_with fail
  refine (toLineS_calls _ _ _ _ _ (RdK.below h0 B7 (Nat.le_refl _)) hn0).mono ?_
  rintro e w8 ⟨Ae0, ce0, rfl, hoe0, hbe0⟩
  have z8 := hbe0.size
  have B8 := B7.trans (Below.mono hbe0 B7.size)
  have rw0 := FrK.below rw0 hbe0 (by omega)
  have rw1 := FrI.below rw1 hbe0 (by omega)
  have ri0 := FrK.below ri0 hbe0 (by omega)
  have rg0 := FrK.below rg0 hbe0 (by omega)
  have rg1 := FrI.below rg1 hbe0 (by omega)
  have re0 := FrK.of_own (K := kLine) hoe0 h0.2.1 h0.2.2
  go_wp2_with fail
  refine (eqLineS_calls _ _ _ _ _ _ _ _ _ ri0.rd re0.rd hn0 hn0).mono ?_
  rintro e w9 ⟨rfl, hqq0⟩
  have hbq0 := hqq0
  clear hqq0
  have z9 := hbq0.size
  have B9 := B8.trans (Below.mono hbq0 B8.size)
  have rw0 := FrK.below rw0 hbq0 (by omega)
  have rw1 := FrI.below rw1 hbq0 (by omega)
  have ri0 := FrK.below ri0 hbq0 (by omega)
  have rg0 := FrK.below rg0 hbq0 (by omega)
  have rg1 := FrI.below rg1 hbq0 (by omega)
  have re0 := FrK.below re0 hbq0 (by omega)
  go_wp2_with fail
  refine (markLineS_calls _ _ _ _ _ _ _ _ ri0 hn0 (by omega) (by omega) (by omega)).mono ?_
  rintro e w10 ⟨rfl, rk0, wk0, zk0⟩
  have z10 := wk0.size
  have B10 := Wr.below B9 wk0 (by omega) B9.size
  have rw0 := FrK.wr rw0 wk0 (by omega)
  have rw1 := FrI.wr rw1 wk0 (by omega)
  have rg0 := FrK.wr rg0 wk0 (by omega)
  have rg1 := FrI.wr rg1 wk0 (by omega)
  clear ri0 zk0
  go_wp2_with fail
  refine (eqStringS_calls _ _ _ _ _ _ _ _ _ rg0.rd rw0.rd Ng0 Nw0).mono ?_
  rintro e w11 ⟨rfl, hqr0⟩
  have hbr0 := hqr0
  clear hqr0
  have z11 := hbr0.size
  have B11 := B10.trans (Below.mono hbr0 B10.size)
  have rw0 := FrK.below rw0 hbr0 (by omega)
  have rw1 := FrI.below rw1 hbr0 (by omega)
  have rg0 := FrK.below rg0 hbr0 (by omega)
  have rg1 := FrI.below rg1 hbr0 (by omega)
  go_wp2_with fail
  refine (eqInt64S_calls _ _ _ _ _ _ _ _ _ rg1.rd rw1.rd Ng1 Nw1).mono ?_
  rintro e w12 ⟨rfl, hqr1⟩
  have hbr1 := below_of_draws hqr1
  clear hqr1
  have z12 := hbr1.size
  have B12 := B11.trans (Below.mono hbr1 B11.size)
  have rw0 := FrK.below rw0 hbr1 (by omega)
  have rw1 := FrI.below rw1 hbr1 (by omega)
  have rg0 := FrK.below rg0 hbr1 (by omega)
  have rg1 := FrI.below rg1 hbr1 (by omega)
  go_wp2_with fail
  refine (markStringS_calls _ _ _ _ _ _ _ _ rg0 Ng0 (by omega) (by omega) (by omega)).mono ?_
  rintro e w13 ⟨rfl, rm0, wm0, zm0⟩
  have z13 := wm0.size
  have B13 := Wr.below B12 wm0 (by omega) B12.size
  have rw0 := FrK.wr rw0 wm0 (by omega)
  have rw1 := FrI.wr rw1 wm0 (by omega)
  have rg1 := FrI.wr rg1 wm0 (by omega)
  clear rg0 zm0
  go_wp2_with fail
  refine (markInt64S_calls _ _ _ _ _ _ _ _ rg1 Ng1 (by omega) (by omega)).mono ?_
  rintro e w14 ⟨rfl, rm1, wm1, zm1⟩
  have z14 := wm1.size
  have B14 := Wr.below B13 wm1 (by omega) B13.size
  have rw0 := FrK.wr rw0 wm1 (by omega)
  have rw1 := FrI.wr rw1 wm1 (by omega)
  have rm0 := FrK.wr rm0 wm1 (by omega)
  clear rg1 zm1
  go_wp2_with fail
  refine (heldStringS_calls _ _ _ _ _ rm0.rd Ng0 (by omega) (by omega)).mono ?_
  rintro e w15 ⟨rfl, hbu0⟩
  have z15 := hbu0.size
  have B15 := B14.trans (Below.mono hbu0 B14.size)
  have rw0 := FrK.below rw0 hbu0 (by omega)
  have rw1 := FrI.below rw1 hbu0 (by omega)
  have rm0 := FrK.below rm0 hbu0 (by omega)
  have rm1 := FrI.below rm1 hbu0 (by omega)
  go_wp2_with fail
  refine (heldInt64S_calls _ _ _ _ _ rm1.rd Ng1 (by omega) (by omega)).mono ?_
  rintro e w16 ⟨rfl, rfl⟩
  go_wp2_with fail
  refine (toLineS_calls _ _ _ _ _ (RdK.below h0 B15 (Nat.le_refl _)) hn0).mono ?_
  rintro e w16 ⟨Aj0, cj0, rfl, hoj0, hbj0⟩
  have z16 := hbj0.size
  have B16 := B15.trans (Below.mono hbj0 B15.size)
  have rw0 := FrK.below rw0 hbj0 (by omega)
  have rw1 := FrI.below rw1 hbj0 (by omega)
  have rm0 := FrK.below rm0 hbj0 (by omega)
  have rm1 := FrI.below rm1 hbj0 (by omega)
  have rj0 := FrK.of_own (K := kLine) hoj0 h0.2.1 h0.2.2
  go_wp2_with fail
  refine (implCountWords_calls _ _ _ _ _ (HT.below B16 (Nat.le_refl _)) rj0.rd hn0 hx0).mono ?_
  rintro e w17 ⟨Ah0, nh0, ch0, Ah1, nh1, ch1, loh0, uph0, loh1, uph1, rfl, rh0, Nh0, rh1, Nh1, obh, hbh⟩
  have z17 := hbh.size
  have B17 := B16.trans (Below.mono hbh B16.size)
  have rw0 := FrK.below rw0 hbh (by omega)
  have rw1 := FrI.below rw1 hbh (by omega)
  have rm0 := FrK.below rm0 hbh (by omega)
  have rm1 := FrI.below rm1 hbh (by omega)
  have rj0 := FrK.below rj0 hbh (by omega)
  go_wp2_with fail
  refine (eqStringS_calls _ _ _ _ _ _ _ _ _ rh0.rd rw0.rd Nh0 Nw0).mono ?_
  rintro e w18 ⟨rfl, hqv0⟩
  have hbv0 := hqv0
  clear hqv0
  have z18 := hbv0.size
  have B18 := B17.trans (Below.mono hbv0 B17.size)
  have rw0 := FrK.below rw0 hbv0 (by omega)
  have rw1 := FrI.below rw1 hbv0 (by omega)
  have rm0 := FrK.below rm0 hbv0 (by omega)
  have rm1 := FrI.below rm1 hbv0 (by omega)
  have rh0 := FrK.below rh0 hbv0 (by omega)
  have rh1 := FrI.below rh1 hbv0 (by omega)
  go_wp2_with fail
  refine (eqInt64S_calls _ _ _ _ _ _ _ _ _ rh1.rd rw1.rd Nh1 Nw1).mono ?_
  rintro e w19 ⟨rfl, hqv1⟩
  have hbv1 := below_of_draws hqv1
  clear hqv1
  have z19 := hbv1.size
  have B19 := B18.trans (Below.mono hbv1 B18.size)
  have rw0 := FrK.below rw0 hbv1 (by omega)
  have rw1 := FrI.below rw1 hbv1 (by omega)
  have rm0 := FrK.below rm0 hbv1 (by omega)
  have rm1 := FrI.below rm1 hbv1 (by omega)
  have rh0 := FrK.below rh0 hbv1 (by omega)
  have rh1 := FrI.below rh1 hbv1 (by omega)
  go_wp2_with fail
  refine (heldStringS_calls _ _ _ _ _ rm0.rd Ng0 (by omega) (by omega)).mono ?_
  rintro e w20 ⟨rfl, hbx0⟩
  have z20 := hbx0.size
  have B20 := B19.trans (Below.mono hbx0 B19.size)
  have rw0 := FrK.below rw0 hbx0 (by omega)
  have rw1 := FrI.below rw1 hbx0 (by omega)
  have rm0 := FrK.below rm0 hbx0 (by omega)
  have rm1 := FrI.below rm1 hbx0 (by omega)
  have rh0 := FrK.below rh0 hbx0 (by omega)
  have rh1 := FrI.below rh1 hbx0 (by omega)
  go_wp2_with fail
  refine (heldInt64S_calls _ _ _ _ _ rm1.rd Ng1 (by omega) (by omega)).mono ?_
  rintro e w21 ⟨rfl, rfl⟩
  go_wp2
  go_ret
  exact ⟨rfl, B20⟩

end Go.Proofs.YtlomloepdnojoaaGreatDoor
